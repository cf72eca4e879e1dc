/- Contracts of the functions on scores, the fifth part: infinities, sums and quotients, and the example of the law. -/
import Derived.Test.YtcjoohaagdihlaaScore4
namespace Go.Proofs.Ytcjoohaagdihlaa.Score
open Go.RowKit Go.Lt
set_option linter.unusedVariables false

theorem Inf74 (w : World) : Calls Try.prog 74 #[.int .i64 1] w fun e w' => e = .returned (.float .f64 9218868437227405312) ∧ w = w' := by
  have h := frombits 9218868437227405312
  go_enter Try.func74, Try.ntmps74
  go_wp2
  go_ret
  exact ⟨rfl, rfl⟩
theorem NaN75 (w : World) : Calls Try.prog 75 #[] w fun e w' => e = .returned (.float .f64 9221120237041090561) ∧ w = w' := by
  have h := frombits 9221120237041090561
  go_enter Try.func75, Try.ntmps75
  go_wp2
  go_ret
  exact ⟨rfl, rfl⟩
theorem Copy76 (w : World) : Calls Try.prog 76 #[.float .f64 0, .float .f64 13830554455654793216] w fun e w' => e = .returned (.float .f64 9223372036854775808) ∧ w = w' := by
  have h := frombits
  have h' := tobits
  have b1 : True → bits .andNot .u64 0 9223372036854775808 = 0 := fun _ => by decide +kernel
  have b2 : True → bits .and .u64 13830554455654793216 9223372036854775808 = 9223372036854775808 := fun _ => by decide +kernel
  have b3 : True → bits .or .u64 0 9223372036854775808 = 9223372036854775808 := fun _ => by decide +kernel
  go_enter Try.func76, Try.ntmps76
  go_wp2
  go_ret
  exact ⟨rfl, rfl⟩

theorem abs_bits (b : Nat) (h : b < 18446744073709551616) : bits .andNot .u64 (b : Int) 9223372036854775808 = (rung b : Int) := by
  have e : bits .andNot .u64 (b : Int) ((9223372036854775808 : Nat) : Int) = _ := u64_andNot_nat b 9223372036854775808 h (by omega)
  have h2 : b &&& (18446744073709551615 - 9223372036854775808) = rung b := Nat.and_two_pow_sub_one_eq_mod b 63
  rw [h2] at e
  exact e
theorem Abs149 (b : Nat) (hb : Hid (b < 18446744073709551616)) (w : World) : Calls Try.prog 149 #[.float .f64 b] w fun e w' => e = .returned (.float .f64 (rung b)) ∧ w = w' := by
  have h := frombits
  have h' := tobits
  have b1 : True → bits .andNot .u64 (b : Int) 9223372036854775808 = (rung b : Int) := fun _ => abs_bits b hb.out
  go_enter Try.func149, Try.ntmps149
  go_wp2
  go_ret
  exact ⟨rfl, rfl⟩

theorem rung_rung (b : Nat) : rung (rung b) = rung b := by unfold rung; omega
theorem nan_rung (b : Nat) : nanB (rung b) = nanB b := by unfold nanB; rw [rung_rung]
theorem sv_rung (b : Nat) : sv (rung b) = V (rung b) := by
  have : negB (rung b) = false := by unfold negB rung; simp
  unfold sv; rw [this, rung_rung]; simp
def oddB (b : Nat) : Bool := decide (infR ≤ rung b)
theorem ord_max (b : Nat) : (FloatKind.f64.format.order (rung b) 9218868437227405311 == some .gt) = decide (rung b = infR) := by
  show (Ieee.double.order (rung b) 9218868437227405311 == some .gt) = _
  have hr : rung 9218868437227405311 = infR - 1 := by decide
  have hm : sv 9218868437227405311 = V (infR - 1) := by
    have : sv 9218868437227405311 = sv (rung 9218868437227405311) := by rw [show rung 9218868437227405311 = 9218868437227405311 from by decide]
    rw [this, sv_rung, hr]
  have hn : nanB 9218868437227405311 = false := by decide
  cases h : nanB b
  · have hle : rung b ≤ infR := by simpa [nanB] using h
    rw [order_eq (by rw [nan_rung]; exact h) hn, sv_rung, hm, compare_int]
    by_cases he : rung b = infR
    · have hv : V (infR - 1) < V (rung b) := by rw [he]; exact V_mono (by decide)
      generalize V (infR - 1) = p at *
      generalize V (rung b) = q at *
      rw [if_neg (by omega), if_neg (by omega), decide_eq_true he]; rfl
    · have hv : V (rung b) ≤ V (infR - 1) := by
        rcases Nat.lt_or_ge (rung b) (infR - 1) with h1 | h1
        · exact Nat.le_of_lt (V_mono h1)
        · have : rung b = infR - 1 := by omega
          rw [this]; exact Nat.le_refl _
      rw [decide_eq_false he]
      generalize V (infR - 1) = p at *
      generalize V (rung b) = q at *
      by_cases h1 : (q : Int) < p
      · rw [if_pos h1]; rfl
      · rw [if_neg h1, if_pos (by omega)]; rfl
  · have hgt : infR < rung b := by simpa [nanB] using h
    rw [order_nan_left (by rw [nan_rung]; exact h)]
    have : ¬ rung b = infR := by omega
    rw [decide_eq_false this]; rfl

theorem IsInf123 (b : Nat) (hb : Hid (b < 18446744073709551616)) (w : World) : Calls Try.prog 123 #[.float .f64 b, .int .i64 0] w fun e w' => e = .returned (.bool (decide (rung b = infR))) ∧ w = w' := by
  have h := ord_max b
  go_enter Try.func123, Try.ntmps123
  go_wp2_with (go_at_call 149; refine (Abs149 _ hb _).mono ?_; rintro e w' ⟨rfl, rfl⟩)
  go_ret
  exact ⟨rfl, rfl⟩

theorem Odd82 (b : Nat) (hb : Hid (b < 18446744073709551616)) (w : World) : Calls Try.prog 82 #[.float .f64 b] w fun e w' => e = .returned (.bool (oddB b)) ∧ w = w' := by
  have on := ord_ne b
  by_cases hn : nanB b = true
  · rw [hn] at on
    have hf := hide (show true = oddB b by
      have : infR < rung b := by simpa [nanB] using hn
      unfold oddB; rw [decide_eq_true]; omega)
    clear hn
    go_enter Try.func82, Try.ntmps82
    go_wp2_with (go_at_call 123; refine (IsInf123 _ hb _).mono ?_; rintro e w' ⟨rfl, rfl⟩)
    go_ret
    exact ⟨ret_bool hf.out, rfl⟩
  · have hn : nanB b = false := by simpa using hn
    rw [hn] at on
    have hf := hide (show decide (rung b = infR) = oddB b by
      have : rung b ≤ infR := by simpa [nanB] using hn
      unfold oddB; rw [Bool.eq_iff_iff]; simp; omega)
    clear hn
    go_enter Try.func82, Try.ntmps82
    go_wp2_with (go_at_call 123; refine (IsInf123 _ hb _).mono ?_; rintro e w' ⟨rfl, rfl⟩)
    go_ret
    exact ⟨ret_bool hf.out, rfl⟩

/-- An operation that has no answer gives some bits of one that is no number. -/
theorem run_nan {P : Program} (op : BinOp) (t : TypeId) (x y : Nat) (h4 : op = .add ∨ op = .sub ∨ op = .mul ∨ op = .quo) (h : floatBits op .f64 x y = none) (w : World) :
    ∃ r, nanB r = true ∧ r < 18446744073709551616 ∧ (binOp op t (.float .f64 x) (.float .f64 y)).run P w = .ok (.float .f64 r) w.drew := by
  refine ⟨Question.cut (.nanBits .f64 x y) (w.tape w.drawn (.nanBits .f64 x y)), ?_, ?_, ?_⟩
  · generalize w.tape w.drawn (.nanBits .f64 x y) = t
    unfold nanB rung infR Question.cut
    simp only [decide_eq_true_eq]
    have h1 := Nat.mod_lt (t / 2) (show 2 ^ 52 - 1 > 0 by decide)
    generalize t / 2 % (2 ^ 52 - 1) = q at *
    omega
  · generalize w.tape w.drawn (.nanBits .f64 x y) = t
    unfold Question.cut
    simp only
    have h1 := Nat.mod_lt (t / 2) (show 2 ^ 52 - 1 > 0 by decide)
    generalize t / 2 % (2 ^ 52 - 1) = q at *
    omega
  · rcases h4 with rfl | rfl | rfl | rfl
    all_goals
      unfold floatBits at h
      simp only at h
      simp [binOp, Op.floatArith, h, choose, Sem.run, Question.forced]
      try rfl
end Go.Proofs.Ytcjoohaagdihlaa.Score
