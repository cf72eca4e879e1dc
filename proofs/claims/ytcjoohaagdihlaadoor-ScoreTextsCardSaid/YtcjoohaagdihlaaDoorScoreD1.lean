/- Contracts of the functions on scores: each returns what the plain function of the bits says, in every world. -/
import Derived.Test.YtcjoohaagdihlaaDoorProg
import Derived.WalkKit
import Derived.WalkLawsBesides
import Derived.KernelRfl
import Derived.Test.YtcjoohaagdihlaaDoorMem
import Derived.Test.YtcjoohaagdihlaaDoorPlainScore
namespace Go.Proofs.YtcjoohaagdihlaaDoor.Score
open Go.RowKit Go.Lt
set_option linter.unusedVariables false

theorem x72 : Extern.find Tryd.f102 = some Extern.MathFloatBits.float64frombits := by kernel_rfl
theorem n72 : Extern.findNext Tryd.f102 = none := by kernel_rfl
theorem frombits (n : Int) (w : World) : (callFunc 102 #[.int .u64 n]).run Tryd.prog w = .ok (.value (.float .f64 n.toNat)) w := by
  rw [run_callFunc_extern Tryd.func102 (by kernel_rfl) (by kernel_rfl) n72 x72]
  rfl
theorem x24 : Extern.find Tryd.f105 = some Extern.MathFloatBits.float64bits := by kernel_rfl
theorem n24 : Extern.findNext Tryd.f105 = none := by kernel_rfl
theorem tobits (n : Nat) (w : World) : (callFunc 105 #[.float .f64 n]).run Tryd.prog w = .ok (.value (.int .u64 n)) w := by
  rw [run_callFunc_extern Tryd.func105 (by kernel_rfl) (by kernel_rfl) n24 x24]
  rfl
theorem ret_u64 {a b : Int} (h : a = b) : Ending.returned (.int .u64 a) = .returned (.int .u64 b) := by rw [h]
theorem ret_int {k : IntKind} {a b : Int} (h : a = b) : Ending.returned (.int k a) = .returned (.int k b) := by rw [h]
theorem ret_bool {a b : Bool} (h : a = b) : Ending.returned (.bool a) = .returned (.bool b) := by rw [h]
theorem Of13 (b : Nat) (w : World) : Calls Tryd.prog 47 #[.int .u64 b] w fun e w' => e = .returned (.float .f64 b) ∧ w = w' := by
  have h := frombits b
  go_enter Tryd.func47, Tryd.ntmps47
  go_wp2
  go_ret
  exact ⟨rfl, rfl⟩
theorem nan_int (b : Nat) : decide ((9218868437227405312 : Int) < (b : Int) % 9223372036854775808) = nanB b := by
  unfold nanB rung infR
  rw [Bool.eq_iff_iff]; simp only [decide_eq_true_eq]; omega
theorem Nan73 (b : Nat) (w : World) : Calls Tryd.prog 132 #[.int .u64 b] w fun e w' => e = .returned (.bool (nanB b)) ∧ w = w' := by
  go_enter Tryd.func132, Tryd.ntmps132
  go_wp2
  go_ret
  exact ⟨ret_bool (nan_int b), rfl⟩
theorem wrap_sub (b : Nat) (h : b ≤ 18446744073709551615) : IntKind.u64.wrap (18446744073709551615 - (b : Int)) = 18446744073709551615 - (b : Int) := IntWalk.u64_in _ (by omega)
theorem wrap_add (b : Nat) (h : b < 9223372036854775808) : IntKind.u64.wrap ((b : Int) + 9223372036854775808) = (b : Int) + 9223372036854775808 := IntWalk.u64_in _ (by omega)
theorem key_nan {b : Nat} (h : nanB b = true) : key b = 0 := by simp [key, h]
theorem key_high {b : Nat} (hn : nanB b = false) (h : b = 9223372036854775808) : key b = 9223372036854775808 := by subst h; simp [key, hn]
theorem key_neg {b : Nat} (hn : nanB b = false) (h1 : ¬ b = 9223372036854775808) (h : 9223372036854775808 ≤ b) : key b = 18446744073709551615 - b := by
  unfold key
  rw [hn]
  simp only [Bool.false_eq_true, if_false]
  rw [if_neg (by omega), if_pos (by omega)]
theorem key_pos {b : Nat} (hn : nanB b = false) (h : b < 9223372036854775808) : key b = b + 9223372036854775808 := by
  unfold key
  rw [hn]
  simp only [Bool.false_eq_true, if_false]
  rw [if_neg (by omega), if_neg (by omega)]
theorem ord_ne (b : Nat) : (FloatKind.f64.format.order b b != some .eq) = nanB b := by
  show (Ieee.double.order b b != some .eq) = nanB b
  cases h : nanB b
  · rw [order_eq h h, compare_int, if_neg (by omega), if_pos rfl]; rfl
  · rw [order_nan_left h]; rfl
theorem ord_eq (b : Nat) : (FloatKind.f64.format.order b b == some .eq) = !nanB b := by
  have := ord_ne b
  rw [bne] at this
  rw [← this]; simp
theorem ord_lt {a b : Nat} (ha64 : a < 2 ^ 64) (hb64 : b < 2 ^ 64) (ha : nanB a = false) (hb : nanB b = false) : (FloatKind.f64.format.order a b == some .lt) = decide (key a < key b) := by
  show (Ieee.double.order a b == some .lt) = _
  rw [order_eq ha hb, compare_int, Bool.eq_iff_iff]
  have := key_lt ha64 hb64 ha hb
  by_cases h : sv a < sv b
  · rw [if_pos h]; simpa using this.2 h
  · rw [if_neg h]
    have h' : ¬ key a < key b := fun x => h (this.1 x)
    by_cases h2 : sv a = sv b
    · rw [if_pos h2]; simpa using h'
    · rw [if_neg h2]; simpa using h'
theorem ord_gt_key {a b : Nat} (ha64 : a < 2 ^ 64) (hb64 : b < 2 ^ 64) (ha : nanB a = false) (hb : nanB b = false) : (FloatKind.f64.format.order a b == some .gt) = decide (key b < key a) := by
  show (Ieee.double.order a b == some .gt) = _
  rw [order_eq ha hb, compare_int, Bool.eq_iff_iff]
  have := key_lt hb64 ha64 hb ha
  by_cases h : sv a < sv b
  · rw [if_pos h]
    have h' : ¬ key b < key a := fun x => by have := this.1 x; omega
    simpa using h'
  · rw [if_neg h]
    by_cases h2 : sv a = sv b
    · rw [if_pos h2]
      have h' : ¬ key b < key a := fun x => by have := this.1 x; omega
      simpa using h'
    · rw [if_neg h2]
      simpa using this.2 (by omega)
theorem key_pos' {b : Nat} (h : b < 2 ^ 64) (hn : nanB b = false) : 0 < key b := by
  have hr : rung b ≤ infR := by simpa [nanB] using hn
  unfold rung infR at hr
  unfold key
  rw [hn]
  simp only [Bool.false_eq_true, if_false]
  split
  · omega
  · split <;> omega
theorem Less16 (a b : Nat) (ha : Hid (a < 2 ^ 64)) (hb : Hid (b < 2 ^ 64)) (w : World) :
    Calls Tryd.prog 110 #[.float .f64 a, .float .f64 b] w fun e w' => e = .returned (.bool (decide (key a < key b))) ∧ w = w' := by
  have oa := ord_ne a
  have ob := ord_ne b
  have ob' := ord_eq b
  by_cases hna : nanB a = true
  · rw [hna] at oa
    by_cases hnb : nanB b = true
    · rw [hnb] at ob ob'
      have hf := hide (show false = decide (key a < key b) by rw [key_nan hna, key_nan hnb]; rfl)
      clear hna hnb
      go_enter Tryd.func110, Tryd.ntmps110
      go_wp2
      go_ret
      exact ⟨ret_bool hf.out, rfl⟩
    · have hnb : nanB b = false := by simpa using hnb
      rw [hnb] at ob ob'
      have hf := hide (show true = decide (key a < key b) by rw [key_nan hna]; simpa using key_pos' hb.out hnb)
      clear hna hnb
      go_enter Tryd.func110, Tryd.ntmps110
      go_wp2
      go_ret
      exact ⟨ret_bool hf.out, rfl⟩
  · have hna : nanB a = false := by simpa using hna
    rw [hna] at oa
    by_cases hnb : nanB b = true
    · rw [hnb] at ob ob'
      have hf := hide (show false = decide (key a < key b) by rw [key_nan hnb]; simp)
      clear hna hnb
      go_enter Tryd.func110, Tryd.ntmps110
      go_wp2
      go_ret
      exact ⟨ret_bool hf.out, rfl⟩
    · have hnb : nanB b = false := by simpa using hnb
      rw [hnb] at ob ob'
      have hl := ord_lt ha.out hb.out hna hnb
      clear hna hnb
      go_enter Tryd.func110, Tryd.ntmps110
      go_wp2
      go_ret
      exact ⟨rfl, rfl⟩
theorem ord_zero {b : Nat} (hn : nanB b = false) : (FloatKind.f64.format.order b 0 == some .eq) = decide (rung b = 0) := by
  show (Ieee.double.order b 0 == some .eq) = _
  have h0 : sv 0 = 0 := by decide
  rw [order_eq hn (by decide), h0, compare_int, Bool.eq_iff_iff]
  have hv : sv b = 0 ↔ rung b = 0 := by
    have : V (rung b) = 0 ↔ rung b = 0 := by
      constructor
      · intro h
        rcases Nat.eq_zero_or_pos (rung b) with h1 | h1
        · exact h1
        · have := V_mono h1; omega
      · intro h; rw [h]; rfl
    unfold sv
    split <;> omega
  by_cases h : rung b = 0
  · have := hv.2 h
    rw [if_neg (by omega), if_pos this]; simpa using h
  · have : ¬ sv b = 0 := fun x => h (hv.1 x)
    rw [if_neg this]
    split <;> simpa using h
theorem or_high (b : Nat) (h : b < 9223372036854775808) : bits .or .u64 (b : Int) 9223372036854775808 = (b : Int) + 9223372036854775808 := by
  have e : bits .or .u64 (b : Int) ((9223372036854775808 : Nat) : Int) = _ := u64_or_nat b 9223372036854775808 (by omega) (by omega)
  have h2 : b ||| 9223372036854775808 = b + 9223372036854775808 := by
    have h3 := Nat.two_pow_add_eq_or_of_lt (i := 63) (b := b) (by omega) 1
    rw [show 2 ^ 63 * 1 = 9223372036854775808 from rfl] at h3
    rw [Nat.or_comm, ← h3, Nat.add_comm]
  rw [h2] at e
  exact e.trans (by omega)
theorem not_u64 (b : Nat) (h : b < 18446744073709551616) : bits .xor .u64 IntKind.u64.max (b : Int) = ((18446744073709551615 - b : Nat) : Int) := by
  show IntKind.u64.wrap ((BitVec.ofInt 64 IntKind.u64.max ^^^ BitVec.ofInt 64 (b : Int)).toNat : Int) = _
  have h1 : BitVec.ofInt 64 IntKind.u64.max = BitVec.allOnes 64 := by decide
  rw [h1, BitVec.allOnes_xor, BitVec.toNat_not, ofInt_u64 b h, IntKind.wrap_u64]
  omega
/-- the place of the last one in order -/
def best (bs : List Nat) : Nat → Int
  | 0 => -1
  | k + 1 => if best bs k < 0 then (k : Int) else if key (bs.getD (best bs k).toNat 0) < key (bs.getD k 0) then (k : Int) else best bs k
theorem best_lo (bs : List Nat) (k : Nat) : -1 ≤ best bs k ∧ best bs k < k := by
  induction k with
  | zero => simp [best]
  | succ k ih =>
    simp only [best]
    split
    · omega
    · split <;> omega
theorem Inf74 (w : World) : Calls Tryd.prog 108 #[.int .i64 1] w fun e w' => e = .returned (.float .f64 9218868437227405312) ∧ w = w' := by
  have h := frombits 9218868437227405312
  go_enter Tryd.func108, Tryd.ntmps108
  go_wp2
  go_ret
  exact ⟨rfl, rfl⟩
theorem NaN75 (w : World) : Calls Tryd.prog 109 #[] w fun e w' => e = .returned (.float .f64 9221120237041090561) ∧ w = w' := by
  have h := frombits 9221120237041090561
  go_enter Tryd.func109, Tryd.ntmps109
  go_wp2
  go_ret
  exact ⟨rfl, rfl⟩
theorem Copy76 (w : World) : Calls Tryd.prog 111 #[.float .f64 0, .float .f64 13830554455654793216] w fun e w' => e = .returned (.float .f64 9223372036854775808) ∧ w = w' := by
  have h := frombits
  have h' := tobits
  have b1 : True → bits .andNot .u64 0 9223372036854775808 = 0 := fun _ => by decide +kernel
  have b2 : True → bits .and .u64 13830554455654793216 9223372036854775808 = 9223372036854775808 := fun _ => by decide +kernel
  have b3 : True → bits .or .u64 0 9223372036854775808 = 9223372036854775808 := fun _ => by decide +kernel
  go_enter Tryd.func111, Tryd.ntmps111
  go_wp2
  go_ret
  exact ⟨rfl, rfl⟩
theorem abs_bits (b : Nat) (h : b < 18446744073709551616) : bits .andNot .u64 (b : Int) 9223372036854775808 = (rung b : Int) := by
  have e : bits .andNot .u64 (b : Int) ((9223372036854775808 : Nat) : Int) = _ := u64_andNot_nat b 9223372036854775808 h (by omega)
  have h2 : b &&& (18446744073709551615 - 9223372036854775808) = rung b := Nat.and_two_pow_sub_one_eq_mod b 63
  rw [h2] at e
  exact e
theorem Abs149 (b : Nat) (hb : Hid (b < 18446744073709551616)) (w : World) : Calls Tryd.prog 183 #[.float .f64 b] w fun e w' => e = .returned (.float .f64 (rung b)) ∧ w = w' := by
  have h := frombits
  have h' := tobits
  have b1 : True → bits .andNot .u64 (b : Int) 9223372036854775808 = (rung b : Int) := fun _ => abs_bits b hb.out
  go_enter Tryd.func183, Tryd.ntmps183
  go_wp2
  go_ret
  exact ⟨rfl, rfl⟩
theorem rung_rung (b : Nat) : rung (rung b) = rung b := by unfold rung; omega
theorem nan_rung (b : Nat) : nanB (rung b) = nanB b := by unfold nanB; rw [rung_rung]
theorem sv_rung (b : Nat) : sv (rung b) = V (rung b) := by
  have : negB (rung b) = false := by unfold negB rung; simp
  unfold sv; rw [this, rung_rung]; simp
def oddB (b : Nat) : Bool := decide (infR ≤ rung b)
theorem ord_max (b : Nat) : (FloatKind.f64.format.order (rung b) 9218868437227405311 == some .gt) = decide (rung b = infR) := by
  show (Ieee.double.order (rung b) 9218868437227405311 == some .gt) = _
  have hr : rung 9218868437227405311 = infR - 1 := by decide
  have hm : sv 9218868437227405311 = V (infR - 1) := by
    have : sv 9218868437227405311 = sv (rung 9218868437227405311) := by rw [show rung 9218868437227405311 = 9218868437227405311 from by decide]
    rw [this, sv_rung, hr]
  have hn : nanB 9218868437227405311 = false := by decide
  cases h : nanB b
  · have hle : rung b ≤ infR := by simpa [nanB] using h
    rw [order_eq (by rw [nan_rung]; exact h) hn, sv_rung, hm, compare_int]
    by_cases he : rung b = infR
    · have hv : V (infR - 1) < V (rung b) := by rw [he]; exact V_mono (by decide)
      generalize V (infR - 1) = p at *
      generalize V (rung b) = q at *
      rw [if_neg (by omega), if_neg (by omega), decide_eq_true he]; rfl
    · have hv : V (rung b) ≤ V (infR - 1) := by
        rcases Nat.lt_or_ge (rung b) (infR - 1) with h1 | h1
        · exact Nat.le_of_lt (V_mono h1)
        · have : rung b = infR - 1 := by omega
          rw [this]; exact Nat.le_refl _
      rw [decide_eq_false he]
      generalize V (infR - 1) = p at *
      generalize V (rung b) = q at *
      by_cases h1 : (q : Int) < p
      · rw [if_pos h1]; rfl
      · rw [if_neg h1, if_pos (by omega)]; rfl
  · have hgt : infR < rung b := by simpa [nanB] using h
    rw [order_nan_left (by rw [nan_rung]; exact h)]
    have : ¬ rung b = infR := by omega
    rw [decide_eq_false this]; rfl
theorem IsInf123 (b : Nat) (hb : Hid (b < 18446744073709551616)) (w : World) : Calls Tryd.prog 161 #[.float .f64 b, .int .i64 0] w fun e w' => e = .returned (.bool (decide (rung b = infR))) ∧ w = w' := by
  have h := ord_max b
  go_enter Tryd.func161, Tryd.ntmps161
  go_wp2_with (go_at_call 183; refine (Abs149 _ hb _).mono ?_; rintro e w' ⟨rfl, rfl⟩)
  go_ret
  exact ⟨rfl, rfl⟩
theorem Odd82 (b : Nat) (hb : Hid (b < 18446744073709551616)) (w : World) : Calls Tryd.prog 140 #[.float .f64 b] w fun e w' => e = .returned (.bool (oddB b)) ∧ w = w' := by
  have on := ord_ne b
  by_cases hn : nanB b = true
  · rw [hn] at on
    have hf := hide (show true = oddB b by
      have : infR < rung b := by simpa [nanB] using hn
      unfold oddB; rw [decide_eq_true]; omega)
    clear hn
    go_enter Tryd.func140, Tryd.ntmps140
    go_wp2_with (go_at_call 161; refine (IsInf123 _ hb _).mono ?_; rintro e w' ⟨rfl, rfl⟩)
    go_ret
    exact ⟨ret_bool hf.out, rfl⟩
  · have hn : nanB b = false := by simpa using hn
    rw [hn] at on
    have hf := hide (show decide (rung b = infR) = oddB b by
      have : rung b ≤ infR := by simpa [nanB] using hn
      unfold oddB; rw [Bool.eq_iff_iff]; simp; omega)
    clear hn
    go_enter Tryd.func140, Tryd.ntmps140
    go_wp2_with (go_at_call 161; refine (IsInf123 _ hb _).mono ?_; rintro e w' ⟨rfl, rfl⟩)
    go_ret
    exact ⟨ret_bool hf.out, rfl⟩
/-- An operation that has no answer gives some bits of one that is no number. -/
theorem run_nan {P : Program} (op : BinOp) (t : TypeId) (x y : Nat) (h4 : op = .add ∨ op = .sub ∨ op = .mul ∨ op = .quo) (h : floatBits op .f64 x y = none) (w : World) :
    ∃ r, nanB r = true ∧ r < 18446744073709551616 ∧ (binOp op t (.float .f64 x) (.float .f64 y)).run P w = .ok (.float .f64 r) w.drew := by
  refine ⟨Question.cut (.nanBits .f64 x y) (w.tape w.drawn (.nanBits .f64 x y)), ?_, ?_, ?_⟩
  · generalize w.tape w.drawn (.nanBits .f64 x y) = t
    unfold nanB rung infR Question.cut
    simp only [decide_eq_true_eq]
    have h1 := Nat.mod_lt (t / 2) (show 2 ^ 52 - 1 > 0 by decide)
    generalize t / 2 % (2 ^ 52 - 1) = q at *
    omega
  · generalize w.tape w.drawn (.nanBits .f64 x y) = t
    unfold Question.cut
    simp only
    have h1 := Nat.mod_lt (t / 2) (show 2 ^ 52 - 1 > 0 by decide)
    generalize t / 2 % (2 ^ 52 - 1) = q at *
    omega
  · rcases h4 with rfl | rfl | rfl | rfl
    all_goals
      unfold floatBits at h
      simp only at h
      simp [binOp, Op.floatArith, h, choose, Sem.run, Question.forced]
      try rfl
theorem Bump77 (w : World) : Calls Tryd.prog 112 #[.float .f64 9218868437227405312, .float .f64 18442240474082181120] w fun e w' => e = .returned (.float .f64 0) ∧ Dr w w' := by
  obtain ⟨r, hn, _, hr⟩ := run_nan (P := Tryd.prog) .add 67 9218868437227405312 18442240474082181120 (.inl rfl) (by kernel_rfl) w
  have oe := ord_eq r
  rw [hn] at oe
  clear hn
  go_enter Tryd.func112, Tryd.ntmps112
  go_wp2
  go_ret
  exact ⟨rfl, 1, rfl⟩
theorem Grow78a (w : World) : Calls Tryd.prog 113 #[.float .f64 4607182418800017408, .float .f64 4602678819172646912] w fun e w' => e = .returned (.float .f64 4611686018427387904) ∧ w = w' := by
  have h1 : True → (FloatKind.f64.format.order 4602678819172646912 0 == some .gt) = true := fun _ => by kernel_rfl
  have h2 : True → (FloatKind.f64.format.order 4602678819172646912 4607182418800017408 == some .lt) = true := fun _ => by kernel_rfl
  have h3 := fun w => run_float_arith (P := Tryd.prog) w .quo 67 .f64 4607182418800017408 4602678819172646912 4611686018427387904 (by kernel_rfl)
  have h4 : True → oddB 4611686018427387904 = false := fun _ => by kernel_rfl
  go_enter Tryd.func113, Tryd.ntmps113
  go_wp2_with (go_at_call 140; refine (Odd82 _ (show 4611686018427387904 < 18446744073709551616 by omega) _).mono ?_; rintro e w' ⟨rfl, rfl⟩)
  go_ret
  exact ⟨rfl, rfl⟩
theorem Grow78b (w : World) : Calls Tryd.prog 113 #[.float .f64 4607182418800017408, .float .f64 9221120237041090561] w fun e w' => e = .returned (.float .f64 4607182418800017408) ∧ w = w' := by
  have h1 : True → (FloatKind.f64.format.order 9221120237041090561 0 == some .gt) = false := fun _ => by kernel_rfl
  go_enter Tryd.func113, Tryd.ntmps113
  go_wp2
  go_ret
  exact ⟨rfl, rfl⟩
theorem Less16a (w : World) : Calls Tryd.prog 110 #[.float .f64 9221120237041090561, .float .f64 18442240474082181120] w fun e w' => e = .returned (.bool true) ∧ w = w' :=
  (Less16 9221120237041090561 18442240474082181120 (show _ < 2 ^ 64 by omega) (show _ < 2 ^ 64 by omega) w).mono fun e w' h => ⟨h.1.trans (ret_bool (by kernel_rfl)), h.2⟩
theorem Less16b (w : World) : Calls Tryd.prog 110 #[.float .f64 13830554455654793216, .float .f64 0] w fun e w' => e = .returned (.bool true) ∧ w = w' :=
  (Less16 13830554455654793216 0 (show _ < 2 ^ 64 by omega) (show _ < 2 ^ 64 by omega) w).mono fun e w' h => ⟨h.1.trans (ret_bool (by kernel_rfl)), h.2⟩
theorem Less16c (w : World) : Calls Tryd.prog 110 #[.float .f64 9223372036854775808, .float .f64 0] w fun e w' => e = .returned (.bool false) ∧ w = w' :=
  (Less16 9223372036854775808 0 (show _ < 2 ^ 64 by omega) (show _ < 2 ^ 64 by omega) w).mono fun e w' h => ⟨h.1.trans (ret_bool (by kernel_rfl)), h.2⟩
theorem lives20 (w : World) : Calls Tryd.prog 49 #[] w fun e w' => e = .returned (.bool true) ∧ Dr w w' := by
  have h1 : True → (FloatKind.f64.format.order 0 0 == some .eq) = true := fun _ => by kernel_rfl
  have h2 : True → (FloatKind.f64.format.order 4611686018427387904 4611686018427387904 == some .eq) = true := fun _ => by kernel_rfl
  have h3 : True → (FloatKind.f64.format.order 4607182418800017408 4607182418800017408 == some .eq) = true := fun _ => by kernel_rfl
  have h4 : ∀ W, (Op.unary .neg (.float .f64 9218868437227405312)).run Tryd.prog W = .ok (.float .f64 18442240474082181120) W := fun _ => by kernel_rfl
  go_enter Tryd.func49, Tryd.ntmps49
  go_wp2_with (first
    | (go_at_call 108; refine (Inf74 _).mono ?_; rintro e w' ⟨rfl, rfl⟩)
    | (go_at_call 109; refine (NaN75 _).mono ?_; rintro e w' ⟨rfl, rfl⟩)
    | (go_at_call 111; refine (Copy76 _).mono ?_; rintro e w' ⟨rfl, rfl⟩)
    | (go_at_call 112; refine (Bump77 _).mono ?_; rintro e w1 ⟨rfl, hd⟩)
    | (go_at_call 110; (with_reducible refine (Less16a _).mono ?_); rintro e w' ⟨rfl, rfl⟩)
    | (go_at_call 110; (with_reducible refine (Less16b _).mono ?_); rintro e w' ⟨rfl, rfl⟩)
    | (go_at_call 110; (with_reducible refine (Less16c _).mono ?_); rintro e w' ⟨rfl, rfl⟩)
    | (go_at_call 113; (with_reducible refine (Grow78a _).mono ?_); rintro e w' ⟨rfl, rfl⟩)
    | (go_at_call 113; (with_reducible refine (Grow78b _).mono ?_); rintro e w' ⟨rfl, rfl⟩))
  go_ret
  exact ⟨rfl, hd⟩
def plainB (b : Nat) : Nat := if nanB b then 9221120237041090561 else b
theorem odd_int (b : Nat) : decide ((9218868437227405312 : Int) ≤ (b : Int) % 9223372036854775808) = oddB b := by
  unfold oddB rung infR
  rw [Bool.eq_iff_iff]; simp only [decide_eq_true_eq]; omega
theorem Plain83 (b : Nat) (w : World) : Calls Tryd.prog 104 #[.int .u64 b] w fun e w' => e = .returned (.int .u64 (plainB b)) ∧ w = w' := by
  by_cases hn : nanB b = true
  · have hp := hide (show (9221120237041090561 : Int) = (plainB b : Int) by unfold plainB; rw [hn]; rfl)
    go_enter Tryd.func104, Tryd.ntmps104
    go_wp2_with (go_at_call 132; refine (Nan73 _ _).mono ?_; rintro e w' ⟨rfl, rfl⟩)
    go_ret
    exact ⟨ret_u64 hp.out, rfl⟩
  · have hn : nanB b = false := by simpa using hn
    have hp := hide (show (b : Int) = (plainB b : Int) by unfold plainB; rw [hn]; rfl)
    go_enter Tryd.func104, Tryd.ntmps104
    go_wp2_with (go_at_call 132; refine (Nan73 _ _).mono ?_; rintro e w' ⟨rfl, rfl⟩)
    go_ret
    exact ⟨ret_u64 hp.out, rfl⟩
theorem Is23 (x b : Nat) (w : World) (h : Hid (plainB x = plainB b)) : Calls Tryd.prog 45 #[.float .f64 x, .int .u64 b] w fun e w' => e = .returned (.bool true) ∧ w = w' := by
  have hx := tobits x
  have he := h.out
  clear h
  generalize hp : plainB x = p at he
  generalize hq : plainB b = q at he
  subst he
  have hp := hide hp
  have hq := hide hq
  have c1 : Hid (∀ w : World, Calls Tryd.prog 104 #[.int .u64 x] w fun e w' => e = .returned (.int .u64 p) ∧ w = w') := fun w => by have := Plain83 x w; rw [hp.out] at this; exact this
  have c2 : Hid (∀ w : World, Calls Tryd.prog 104 #[.int .u64 b] w fun e w' => e = .returned (.int .u64 p) ∧ w = w') := fun w => by have := Plain83 b w; rw [hq.out] at this; exact this
  go_enter Tryd.func45, Tryd.ntmps45
  go_wp2_with fail
  refine (c1.out _).mono ?_
  rintro e w' ⟨rfl, rfl⟩
  go_wp2_with fail
  refine (c2.out _).mono ?_
  rintro e w' ⟨rfl, rfl⟩
  go_wp2
  go_ret
  exact ⟨rfl, rfl⟩

end Go.Proofs.YtcjoohaagdihlaaDoor.Score
