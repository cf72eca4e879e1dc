/- Contracts of the functions on scores, the second part. -/
import Derived.Test.YtcjoohaagdihlaaScore1
namespace Go.Proofs.Ytcjoohaagdihlaa.Score
open Go.RowKit Go.Lt
set_option linter.unusedVariables false

theorem ord_zero {b : Nat} (hn : nanB b = false) : (FloatKind.f64.format.order b 0 == some .eq) = decide (rung b = 0) := by
  show (Ieee.double.order b 0 == some .eq) = _
  have h0 : sv 0 = 0 := by decide
  rw [order_eq hn (by decide), h0, compare_int, Bool.eq_iff_iff]
  have hv : sv b = 0 ↔ rung b = 0 := by
    have : V (rung b) = 0 ↔ rung b = 0 := by
      constructor
      · intro h
        rcases Nat.eq_zero_or_pos (rung b) with h1 | h1
        · exact h1
        · have := V_mono h1; omega
      · intro h; rw [h]; rfl
    unfold sv
    split <;> omega
  by_cases h : rung b = 0
  · have := hv.2 h
    rw [if_neg (by omega), if_pos this]; simpa using h
  · have : ¬ sv b = 0 := fun x => h (hv.1 x)
    rw [if_neg this]
    split <;> simpa using h

theorem or_high (b : Nat) (h : b < 9223372036854775808) : bits .or .u64 (b : Int) 9223372036854775808 = (b : Int) + 9223372036854775808 := by
  have e : bits .or .u64 (b : Int) ((9223372036854775808 : Nat) : Int) = _ := u64_or_nat b 9223372036854775808 (by omega) (by omega)
  have h2 : b ||| 9223372036854775808 = b + 9223372036854775808 := by
    have h3 := Nat.two_pow_add_eq_or_of_lt (i := 63) (b := b) (by omega) 1
    rw [show 2 ^ 63 * 1 = 9223372036854775808 from rfl] at h3
    rw [Nat.or_comm, ← h3, Nat.add_comm]
  rw [h2] at e
  exact e.trans (by omega)
theorem not_u64 (b : Nat) (h : b < 18446744073709551616) : bits .xor .u64 IntKind.u64.max (b : Int) = ((18446744073709551615 - b : Nat) : Int) := by
  show IntKind.u64.wrap ((BitVec.ofInt 64 IntKind.u64.max ^^^ BitVec.ofInt 64 (b : Int)).toNat : Int) = _
  have h1 : BitVec.ofInt 64 IntKind.u64.max = BitVec.allOnes 64 := by decide
  rw [h1, BitVec.allOnes_xor, BitVec.toNat_not, ofInt_u64 b h, IntKind.wrap_u64]
  omega

theorem Key14 (b : Nat) (hb : Hid (b < 18446744073709551616)) (w : World) : Calls Try.prog 14 #[.float .f64 b] w fun e w' => e = .returned (.int .u64 (key b)) ∧ w = w' := by
  have hx := tobits b
  have on := ord_ne b
  by_cases hn : nanB b = true
  · rw [hn] at on
    have h2 := hide hn
    clear hn
    go_enter Try.func14, Try.ntmps14
    go_wp2
    go_ret
    exact ⟨ret_u64 (by rw [key_nan h2.out]; rfl), rfl⟩
  · have hn : nanB b = false := by simpa using hn
    rw [hn] at on
    have oz := ord_zero hn
    by_cases h1 : rung b = 0
    · rw [decide_eq_true h1] at oz
      have h2 := hide h1
      have h3 := hide hn
      clear h1 hn
      go_enter Try.func14, Try.ntmps14
      go_wp2
      go_ret
      refine ⟨ret_u64 ?_, rfl⟩
      have e := h2.out
      unfold rung at e
      have := hb.out
      have : b = 0 ∨ b = 9223372036854775808 := by omega
      rcases this with h | h
      · rw [h]; rfl
      · rw [key_high h3.out h]; rfl
    · rw [decide_eq_false h1] at oz
      have h3 := hide hn
      have h4 := hide h1
      by_cases h2 : b < 9223372036854775808
      · have H2 : True → decide ((b : Int) < 9223372036854775808) = true := fun _ => by simp; omega
        have h5 := hide h2
        clear hn h1 h2
        go_enter Try.func14, Try.ntmps14
        go_wp2
        go_ret
        refine ⟨ret_u64 ?_, rfl⟩
        rw [key_pos h3.out h5.out, or_high b h5.out]
        omega
      · have H2 : True → decide ((b : Int) < 9223372036854775808) = false := fun _ => by simp; omega
        have h5 := hide h2
        clear hn h1 h2
        go_enter Try.func14, Try.ntmps14
        go_wp2
        go_ret
        refine ⟨ret_u64 ?_, rfl⟩
        have hh := h5.out
        have hr := h4.out
        rw [not_u64 b hb.out, key_neg h3.out (fun e => hr (by subst e; decide)) (by omega)]

/-- the place of the last one in order -/
def best (bs : List Nat) : Nat → Int
  | 0 => -1
  | k + 1 => if best bs k < 0 then (k : Int) else if key (bs.getD (best bs k).toNat 0) < key (bs.getD k 0) then (k : Int) else best bs k
theorem best_lo (bs : List Nat) (k : Nat) : -1 ≤ best bs k ∧ best bs k < k := by
  induction k with
  | zero => simp [best]
  | succ k ih =>
    simp only [best]
    split
    · omega
    · split <;> omega

end Go.Proofs.Ytcjoohaagdihlaa.Score
