/- Contracts of the functions on scores: each returns what the plain function of the bits says, in every world. -/
import Derived.Test.YtcjoohaagdihlaaProg
import Derived.WalkKit
import Derived.WalkLawsBesides
import Derived.KernelRfl
import Derived.Test.YtcjoohaagdihlaaMem
import Derived.Test.YtcjoohaagdihlaaPlainScore
namespace Go.Proofs.Ytcjoohaagdihlaa.Score
open Go.RowKit Go.Lt
set_option linter.unusedVariables false

theorem x72 : Extern.find Try.f72 = some Extern.MathFloatBits.float64frombits := by kernel_rfl
theorem n72 : Extern.findNext Try.f72 = none := by kernel_rfl
theorem frombits (n : Int) (w : World) : (callFunc 72 #[.int .u64 n]).run Try.prog w = .ok (.value (.float .f64 n.toNat)) w := by
  rw [run_callFunc_extern Try.func72 (by kernel_rfl) (by kernel_rfl) n72 x72]
  rfl
theorem x24 : Extern.find Try.f24 = some Extern.MathFloatBits.float64bits := by kernel_rfl
theorem n24 : Extern.findNext Try.f24 = none := by kernel_rfl
theorem tobits (n : Nat) (w : World) : (callFunc 24 #[.float .f64 n]).run Try.prog w = .ok (.value (.int .u64 n)) w := by
  rw [run_callFunc_extern Try.func24 (by kernel_rfl) (by kernel_rfl) n24 x24]
  rfl

theorem ret_u64 {a b : Int} (h : a = b) : Ending.returned (.int .u64 a) = .returned (.int .u64 b) := by rw [h]
theorem ret_int {k : IntKind} {a b : Int} (h : a = b) : Ending.returned (.int k a) = .returned (.int k b) := by rw [h]
theorem ret_bool {a b : Bool} (h : a = b) : Ending.returned (.bool a) = .returned (.bool b) := by rw [h]

theorem Of13 (b : Nat) (w : World) : Calls Try.prog 13 #[.int .u64 b] w fun e w' => e = .returned (.float .f64 b) ∧ w = w' := by
  have h := frombits b
  go_enter Try.func13, Try.ntmps13
  go_wp2
  go_ret
  exact ⟨rfl, rfl⟩

theorem nan_int (b : Nat) : decide ((9218868437227405312 : Int) < (b : Int) % 9223372036854775808) = nanB b := by
  unfold nanB rung infR
  rw [Bool.eq_iff_iff]; simp only [decide_eq_true_eq]; omega

theorem Nan73 (b : Nat) (w : World) : Calls Try.prog 73 #[.int .u64 b] w fun e w' => e = .returned (.bool (nanB b)) ∧ w = w' := by
  go_enter Try.func73, Try.ntmps73
  go_wp2
  go_ret
  exact ⟨ret_bool (nan_int b), rfl⟩

theorem wrap_sub (b : Nat) (h : b ≤ 18446744073709551615) : IntKind.u64.wrap (18446744073709551615 - (b : Int)) = 18446744073709551615 - (b : Int) := IntWalk.u64_in _ (by omega)
theorem wrap_add (b : Nat) (h : b < 9223372036854775808) : IntKind.u64.wrap ((b : Int) + 9223372036854775808) = (b : Int) + 9223372036854775808 := IntWalk.u64_in _ (by omega)

theorem key_nan {b : Nat} (h : nanB b = true) : key b = 0 := by simp [key, h]
theorem key_high {b : Nat} (hn : nanB b = false) (h : b = 9223372036854775808) : key b = 9223372036854775808 := by subst h; simp [key, hn]
theorem key_neg {b : Nat} (hn : nanB b = false) (h1 : ¬ b = 9223372036854775808) (h : 9223372036854775808 ≤ b) : key b = 18446744073709551615 - b := by
  unfold key
  rw [hn]
  simp only [Bool.false_eq_true, if_false]
  rw [if_neg (by omega), if_pos (by omega)]
theorem key_pos {b : Nat} (hn : nanB b = false) (h : b < 9223372036854775808) : key b = b + 9223372036854775808 := by
  unfold key
  rw [hn]
  simp only [Bool.false_eq_true, if_false]
  rw [if_neg (by omega), if_neg (by omega)]

theorem Key15 (b : Nat) (hb : Hid (b < 18446744073709551616)) (w : World) : Calls Try.prog 15 #[.int .u64 b] w fun e w' => e = .returned (.int .u64 (key b)) ∧ w = w' := by
  by_cases hn : nanB b = true
  · go_enter Try.func15, Try.ntmps15
    go_wp2_with (go_at_call 73; refine (Nan73 _ _).mono ?_; rintro e w' ⟨rfl, rfl⟩)
    go_ret
    exact ⟨ret_u64 (by rw [key_nan hn]; rfl), rfl⟩
  · have hn : nanB b = false := by simpa using hn
    by_cases h1 : b = 9223372036854775808
    · have H1 : True → ((b : Int) == 9223372036854775808) = true := fun _ => by simp; omega
      have h2 := hide h1
      clear h1
      go_enter Try.func15, Try.ntmps15
      go_wp2_with (go_at_call 73; refine (Nan73 _ _).mono ?_; rintro e w' ⟨rfl, rfl⟩)
      go_ret
      refine ⟨ret_u64 ?_, rfl⟩
      rw [key_high hn h2.out, h2.out]
    · have H1 : True → ((b : Int) == 9223372036854775808) = false := fun _ => by simp; omega
      by_cases h2 : 9223372036854775808 ≤ b
      · have H2 : True → decide ((9223372036854775808 : Int) ≤ b) = true := fun _ => by simp; omega
        have hb' : b ≤ 18446744073709551615 := by have := hb.out; omega
        have H3 : True → _ := fun _ => wrap_sub b hb'
        have h3 := hide h1
        have h4 := hide h2
        have h5 := hide hb'
        clear h1 h2 hb'
        go_enter Try.func15, Try.ntmps15
        go_wp2_with (go_at_call 73; refine (Nan73 _ _).mono ?_; rintro e w' ⟨rfl, rfl⟩)
        go_ret
        refine ⟨ret_u64 ?_, rfl⟩
        rw [key_neg hn h3.out h4.out]
        have := h5.out
        omega
      · have H2 : True → decide ((9223372036854775808 : Int) ≤ b) = false := fun _ => by simp; omega
        have hb' : b < 9223372036854775808 := by omega
        have H3 : True → _ := fun _ => wrap_add b hb'
        have h5 := hide hb'
        clear h1 h2 hb'
        go_enter Try.func15, Try.ntmps15
        go_wp2_with (go_at_call 73; refine (Nan73 _ _).mono ?_; rintro e w' ⟨rfl, rfl⟩)
        go_ret
        refine ⟨ret_u64 ?_, rfl⟩
        rw [key_pos hn h5.out]
        omega

/-! ### Tests on floats -/
theorem ord_ne (b : Nat) : (FloatKind.f64.format.order b b != some .eq) = nanB b := by
  show (Ieee.double.order b b != some .eq) = nanB b
  cases h : nanB b
  · rw [order_eq h h, compare_int, if_neg (by omega), if_pos rfl]; rfl
  · rw [order_nan_left h]; rfl
theorem ord_eq (b : Nat) : (FloatKind.f64.format.order b b == some .eq) = !nanB b := by
  have := ord_ne b
  rw [bne] at this
  rw [← this]; simp
theorem ord_lt {a b : Nat} (ha64 : a < 2 ^ 64) (hb64 : b < 2 ^ 64) (ha : nanB a = false) (hb : nanB b = false) : (FloatKind.f64.format.order a b == some .lt) = decide (key a < key b) := by
  show (Ieee.double.order a b == some .lt) = _
  rw [order_eq ha hb, compare_int, Bool.eq_iff_iff]
  have := key_lt ha64 hb64 ha hb
  by_cases h : sv a < sv b
  · rw [if_pos h]; simpa using this.2 h
  · rw [if_neg h]
    have h' : ¬ key a < key b := fun x => h (this.1 x)
    by_cases h2 : sv a = sv b
    · rw [if_pos h2]; simpa using h'
    · rw [if_neg h2]; simpa using h'
theorem ord_gt_key {a b : Nat} (ha64 : a < 2 ^ 64) (hb64 : b < 2 ^ 64) (ha : nanB a = false) (hb : nanB b = false) : (FloatKind.f64.format.order a b == some .gt) = decide (key b < key a) := by
  show (Ieee.double.order a b == some .gt) = _
  rw [order_eq ha hb, compare_int, Bool.eq_iff_iff]
  have := key_lt hb64 ha64 hb ha
  by_cases h : sv a < sv b
  · rw [if_pos h]
    have h' : ¬ key b < key a := fun x => by have := this.1 x; omega
    simpa using h'
  · rw [if_neg h]
    by_cases h2 : sv a = sv b
    · rw [if_pos h2]
      have h' : ¬ key b < key a := fun x => by have := this.1 x; omega
      simpa using h'
    · rw [if_neg h2]
      simpa using this.2 (by omega)
theorem key_pos' {b : Nat} (h : b < 2 ^ 64) (hn : nanB b = false) : 0 < key b := by
  have hr : rung b ≤ infR := by simpa [nanB] using hn
  unfold rung infR at hr
  unfold key
  rw [hn]
  simp only [Bool.false_eq_true, if_false]
  split
  · omega
  · split <;> omega

theorem Less16 (a b : Nat) (ha : Hid (a < 2 ^ 64)) (hb : Hid (b < 2 ^ 64)) (w : World) :
    Calls Try.prog 16 #[.float .f64 a, .float .f64 b] w fun e w' => e = .returned (.bool (decide (key a < key b))) ∧ w = w' := by
  have oa := ord_ne a
  have ob := ord_ne b
  have ob' := ord_eq b
  by_cases hna : nanB a = true
  · rw [hna] at oa
    by_cases hnb : nanB b = true
    · rw [hnb] at ob ob'
      have hf := hide (show false = decide (key a < key b) by rw [key_nan hna, key_nan hnb]; rfl)
      clear hna hnb
      go_enter Try.func16, Try.ntmps16
      go_wp2
      go_ret
      exact ⟨ret_bool hf.out, rfl⟩
    · have hnb : nanB b = false := by simpa using hnb
      rw [hnb] at ob ob'
      have hf := hide (show true = decide (key a < key b) by rw [key_nan hna]; simpa using key_pos' hb.out hnb)
      clear hna hnb
      go_enter Try.func16, Try.ntmps16
      go_wp2
      go_ret
      exact ⟨ret_bool hf.out, rfl⟩
  · have hna : nanB a = false := by simpa using hna
    rw [hna] at oa
    by_cases hnb : nanB b = true
    · rw [hnb] at ob ob'
      have hf := hide (show false = decide (key a < key b) by rw [key_nan hnb]; simp)
      clear hna hnb
      go_enter Try.func16, Try.ntmps16
      go_wp2
      go_ret
      exact ⟨ret_bool hf.out, rfl⟩
    · have hnb : nanB b = false := by simpa using hnb
      rw [hnb] at ob ob'
      have hl := ord_lt ha.out hb.out hna hnb
      clear hna hnb
      go_enter Try.func16, Try.ntmps16
      go_wp2
      go_ret
      exact ⟨rfl, rfl⟩
end Go.Proofs.Ytcjoohaagdihlaa.Score
