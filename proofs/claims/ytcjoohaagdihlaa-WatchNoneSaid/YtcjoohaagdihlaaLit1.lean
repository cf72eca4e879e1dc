/- Contracts of the functions on one literal, the program's and the document's. -/
import Derived.Test.YtcjoohaagdihlaaProg
import Derived.WalkKit
import Derived.WalkLawsBesides
import Derived.KernelRfl
import Derived.Test.YtcjoohaagdihlaaMem
namespace Go.Proofs.Ytcjoohaagdihlaa.Lit
open Go.RowKit Go.Lt
set_option linter.unusedVariables false

theorem ret_int {k : IntKind} {a b : Int} (h : a = b) : Ending.returned (.int k a) = .returned (.int k b) := by rw [h]
theorem ret_bool {a b : Bool} (h : a = b) : Ending.returned (.bool a) = .returned (.bool b) := by rw [h]

/-- whether a number is a literal -/
def litGood (l : Int) : Bool := decide (0 ≤ l ∧ l ≤ 33554433)
def litVar (l : Int) : Int := if litGood l then l / 2 else -1
def litNot (l : Int) : Int := if litGood l then (if l % 2 = 1 then l - 1 else l + 1) else -1
def litNeg (l : Int) : Bool := litGood l && decide (l % 2 = 1)
theorem good_iff {l : Int} : litGood l = true ↔ 0 ≤ l ∧ l ≤ 33554433 := by simp [litGood]
theorem bad_iff {l : Int} : litGood l = false ↔ ¬ (0 ≤ l ∧ l ≤ 33554433) := by unfold litGood; rw [decide_eq_false_iff_not]

theorem lit_Good (l : Int) (w : World) : Calls Try.prog 140 #[.int .i64 l] w fun e w' => e = .returned (.bool (litGood l)) ∧ w = w' := by
  by_cases h0 : 0 ≤ l
  · by_cases h1 : l ≤ 33554433
    · have HG := hide (show true = litGood l from (good_iff.2 ⟨h0, h1⟩).symm)
      go_enter Try.func140, Try.ntmps140
      go_wp2
      go_ret
      exact ⟨ret_bool HG.out, rfl⟩
    · have HG := hide (show false = litGood l from (bad_iff.2 (by omega)).symm)
      go_enter Try.func140, Try.ntmps140
      go_wp2
      go_ret
      exact ⟨ret_bool HG.out, rfl⟩
  · have HG := hide (show false = litGood l from (bad_iff.2 (by omega)).symm)
    go_enter Try.func140, Try.ntmps140
    go_wp2
    go_ret
    exact ⟨ret_bool HG.out, rfl⟩

theorem ref_Good (l : Int) (w : World) : Calls Try.prog 33 #[.int .i64 l] w fun e w' => e = .returned (.bool (litGood l)) ∧ w = w' := by
  by_cases h0 : 0 ≤ l
  · have HG := hide (show decide (l < 33554434) = litGood l by
      unfold litGood; rw [Bool.eq_iff_iff]; simp only [decide_eq_true_eq]; omega)
    go_enter Try.func33, Try.ntmps33
    go_wp2
    go_ret
    exact ⟨ret_bool HG.out, rfl⟩
  · have HG := hide (show false = litGood l from (bad_iff.2 (by omega)).symm)
    go_enter Try.func33, Try.ntmps33
    go_wp2
    go_ret
    exact ⟨ret_bool HG.out, rfl⟩

theorem lit_Var (l : Int) (w : World) : Calls Try.prog 84 #[.int .i64 l] w fun e w' => e = .returned (.int .i64 (litVar l)) ∧ w = w' := by
  cases hg : litGood l
  · have HV := hide (show -1 = litVar l by unfold litVar; rw [hg]; rfl)
    go_enter Try.func84, Try.ntmps84
    go_wp2_with (first | (go_at_call 140; refine (lit_Good _ _).mono ?_; rintro e w' ⟨rfl, rfl⟩) | go_in)
    go_ret
    exact ⟨ret_int HV.out, rfl⟩
  · have HV := hide (show l / 2 = litVar l by unfold litVar; rw [hg]; rfl)
    obtain ⟨h0, h1⟩ := good_iff.1 hg
    go_enter Try.func84, Try.ntmps84
    go_wp2_with (first | (go_at_call 140; refine (lit_Good _ _).mono ?_; rintro e w' ⟨rfl, rfl⟩) | go_in)
    go_ret
    exact ⟨ret_int HV.out, rfl⟩


theorem xor_one (l : Int) (h0 : 0 ≤ l) (h1 : l ≤ 33554433) : bits .xor .i64 l 1 = (if l % 2 = 1 then l - 1 else l + 1) := by
  obtain ⟨n, rfl⟩ := Int.eq_ofNat_of_zero_le h0
  have hn : n ≤ 33554433 := by omega
  have e : BitVec.ofInt 64 (n : Int) = BitVec.ofNat 64 n := BitVec.ofInt_natCast ..
  show IntKind.i64.wrap ((BitVec.ofInt 64 (n : Int) ^^^ BitVec.ofInt 64 ((1 : Nat) : Int)).toNat : Int) = _
  rw [BitVec.toNat_xor, ofInt_u64 n (by omega), ofInt_u64 1 (by omega)]
  have hx : n ^^^ 1 = if n % 2 = 1 then n - 1 else n + 1 := by
    have h1 : (n ^^^ 1) / 2 = n / 2 ^^^ 1 / 2 := Nat.xor_div_two
    have h2 : (n ^^^ 1) % 2 = (n + 1) % 2 := by
      rw [show (2 : Nat) = 2 ^ 1 from rfl, Nat.xor_mod_two_pow]
      rcases Nat.mod_two_eq_zero_or_one n with h | h <;> simp [h, Nat.add_mod]
    rw [show (1 : Nat) / 2 = 0 from rfl, Nat.xor_zero] at h1
    generalize n ^^^ 1 = x at *
    split <;> omega
  rw [hx]
  have : IntKind.i64.wrap (((if n % 2 = 1 then n - 1 else n + 1 : Nat)) : Int) = ((if n % 2 = 1 then n - 1 else n + 1 : Nat) : Int) := IntWalk.i64_in _ (by split <;> omega)
  rw [this]
  split <;> split <;> omega
theorem and_one (l : Int) (h0 : 0 ≤ l) (h1 : l ≤ 9223372036854775807) : bits .and .i64 l 1 = l % 2 := by
  obtain ⟨n, rfl⟩ := Int.eq_ofNat_of_zero_le h0
  show IntKind.i64.wrap ((BitVec.ofInt 64 (n : Int) &&& BitVec.ofInt 64 ((1 : Nat) : Int)).toNat : Int) = _
  rw [BitVec.toNat_and, ofInt_u64 n (by omega), ofInt_u64 1 (by omega), show n &&& 1 = n % 2 from Nat.and_one_is_mod n]
  rw [IntWalk.i64_in _ (by omega)]
  omega

theorem lit_Not (l : Int) (w : World) : Calls Try.prog 86 #[.int .i64 l] w fun e w' => e = .returned (.int .i64 (litNot l)) ∧ w = w' := by
  cases hg : litGood l
  · have HV := hide (show -1 = litNot l by unfold litNot; rw [hg]; rfl)
    go_enter Try.func86, Try.ntmps86
    go_wp2_with (first | (go_at_call 140; refine (lit_Good _ _).mono ?_; rintro e w' ⟨rfl, rfl⟩) | go_in)
    go_ret
    exact ⟨ret_int HV.out, rfl⟩
  · obtain ⟨h0, h1⟩ := good_iff.1 hg
    have hx : bits .xor .i64 l 1 = litNot l := by unfold litNot; rw [hg, xor_one l h0 h1]; rfl
    go_enter Try.func86, Try.ntmps86
    go_wp2_with (first | (go_at_call 140; refine (lit_Good _ _).mono ?_; rintro e w' ⟨rfl, rfl⟩) | go_in)
    go_ret
    exact ⟨rfl, rfl⟩

theorem ref_Not (l : Int) (w : World) : Calls Try.prog 34 #[.int .i64 l] w fun e w' => e = .returned (.int .i64 (litNot l)) ∧ w = w' := by
  cases hg : litGood l
  · have HV := hide (show -1 = litNot l by unfold litNot; rw [hg]; rfl)
    go_enter Try.func34, Try.ntmps34
    go_wp2_with (go_at_call 33; refine (ref_Good _ _).mono ?_; rintro e w' ⟨rfl, rfl⟩)
    go_ret
    exact ⟨ret_int HV.out, rfl⟩
  · obtain ⟨h0, h1⟩ := good_iff.1 hg
    by_cases h2 : l % 2 = 1
    · have HV := hide (show l - 1 = litNot l by unfold litNot; rw [hg, if_pos h2]; rfl)
      have ht : (l % 2 == 1) = true := by simpa using h2
      clear h2
      go_enter Try.func34, Try.ntmps34
      go_wp2_with (go_at_call 33; refine (ref_Good _ _).mono ?_; rintro e w' ⟨rfl, rfl⟩)
      go_ret
      exact ⟨ret_int HV.out, rfl⟩
    · have HV := hide (show l + 1 = litNot l by unfold litNot; rw [hg, if_neg h2]; rfl)
      have ht : (l % 2 == 1) = false := by simpa using h2
      clear h2
      go_enter Try.func34, Try.ntmps34
      go_wp2_with (go_at_call 33; refine (ref_Good _ _).mono ?_; rintro e w' ⟨rfl, rfl⟩)
      go_ret
      exact ⟨ret_int HV.out, rfl⟩

theorem lit_Neg (l : Int) (w : World) : Calls Try.prog 153 #[.int .i64 l] w fun e w' => e = .returned (.bool (litNeg l)) ∧ w = w' := by
  cases hg : litGood l
  · have HV := hide (show false = litNeg l by unfold litNeg; rw [hg]; rfl)
    go_enter Try.func153, Try.ntmps153
    go_wp2_with (first | (go_at_call 140; refine (lit_Good _ _).mono ?_; rintro e w' ⟨rfl, rfl⟩) | go_in)
    go_ret
    exact ⟨ret_bool HV.out, rfl⟩
  · obtain ⟨h0, h1⟩ := good_iff.1 hg
    have hx : bits .and .i64 l 1 = l % 2 := and_one l h0 (by omega)
    have HV := hide (show (l % 2 == 1) = litNeg l by unfold litNeg; rw [hg]; simp; rfl)
    go_enter Try.func153, Try.ntmps153
    go_wp2_with (first | (go_at_call 140; refine (lit_Good _ _).mono ?_; rintro e w' ⟨rfl, rfl⟩) | go_in)
    go_ret
    exact ⟨ret_bool HV.out, rfl⟩
end Go.Proofs.Ytcjoohaagdihlaa.Lit
