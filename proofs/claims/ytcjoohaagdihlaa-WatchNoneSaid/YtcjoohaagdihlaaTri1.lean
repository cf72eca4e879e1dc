/- The program's value of a literal: tri.Lit. -/
import Derived.Test.YtcjoohaagdihlaaSound1
namespace Go.Proofs.Ytcjoohaagdihlaa.Watch
open Go.RowKit Go.Lt Go.Proofs.Ytcjoohaagdihlaa.Lit Go.Proofs.Ytcjoohaagdihlaa.Sorted Go.Proofs.Ytcjoohaagdihlaa.Learn
set_option linter.unusedVariables false
set_option linter.unusedSimpArgs false

def toldB (a : Int) : Bool := decide (a = 0 ∨ a = 1)
theorem tri_told (a : Int) (w : World) : Calls Try.prog 154 #[.int .i64 a] w fun e w' => e = .returned (.bool (toldB a)) ∧ w = w' := by
  by_cases h0 : a = 0
  · subst h0
    go_enter Try.func154, Try.ntmps154
    go_wp2
    go_ret
    exact ⟨rfl, rfl⟩
  · by_cases h1 : a = 1
    · subst h1
      go_enter Try.func154, Try.ntmps154
      go_wp2
      go_ret
      exact ⟨rfl, rfl⟩
    · have e0 : (a == 0) = false := by simp [h0]
      have e1 : (a == 1) = false := by simp [h1]
      have HV := hide (show false = toldB a from (decide_eq_false (by omega)).symm)
      go_enter Try.func154, Try.ntmps154
      go_wp2
      go_ret
      exact ⟨ret_bool HV.out, rfl⟩
theorem told_is {a : Int} {b : Bool} (h : toldB a = b) (w : World) : Calls Try.prog 154 #[.int .i64 a] w fun e w' => e = .returned (.bool b) ∧ w = w' := by subst h; exact tri_told a w
theorem tri_Not (a : Int) (w : World) : Calls Try.prog 155 #[.int .i64 a] w fun e w' => e = .returned (.int .i64 (triNot a)) ∧ w = w' := by
  by_cases h0 : a = 0
  · subst h0
    have HT := hide (fun W => told_is (a := 0) (b := true) rfl W)
    go_enter Try.func155, Try.ntmps155
    go_wp2_with (go_at_call 154; refine (HT.out _).mono ?_; rintro e w' ⟨rfl, rfl⟩)
    go_ret
    exact ⟨rfl, rfl⟩
  · by_cases h1 : a = 1
    · subst h1
      have HT := hide (fun W => told_is (a := 1) (b := true) rfl W)
      go_enter Try.func155, Try.ntmps155
      go_wp2_with (go_at_call 154; refine (HT.out _).mono ?_; rintro e w' ⟨rfl, rfl⟩)
      go_ret
      exact ⟨rfl, rfl⟩
    · have HT := hide (fun W => told_is (a := a) (b := false) (decide_eq_false (by omega)) W)
      have HV := hide (show 2 = triNot a by unfold triNot; rw [if_neg h0, if_neg h1])
      go_enter Try.func155, Try.ntmps155
      go_wp2_with (go_at_call 154; refine (HT.out _).mono ?_; rintro e w' ⟨rfl, rfl⟩)
      go_ret
      exact ⟨ret_int HV.out, rfl⟩
theorem var_is {l v : Int} (h : litVar l = v) (w : World) : Calls Try.prog 84 #[.int .i64 l] w fun e w' => e = .returned (.int .i64 v) ∧ w = w' := by subst h; exact lit_Var l w
theorem neg_is {l : Int} {b : Bool} (h : litNeg l = b) (w : World) : Calls Try.prog 153 #[.int .i64 l] w fun e w' => e = .returned (.bool b) ∧ w = w' := by subst h; exact lit_Neg l w
set_option maxHeartbeats 1000000 in
theorem tri_Lit (A : Option Addr) (n c : Nat) (vals : List Int) (x : Int) (w : World) (hn : n ≤ 10000000) (hr : Rd w A n (ivs vals)) :
    Calls Try.prog 137 #[.slice A n c, .int .i64 x] w fun e w' => e = .returned (.int .i64 (litV vals x)) ∧ w = w' := by
  have hnI : (n : Int) ≤ 10000000 := by omega
  have hlen := hr.len
  cases hg : litGood x with
  | false =>
    have HV := hide (fun W => var_is (l := x) (v := -1) (by unfold litVar; rw [hg]; rfl) W)
    have HN := hide (fun W => neg_is (l := x) (b := false) (by unfold litNeg; rw [hg]; rfl) W)
    have HR := hide (show 2 = litV vals x by unfold litV; rw [hg]; rfl)
    clear hg
    go_enter Try.func137, Try.ntmps137
    go_wp2_with first | (go_at_call 84; refine (HV.out _).mono ?_; rintro e w' ⟨rfl, rfl⟩) | (go_at_call 153; refine (HN.out _).mono ?_; rintro e w' ⟨rfl, rfl⟩)
    go_ret
    exact ⟨ret_int HR.out, rfl⟩
  | true =>
    obtain ⟨h0, h1⟩ := good_iff.1 hg
    obtain ⟨k, hk⟩ : ∃ k : Nat, x / 2 = (k : Int) := ⟨(x / 2).toNat, by omega⟩
    have HV := hide (fun W => var_is (l := x) (v := (k : Int)) (by unfold litVar; rw [hg, ← hk]; rfl) W)
    obtain ⟨nb, hnb⟩ : ∃ nb, decide (x % 2 = 1) = nb := ⟨_, rfl⟩
    have HN := hide (fun W => neg_is (l := x) (b := nb) (by unfold litNeg; rw [hg, hnb]; rfl) W)
    have HX := hide (fun a W => tri_Not a W)
    have hneg : ∀ a : Int, (if x % 2 = 1 then triNot a else a) = if nb = true then triNot a else a := fun a => by rw [← hnb]; by_cases h : x % 2 = 1 <;> simp [h]
    by_cases hk0 : k = 0
    · subst hk0
      have hk : x / 2 = 0 := hk
      have HR := hide (show (if nb = true then triNot 0 else 0) = litV vals x by unfold litV; rw [if_pos hg, if_pos hk, hneg])
      clear hg hneg hnb hk
      cases nb with
      | true =>
        go_enter Try.func137, Try.ntmps137
        go_wp2_with first | (go_at_call 84; refine (HV.out _).mono ?_; rintro e w' ⟨rfl, rfl⟩) | (go_at_call 153; refine (HN.out _).mono ?_; rintro e w' ⟨rfl, rfl⟩) | (go_at_call 155; refine (HX.out _ _).mono ?_; rintro e w' ⟨rfl, rfl⟩)
        go_ret
        exact ⟨ret_int HR.out, rfl⟩
      | false =>
        go_enter Try.func137, Try.ntmps137
        go_wp2_with first | (go_at_call 84; refine (HV.out _).mono ?_; rintro e w' ⟨rfl, rfl⟩) | (go_at_call 153; refine (HN.out _).mono ?_; rintro e w' ⟨rfl, rfl⟩)
        go_ret
        exact ⟨ret_int HR.out, rfl⟩
    · have e1 : ((k : Int) == 0) = false := by simp; omega
      have e2 : decide (0 < (k : Int)) = true := decide_eq_true (by omega)
      have e3 : ¬ (k : Int) = 0 := by omega
      by_cases hkn : k < n
      · have hknI : (k : Int) < n := by omega
        obtain ⟨ad, a, rfl, hB, ha, hca⟩ := hr.get hkn
        have hga : vals.getD (x / 2).toNat 0 = a := by rw [hk, Int.toNat_natCast, List.getD_eq_getElem?_getD, ha]; rfl
        obtain ⟨tb, htb⟩ : ∃ tb, toldB a = tb := ⟨_, rfl⟩
        have HT := hide (fun W => told_is htb W)
        have hta : triV a = if tb = true then a else 2 := by
          rw [← htb]; unfold triV toldB
          by_cases h : a = 0 ∨ a = 1 <;> simp [h]
        have HR := hide (show (if nb = true then triNot (if tb = true then a else 2) else (if tb = true then a else 2)) = litV vals x by unfold litV; rw [if_pos hg, hga, hk, if_neg e3, if_pos (show (k : Int) < (vals.length : Int) by omega), hneg, hta])
        clear hg ha hga hneg hta htb hnb hk
        cases tb <;> cases nb
        all_goals
          go_enter Try.func137, Try.ntmps137
          go_wp2_with first | (go_at_call 84; refine (HV.out _).mono ?_; rintro e w' ⟨rfl, rfl⟩) | (go_at_call 153; refine (HN.out _).mono ?_; rintro e w' ⟨rfl, rfl⟩) | (go_at_call 155; refine (HX.out _ _).mono ?_; rintro e w' ⟨rfl, rfl⟩) | (go_at_call 154; refine (HT.out _).mono ?_; rintro e w' ⟨rfl, rfl⟩)
          go_ret
          exact ⟨ret_int HR.out, rfl⟩
      · have e4 : decide ((k : Int) < n) = false := decide_eq_false (by omega)
        have e5 : ¬ (k : Int) < n := by omega
        have HR := hide (show (if nb = true then triNot 2 else 2) = litV vals x by unfold litV; rw [if_pos hg, hk, if_neg e3, if_neg (show ¬ (k : Int) < (vals.length : Int) by omega), hneg])
        clear hg hneg hnb hk
        cases nb
        all_goals
          go_enter Try.func137, Try.ntmps137
          go_wp2_with first | (go_at_call 84; refine (HV.out _).mono ?_; rintro e w' ⟨rfl, rfl⟩) | (go_at_call 153; refine (HN.out _).mono ?_; rintro e w' ⟨rfl, rfl⟩) | (go_at_call 155; refine (HX.out _ _).mono ?_; rintro e w' ⟨rfl, rfl⟩)
          go_ret
          exact ⟨ret_int HR.out, rfl⟩
end Go.Proofs.Ytcjoohaagdihlaa.Watch
