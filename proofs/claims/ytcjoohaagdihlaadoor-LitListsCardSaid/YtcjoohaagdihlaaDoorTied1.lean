/- The contract of the document's Tied. -/
import Derived.Test.YtcjoohaagdihlaaDoorNorm1
namespace Go.Proofs.YtcjoohaagdihlaaDoor.Sorted
open Go.RowKit Go.Lt Go.Proofs.YtcjoohaagdihlaaDoor.Lit
set_option linter.unusedVariables false
set_option linter.unusedSimpArgs false

def tieAt (l : List Int) (x : Int) : Bool := litGood x && hasB l (litNot x)
theorem tied_all {l : List Int} (h : ∀ k : Nat, k < l.length → ∀ x, l[k]? = some x → tieAt l x = false) : tiedB l = false := by
  unfold tiedB
  rw [List.any_eq_false]
  intro x hx
  obtain ⟨i, hi⟩ := List.getElem?_of_mem hx
  have := h i (List.getElem?_eq_some_iff.1 hi).1 x hi
  unfold tieAt at this
  rw [this]; simp
theorem tied_one {l : List Int} {k : Nat} {x : Int} (hx : l[k]? = some x) (h : tieAt l x = true) : tiedB l = true := by
  unfold tiedB
  rw [List.any_eq_true]
  exact ⟨x, List.mem_of_getElem? hx, h⟩

theorem ref_Tied (A : Option Addr) (n c : Nat) (l : List Int) (w : World) (hn : n ≤ 1000000) (hr : Rd w A n (ivs l)) :
    Calls Tryd.prog 81 #[.slice A n c] w fun e w' => e = .returned (.bool (tiedB l)) ∧ w = w' := by
  have hl := hide hr.len
  go_enter Tryd.func81, Tryd.ntmps81
  go_wp2
  go_loop [3] (fun i => ∃ k : Nat, k ≤ n ∧ i = .int .i64 k ∧ Hid (∀ j : Nat, j < k → ∀ x, l[j]? = some x → tieAt l x = false)) (fun i => n - (intOf i).toNat)
  case atStart => exact ⟨0, Nat.zero_le _, rfl, fun j hj => absurd hj (Nat.not_lt_zero _)⟩
  case round =>
    obtain ⟨k, hk, rfl, hno⟩ := hrel
    by_cases hlt : k < n
    · obtain ⟨ad, x, rfl, hB, hx, hc⟩ := hr.get hlt
      have HY := hide (fun h : tieAt l x = true => tied_one hx h)
      have HN := hide (fun h : tieAt l x = false => (show ∀ j : Nat, j < k + 1 → ∀ x, l[j]? = some x → tieAt l x = false from fun j hj y hy => by
          by_cases h1 : j < k
          · exact hno.out j h1 y hy
          · have : j = k := by omega
            subst this
            rw [hx] at hy; injection hy with hy; subst hy; exact h))
      clear hx hno
      cases hg : litGood x
      · have hf := hide (show tieAt l x = false by unfold tieAt; rw [hg]; rfl)
        have hg := hide hg
        go_wp2_with fail
        refine (ref_Good _ _).mono ?_
        rintro e w1 ⟨rfl, rfl⟩
        rw [hg.out]
        go_wp2
        go_round
        case rel => exact ⟨k + 1, hlt, by go_num, HN.out hf.out⟩
        case measure => simp [intOf]; omega
      · have ht := hide (show tieAt l x = hasB l (litNot x) by unfold tieAt; rw [hg]; rfl)
        have hg := hide hg
        cases hh : hasB l (litNot x)
        · have hh := hide hh
          go_wp2_with fail
          refine (ref_Good _ _).mono ?_
          rintro e w1 ⟨rfl, rfl⟩
          rw [hg.out]
          go_wp2_with fail
          refine (ref_Not _ _).mono ?_
          rintro e w1 ⟨rfl, rfl⟩
          go_wp2_with fail
          refine (ref_Has _ _ _ l _ _ hn hr).mono ?_
          rintro e w1 ⟨rfl, rfl⟩
          rw [hh.out]
          go_wp2
          go_round
          case rel => exact ⟨k + 1, hlt, by go_num, HN.out (ht.out.trans hh.out)⟩
          case measure => simp [intOf]; omega
        · have hh := hide hh
          go_wp2_with fail
          refine (ref_Good _ _).mono ?_
          rintro e w1 ⟨rfl, rfl⟩
          rw [hg.out]
          go_wp2_with fail
          refine (ref_Not _ _).mono ?_
          rintro e w1 ⟨rfl, rfl⟩
          go_wp2_with fail
          refine (ref_Has _ _ _ l _ _ hn hr).mono ?_
          rintro e w1 ⟨rfl, rfl⟩
          rw [hh.out]
          go_wp2
          go_ret
          exact ⟨ret_bool (HY.out (ht.out.trans hh.out)).symm, rfl⟩
    · have hkn : n = k := by omega
      subst hkn
      have HF := hide (tied_all (fun j hj => hno.out j (by have := hl.out; omega)))
      clear hno
      go_wp2
      go_ret
      exact ⟨ret_bool HF.out.symm, rfl⟩
end Go.Proofs.YtcjoohaagdihlaaDoor.Sorted
