/- The law of LitTells. -/
import Derived.Test.YtcjoohaagdihlaaDoorLitBack
namespace Go.Proofs.YtcjoohaagdihlaaDoor.Dec
open Go.RowKit Go.Lt Go.Proofs.YtcjoohaagdihlaaDoor.Lit
set_option linter.unusedVariables false
set_option linter.unusedSimpArgs false

theorem refNot_is {l v : Int} (h : litNot l = v) (w : World) : Calls Tryd.prog 65 #[.int .i64 l] w fun e w' => e = .returned (.int .i64 v) ∧ w = w' := by subst h; exact ref_Not l w
theorem refVar_is {l v : Int} (h : litVar l = v) (w : World) : Calls Tryd.prog 63 #[.int .i64 l] w fun e w' => e = .returned (.int .i64 v) ∧ w = w' := by subst h; exact ref_Var l w
theorem refOf_is {v r : Int} {b : Bool} (h : litOf v b = r) (w : World) : Calls Tryd.prog 59 #[.int .i64 v, .bool b] w fun e w' => e = .returned (.int .i64 r) ∧ w = w' := by subst h; exact ref_Of v b w

set_option maxHeartbeats 800000 in
theorem tells (v l : Int) (b : Bool) (w : World) (hp : Pows w) :
    Calls Tryd.prog 10 #[.int .i64 v, .int .i64 l, .bool b] w fun e w' => e = .returned (.bool true) ∧ Below w.heap.size w w' := by
  obtain ⟨r, hr⟩ : ∃ r, litOf v b = r := ⟨_, rfl⟩
  obtain ⟨m, hm⟩ : ∃ m, litNot l = m := ⟨_, rfl⟩
  obtain ⟨x, hx⟩ : ∃ x, litVar l = x := ⟨_, rfl⟩
  obtain ⟨g, hg⟩ : ∃ g, litGood l = g := ⟨_, rfl⟩
  obtain ⟨d, hd⟩ : ∃ d, litNeg l = d := ⟨_, rfl⟩
  have O1 := hide (litOf_is hr)
  have O2 := hide (refOf_is hr)
  have G1 := hide (litGood_is hg)
  have G2 := hide (refGood_is hg)
  have V1 := hide (litVar_is hx)
  have V2 := hide (refVar_is hx)
  have N1 := hide (litNot_is hm)
  have N2 := hide (refNot_is hm)
  have D1 := hide (litNeg_is hd)
  have HL := hide (lives w hp)
  cases g
  · have hd0 : d = false := by rw [← hd]; unfold litNeg; rw [hg]; rfl
    subst hd0
    clear hr hm hx hg hd hp
    go_enter Tryd.func10, Tryd.ntmps10
    go_wp2_with fail
    refine (O1.out _).mono ?_
    rintro e w1 ⟨rfl, rfl⟩
    go_wp2_with fail
    refine (O2.out _).mono ?_
    rintro e w1 ⟨rfl, rfl⟩
    go_wp2_with fail
    refine (G1.out _).mono ?_
    rintro e w1 ⟨rfl, rfl⟩
    go_wp2_with fail
    refine (G2.out _).mono ?_
    rintro e w1 ⟨rfl, rfl⟩
    go_wp2_with fail
    refine (V1.out _).mono ?_
    rintro e w1 ⟨rfl, rfl⟩
    go_wp2_with fail
    refine (V2.out _).mono ?_
    rintro e w1 ⟨rfl, rfl⟩
    go_wp2_with fail
    refine (N1.out _).mono ?_
    rintro e w1 ⟨rfl, rfl⟩
    go_wp2_with fail
    refine (N2.out _).mono ?_
    rintro e w1 ⟨rfl, rfl⟩
    go_wp2_with fail
    refine (D1.out _).mono ?_
    rintro e w1 ⟨rfl, rfl⟩
    go_wp2_with fail
    refine (G2.out _).mono ?_
    rintro e w1 ⟨rfl, rfl⟩
    go_wp2_with fail
    refine (G2.out _).mono ?_
    rintro e w1 ⟨rfl, rfl⟩
    go_wp2_with fail
    refine HL.out.mono ?_
    rintro e w1 ⟨rfl, hb⟩
    go_wp2
    go_ret
    exact ⟨rfl, hb⟩
  · obtain ⟨h0, h1⟩ := good_iff.1 hg
    have hxx : x = l / 2 := by rw [← hx]; unfold litVar; rw [hg]; rfl
    have hmm : m = if l % 2 = 1 then l - 1 else l + 1 := by rw [← hm]; unfold litNot; rw [hg]; rfl
    have hdd : d = decide (l % 2 = 1) := by rw [← hd]; unfold litNeg; rw [hg]; rfl
    have hm2 : 0 ≤ m ∧ m ≤ 33554433 := by rw [hmm]; split <;> omega
    have N3 := hide (litNot_is (show litNot m = l by
      unfold litNot; rw [if_pos (good_iff.2 hm2), hmm]
      by_cases h2 : l % 2 = 1
      · rw [if_pos h2, if_neg (by omega)]; omega
      · rw [if_neg h2, if_pos (by omega)]; omega))
    have O3 := hide (litOf_is (show litOf x d = l by
      unfold litOf; rw [hxx, hdd, if_pos (by omega)]
      by_cases h2 : l % 2 = 1
      · rw [show decide (l % 2 = 1) = true by simp [h2], if_pos rfl]; omega
      · rw [show decide (l % 2 = 1) = false by simp [h2], if_neg (by simp)]; omega))
    have ht : (l % 2 == 1) = d := by rw [hdd]; rfl
    clear hr hm hx hg hd hp h1 hxx hmm hdd hm2
    cases d
    all_goals
      go_enter Tryd.func10, Tryd.ntmps10
      go_wp2_with fail
      refine (O1.out _).mono ?_
      rintro e w1 ⟨rfl, rfl⟩
      go_wp2_with fail
      refine (O2.out _).mono ?_
      rintro e w1 ⟨rfl, rfl⟩
      go_wp2_with fail
      refine (G1.out _).mono ?_
      rintro e w1 ⟨rfl, rfl⟩
      go_wp2_with fail
      refine (G2.out _).mono ?_
      rintro e w1 ⟨rfl, rfl⟩
      go_wp2_with fail
      refine (V1.out _).mono ?_
      rintro e w1 ⟨rfl, rfl⟩
      go_wp2_with fail
      refine (V2.out _).mono ?_
      rintro e w1 ⟨rfl, rfl⟩
      go_wp2_with fail
      refine (N1.out _).mono ?_
      rintro e w1 ⟨rfl, rfl⟩
      go_wp2_with fail
      refine (N2.out _).mono ?_
      rintro e w1 ⟨rfl, rfl⟩
      go_wp2_with fail
      refine (D1.out _).mono ?_
      rintro e w1 ⟨rfl, rfl⟩
      go_wp2_with fail
      refine (G2.out _).mono ?_
      rintro e w1 ⟨rfl, rfl⟩
      go_wp2_with fail
      refine (G2.out _).mono ?_
      rintro e w1 ⟨rfl, rfl⟩
      go_wp2_with fail
      refine (N1.out _).mono ?_
      rintro e w1 ⟨rfl, rfl⟩
      go_wp2_with fail
      refine (N3.out _).mono ?_
      rintro e w1 ⟨rfl, rfl⟩
      go_wp2_with fail
      refine (V1.out _).mono ?_
      rintro e w1 ⟨rfl, rfl⟩
      go_wp2_with fail
      refine (D1.out _).mono ?_
      rintro e w1 ⟨rfl, rfl⟩
      go_wp2_with fail
      refine (O3.out _).mono ?_
      rintro e w1 ⟨rfl, rfl⟩
      go_wp2_with fail
      refine HL.out.mono ?_
      rintro e w1 ⟨rfl, hb⟩
      go_wp2
      go_ret
      exact ⟨rfl, hb⟩
end Go.Proofs.YtcjoohaagdihlaaDoor.Dec
