/- The contract of the document's List of all good faults. -/
import Derived.Test.YtcjoohaagdihlaaDoorFault2
namespace Go.Proofs.YtcjoohaagdihlaaDoor.Fault
open Go.RowKit Go.Lt Go.Proofs.YtcjoohaagdihlaaDoor.Lit
set_option linter.unusedVariables false
set_option linter.unusedSimpArgs false

def ListIs (l : List Nd) (w : World) (e : Ending) (w' : World) : Prop := ∃ v m, e = .returned v ∧ w'.ownsRow w.heap.size 54 3 v m (encF (listF l)) ∧ Below w.heap.size w w'

set_option maxHeartbeats 4000000 in
theorem ref_List (A : Option Addr) (n c : Nat) (l : List Nd) (w : World) (hn : n ≤ 1000) (hr : RdN w A n l) :
    Calls Tryd.prog 35 #[.slice A n c] w (ListIs l w) := by
  have hnI : (n : Int) ≤ 1000 := by omega
  have hl := hide hr.1
  have HN := hide hn
  clear hn
  have HP := hide (partF_len l)
  go_enter Tryd.func35, Tryd.ntmps35
  go_wp2
  go_loopw [3, 4] (fun v i wr => ∃ k K m : Nat, Hid (K = k + 1) ∧ k ≤ n ∧ i = .int .i64 K ∧ wr.ownsRow w.heap.size 54 3 v m (encF (partF l k 0)) ∧ Below w.heap.size w wr) (fun _ i _ => n + 1 - (intOf i).toNat)
  case atStart =>
    refine ⟨0, 1, 0, rfl, Nat.zero_le _, rfl, ?_, (Below.refl _ _).alloc (Nat.le_refl _) _⟩
    exact World.ownsRow_lit w #[] 0 (Nat.le_refl _) (by unfold maxLen; omega) rfl
  case round =>
    obtain ⟨k, K, m, hK, hk, rfl, hown, hb⟩ := hrel
    have hkI : (K : Int) ≤ 1001 := by have := hK.out; omega
    by_cases hlt : k < n
    · obtain ⟨wo, rfl⟩ : ∃ wo : World, wo = wr := ⟨_, rfl⟩
      have hlI : (K : Int) ≤ n := by have := hK.out; omega
      go_wp2
      go_loopw [3, 5] (fun v j wr => ∃ q m : Nat, q ≤ 6 ∧ j = .int .i64 q ∧ wr.ownsRow w.heap.size 54 3 v m (encF (partF l k q)) ∧ Below w.heap.size w wr) (fun _ j _ => 6 - (intOf j).toNat)
      case atStart => exact ⟨0, m, Nat.zero_le _, rfl, hown, hb⟩
      case round =>
        obtain ⟨q, m, hq, rfl, hown, hb⟩ := hrel
        by_cases hltq : q < 6
        · obtain ⟨P, hP⟩ : ∃ P : Int, (q : Int) / 2 = P := ⟨_, rfl⟩
          obtain ⟨O, hO⟩ : ∃ O : Bool, ((q : Int) % 2 == 1) = O := ⟨_, rfl⟩
          have hft := hide (show ft (k + 1) q = ⟨(K : Int), P, O⟩ by
            rw [← hK.out]; unfold ft; rw [← hP, ← hO]
            congr 1
            rw [Bool.eq_iff_iff, decide_eq_true_iff, beq_iff_eq]; omega)
          have hmb' := hide (show m ≤ 6 * k + q by have h1 := hown.1; have h2 := HP.out k q; rw [encF_len] at h1; omega)
          have hbA := (Below.refl wr.heap.size wr).alloc (Nat.le_refl _) (.cells #[.int .i64 ((K : Int)), .int .i64 P, .bool O] 54)
          cases hg : goodF l ⟨(K : Int), P, O⟩
          · have HT := hide (partF_no (l := l) (i := k) (k := q) (by rw [hft.out]; exact hg))
            have HG := hide (fun W hW => goodR_is (A := A) (n := n) (c := c) hg (by have := HN.out; omega) W hW)
            clear hg
            go_wp2_with fail
            refine (HG.out _ ((hr.below hb (Nat.le_refl _)).below hbA (Nat.le_refl _))).mono ?_
            rintro e w2 ⟨rfl, hb2⟩
            have hb3 := hbA.trans (hb2.mono hbA.size)
            clear hb2
            go_wp2
            go_roundw
            case rel => exact ⟨q + 1, m, by omega, by go_num, by rw [HT.out]; exact own_keep hown hb3, hb.trans (hb3.mono hb.size)⟩
            case measure => simp [intOf]; omega
          · have HT := hide (partF_yes (l := l) (i := k) (k := q) (by rw [hft.out]; exact hg))
            have HG := hide (fun W hW => goodR_is (A := A) (n := n) (c := c) hg (by have := HN.out; omega) W hW)
            clear hg
            go_wp2_with fail
            refine (HG.out _ ((hr.below hb (Nat.le_refl _)).below hbA (Nat.le_refl _))).mono ?_
            rintro e w2 ⟨rfl, hb2⟩
            have hb3 := hbA.trans (hb2.mono hbA.size)
            have z0 : w2.cell? ⟨wr.heap.size, 0, none⟩ = some (.int .i64 ((K : Int))) := (hb2.cell (p := ⟨wr.heap.size, 0, none⟩) (by simp)).trans (by simp [World.cell?_alloc_new])
            have z1 : w2.cell? ⟨wr.heap.size, 1, none⟩ = some (.int .i64 P) := (hb2.cell (p := ⟨wr.heap.size, 1, none⟩) (by simp)).trans (by simp [World.cell?_alloc_new])
            have z2 : w2.cell? ⟨wr.heap.size, 2, none⟩ = some (.bool O) := (hb2.cell (p := ⟨wr.heap.size, 2, none⟩) (by simp)).trans (by simp [World.cell?_alloc_new])
            clear hb2
            have hown2 := own_keep hown hb3
            have hbw := hb.trans (hb3.mono hb.size)
            go_wp2_with (at_builtin; refine wpList_push rfl _ _ _ rfl Tryd.underlying50 info_f rfl (by decide) rfl rfl hown2 hbw (Nat.le_refl _) rfl (by simp [Value.oneCell']) (by have := HN.out; have := hmb'.out; unfold maxLen; omega) (by have := HN.out; have := hmb'.out; omega) ?_; intro v1 w3 hown3 hb4)
            go_roundw
            case rel => exact ⟨q + 1, m + 1, by omega, by go_num, by rw [HT.out, encF_app, hft.out]; exact hown3, hb4⟩
            case measure => simp [intOf]; omega
        · have hq6 : q = 6 := by omega
          subst hq6
          rw [partF_next] at hown
          go_wp2
          go_roundw
          case rel => exact ⟨k + 1, K + 1, m, by rw [hK.out]; rfl, hlt, by go_num, hown, hb⟩
          case measure => have := hK.out; simp [intOf]; omega
    · have hkn : n = k := by omega
      subst hkn
      have hgI : ¬ (K : Int) ≤ n := by have := hK.out; omega
      rw [show partF l n 0 = listF l by rw [← hl.out]; exact partF_all l] at hown
      go_wp2
      go_ret
      exact ⟨_, m, rfl, hown, hb⟩
end Go.Proofs.YtcjoohaagdihlaaDoor.Fault
