/- The contract of the program's List of all good faults. -/
import Derived.Test.YtcjoohaagdihlaaDoorFault3
import Derived.Test.YtcjoohaagdihlaaDoorMem2
namespace Go.Proofs.YtcjoohaagdihlaaDoor.Fault
open Go.RowKit Go.Lt Go.Proofs.YtcjoohaagdihlaaDoor.Lit
set_option linter.unusedVariables false
set_option linter.unusedSimpArgs false

set_option maxHeartbeats 4000000 in
theorem fault_List (A : Option Addr) (n c : Nat) (l : List Nd) (w : World) (hn : n ≤ 1000) (hr : RdN w A n l) :
    Calls Tryd.prog 33 #[.slice A n c] w (ListIs l w) := by
  have hnI : (n : Int) ≤ 1000 := by omega
  have hl := hide hr.1
  have HN := hide hn
  clear hn
  have HP := hide (partF_len l)
  go_enter Tryd.func33, Tryd.ntmps33
  go_wp2
  go_loopw [3, 11] (fun v i wr => ∃ k m : Nat, k ≤ n ∧ i = .int .i64 k ∧ wr.ownsRow w.heap.size 54 3 v m (encF (partF l k 0)) ∧ Below w.heap.size w wr) (fun _ i _ => n - (intOf i).toNat)
  case atStart => exact ⟨0, 0, Nat.zero_le _, rfl, World.ownsRow_nil _ _ _ _, Below.refl _ _⟩
  case round =>
    obtain ⟨k, m, hk, rfl, hown, hb⟩ := hrel
    have hkI : (k : Int) ≤ 1000 := by omega
    by_cases hlt : k < n
    · obtain ⟨wo, rfl⟩ : ∃ wo : World, wo = wr := ⟨_, rfl⟩
      go_wp2
      go_loopw [3, 14] (fun v j wr => ∃ p m : Nat, p ≤ 3 ∧ j = .int .i64 p ∧ wr.ownsRow w.heap.size 54 3 v m (encF (partF l k (2 * p))) ∧ Below w.heap.size w wr) (fun _ j _ => 3 - (intOf j).toNat)
      case atStart => exact ⟨0, m, Nat.zero_le _, rfl, hown, hb⟩
      case round =>
        obtain ⟨p, m, hp, rfl, hown, hb⟩ := hrel
        have hpI : (p : Int) ≤ 3 := by omega
        by_cases hltp : p < 3
        · obtain ⟨wl, rfl⟩ : ∃ wl : World, wl = wr := ⟨_, rfl⟩
          have hd3 : decide ((p : Int) < 3) = true := by rw [decide_eq_true_iff]; omega
          go_wp2
          go_loopw [3, 19] (fun v j wr => ∃ q m : Nat, q ≤ 2 ∧ j = .int .i64 q ∧ wr.ownsRow w.heap.size 54 3 v m (encF (partF l k (2 * p + q))) ∧ Below w.heap.size w wr ∧ Blk wr wl.heap.size 4 #[.bool false, .bool true]) (fun _ j _ => 2 - (intOf j).toNat)
          case atStart => exact ⟨0, m, Nat.zero_le _, rfl, hown.alloc _, hb.alloc hb.size _, Blk.new _ _ _⟩
          case round =>
            obtain ⟨q, m, hq, rfl, hown, hb, hblk⟩ := hrel
            by_cases hltq : q < 2
            · obtain ⟨O, hO⟩ : ∃ O : Bool, decide (q = 1) = O := ⟨_, rfl⟩
              have hO' := hide hO
              have hcq : wr.cell? ⟨wl.heap.size, q, none⟩ = some (.bool O) := by
                rw [hblk.cell, ← hO]
                rcases (show q = 0 ∨ q = 1 by omega) with rfl | rfl <;> rfl
              clear hO
              have hqI : (q : Int) < 2 := by omega
              have hft := hide (show ft (k + 1) (2 * p + q) = ⟨(k : Int) + 1, (p : Int), O⟩ by
                unfold ft
                rw [← hO'.out, show (2 * p + q) / 2 = p by omega, show (2 * p + q) % 2 = q by omega]
                rfl)
              have hmb' := hide (show m ≤ 6 * k + (2 * p + q) by have h1 := hown.1; have h2 := HP.out k (2 * p + q); rw [encF_len] at h1; omega)
              have hbA := (Below.refl wr.heap.size wr).alloc (Nat.le_refl _) (.cells #[.int .i64 ((k : Int) + 1), .int .i64 (p : Int), .bool O] 54)
              cases hg : goodF l ⟨(k : Int) + 1, (p : Int), O⟩
              · have HT := hide (partF_no (l := l) (i := k) (k := 2 * p + q) (by rw [hft.out]; exact hg))
                have HG := hide (fun W hW => goodP_is (A := A) (n := n) (c := c) hg (by have := HN.out; omega) W hW)
                clear hg
                go_wp2_with fail
                refine (HG.out _ ((hr.below hb (Nat.le_refl _)).below hbA (Nat.le_refl _))).mono ?_
                rintro e w2 ⟨rfl, hb2⟩
                have hb3 := hbA.trans (hb2.mono hbA.size)
                clear hb2
                have hblk2 := hide (hblk.below hb3 hblk.lt)
                clear hcq
                go_wp2
                go_roundw
                case rel => exact ⟨q + 1, m, by omega, by go_num, by rw [show 2 * p + (q + 1) = 2 * p + q + 1 by omega, HT.out]; exact own_keep hown hb3, hb.trans (hb3.mono hb.size), hblk2.out⟩
                case measure => simp [intOf]; omega
              · have HT := hide (partF_yes (l := l) (i := k) (k := 2 * p + q) (by rw [hft.out]; exact hg))
                have HG := hide (fun W hW => goodP_is (A := A) (n := n) (c := c) hg (by have := HN.out; omega) W hW)
                clear hg
                go_wp2_with fail
                refine (HG.out _ ((hr.below hb (Nat.le_refl _)).below hbA (Nat.le_refl _))).mono ?_
                rintro e w2 ⟨rfl, hb2⟩
                have hb3 := hbA.trans (hb2.mono hbA.size)
                have z0 : w2.cell? ⟨wr.heap.size, 0, none⟩ = some (.int .i64 ((k : Int) + 1)) := (hb2.cell (p := ⟨wr.heap.size, 0, none⟩) (by simp)).trans (by simp [World.cell?_alloc_new])
                have z1 : w2.cell? ⟨wr.heap.size, 1, none⟩ = some (.int .i64 (p : Int)) := (hb2.cell (p := ⟨wr.heap.size, 1, none⟩) (by simp)).trans (by simp [World.cell?_alloc_new])
                have z2 : w2.cell? ⟨wr.heap.size, 2, none⟩ = some (.bool O) := (hb2.cell (p := ⟨wr.heap.size, 2, none⟩) (by simp)).trans (by simp [World.cell?_alloc_new])
                clear hb2 hcq
                have hown2 := own_keep hown hb3
                have hbw := hb.trans (hb3.mono hb.size)
                have hblk2 := hide (hblk.below hb3 hblk.lt)
                go_wp2_with (at_builtin; refine wpList_pushG rfl _ _ _ rfl Tryd.underlying50 info_f rfl (by decide) rfl rfl hown2 hbw (Nat.le_refl _) rfl (by simp [Value.oneCell']) (by have := HN.out; have := hmb'.out; unfold maxLen; omega) (by have := HN.out; have := hmb'.out; omega) ?_; intro v1 w3 hown3 hb4 hgr)
                have hblk3 := hide ((hblk2.out.alloc _).grown hgr (own_blk_ne hown2 hblk2.out (by decide)))
                clear hgr
                go_roundw
                case rel => exact ⟨q + 1, m + 1, by omega, by go_num, by rw [show 2 * p + (q + 1) = 2 * p + q + 1 by omega, HT.out, encF_app, hft.out]; exact hown3, hb4, hblk3.out⟩
                case measure => simp [intOf]; omega
            · have hq2 : q = 2 := by omega
              subst hq2
              rw [show 2 * p + 2 = 2 * (p + 1) by omega] at hown
              clear hblk
              go_wp2
              go_roundw
              case rel => exact ⟨p + 1, m, hltp, by go_num, hown, hb⟩
              case measure => simp [intOf]; omega
        · have hp3 : p = 3 := by omega
          subst hp3
          rw [show 2 * 3 = 6 from rfl, partF_next] at hown
          go_wp2
          go_roundw
          case rel => exact ⟨k + 1, m, hlt, by go_num, hown, hb⟩
          case measure => simp [intOf]; omega
    · have hkn : n = k := by omega
      subst hkn
      rw [show partF l n 0 = listF l by rw [← hl.out]; exact partF_all l] at hown
      go_wp2
      go_ret
      exact ⟨_, m, rfl, hown, hb⟩
end Go.Proofs.YtcjoohaagdihlaaDoor.Fault
