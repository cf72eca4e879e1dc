/- The contract of the document's Collapse, given its Last. -/
import Derived.Test.YtcjoohaagdihlaaDoorFault10
import Derived.BigQuiet
namespace Go.Proofs.YtcjoohaagdihlaaDoor.Fault
open Go.RowKit Go.Lt Go.Proofs.YtcjoohaagdihlaaDoor.Lit Go.Instr
set_option linter.unusedVariables false
set_option linter.unusedSimpArgs false

/-- what the document's Last is to answer -/
def LastIs (A C : Option Addr) (n m c cc : Nat) (l : List Nd) (outs : List Int) : Prop :=
  ∀ (f : Ft) (W : World), goodF l f = true → RdN W A n l → Rd W C m (ivs outs) →
    Calls Tryd.prog 92 #[.slice A n c, .slice C m cc, .agg #[.int .i64 f.v, .int .i64 f.p, .bool f.o]] W fun e w' =>
      e = .returned (.agg #[.int .i64 (lastF l.length (occs l l.length) outs f).v, .int .i64 (lastF l.length (occs l l.length) outs f).p, .bool (lastF l.length (occs l l.length) outs f).o]) ∧ Below W.heap.size W w'
theorem made_empty (w : World) (base : Nat) (e : TypeId) (size : Nat) (h : base ≤ w.heap.size) : (w.alloc (.cells #[] e)).ownsRow base e size (.slice (some ⟨w.heap.size, 0, none⟩) 0 0) 0 [] :=
  ⟨by simp, .inr ⟨w.heap.size, 0, #[], rfl, h, heap_alloc_new w _, Nat.le_refl _, Nat.zero_le _, by simp, by simp⟩⟩

set_option maxHeartbeats 4000000 in
theorem ref_Collapse (A C F : Option Addr) (n m k c cc ck : Nat) (l : List Nd) (outs : List Int) (fs : List Ft) (w : World) (hn : n ≤ 1000) (hk : k ≤ 10000) (hr : RdN w A n l) (hro : Rd w C m (ivs outs)) (hrf : RdF w F k fs) (HLast : LastIs A C n m c cc l outs) :
    Calls Tryd.prog 37 #[.slice A n c, .slice C m cc, .slice F k ck] w (CollIs l outs fs w) := by
  have hkI : (k : Int) ≤ 10000 := by omega
  have hlf := hide hrf.1
  have HN := hide hn
  have HK := hide hk
  have HLast := hide HLast
  clear hn hk
  go_enter Tryd.func37, Tryd.ntmps37
  go_wp2
  go_loopw [7, 8] (fun v i wr => ∃ j q : Nat, j ≤ k ∧ i = .int .i64 j ∧ wr.ownsRow w.heap.size 54 3 v q (encF (collP l outs (fs.take j))) ∧ Below w.heap.size w wr) (fun _ i _ => k - (intOf i).toNat)
  case atStart => exact ⟨0, 0, Nat.zero_le _, rfl, made_empty _ _ _ _ (Nat.le_refl _), (Below.refl _ _).alloc (Nat.le_refl _) _⟩
  case round =>
    obtain ⟨j, q, hj, rfl, hown, hb⟩ := hrel
    have hjI : (j : Int) ≤ 10000 := by omega
    obtain ⟨U, cu, rfl, hqc, hcm, _⟩ := RdF.of_own hown
    have hqk := hide (show q ≤ 10000 by have h1 := hown.1; have h2 := collP_len l outs (fs.take j); rw [encF_len] at h1; have := List.length_take_le' j fs; have := hlf.out; have := HK.out; omega)
    by_cases hlt : j < k
    · obtain ⟨ad, f0, rfl, hB, hf0, hc0, hc1, hc2⟩ := (hrf.below hb (Nat.le_refl _)).get hlt
      obtain ⟨wo, rfl⟩ : ∃ wo : World, wo = wr := ⟨_, rfl⟩
      cases hgf : goodF l f0
      · have HT1 := hide (collP_no (outs := outs) hf0 hgf)
        have HG := hide (fun W hW => goodR_is (A := A) (n := n) (c := c) hgf (by have := HN.out; omega) W hW)
        clear hgf hf0
        go_wp2_with fail
        refine (HG.out _ (hr.below hb (Nat.le_refl _))).mono ?_
        rintro e w2 ⟨rfl, hb3⟩
        have hown := own_keep hown hb3
        have hbw := hb.trans (hb3.mono hb.size)
        clear hb3 hc0 hc1 hc2
        go_wp2
        go_roundw
        case rel => exact ⟨j + 1, q, hlt, by go_num, by rw [HT1.out]; exact hown, hbw⟩
        case measure => simp [intOf]; omega
      · have HT1 := hide (collP_yes (outs := outs) hf0 hgf)
        have HG := hide (fun W hW => goodR_is (A := A) (n := n) (c := c) hgf (by have := HN.out; omega) W hW)
        have hgf := hide hgf
        clear hf0
        go_wp2_with fail
        refine (HG.out _ (hr.below hb (Nat.le_refl _))).mono ?_
        rintro e w2 ⟨rfl, hb3⟩
        have hown := own_keep hown hb3
        have hbw := hb.trans (hb3.mono hb.size)
        have hd0 := (hb3.cell (p := ad.add (j * 3)) (by rw [add_block]; exact hB)).trans hc0
        have hd1 := (hb3.cell (p := ⟨(ad.add (j * 3)).block, (ad.add (j * 3)).off + 1, none⟩) (by rw [add_block]; exact hB)).trans hc1
        have hd2 := (hb3.cell (p := ⟨(ad.add (j * 3)).block, (ad.add (j * 3)).off + 2, none⟩) (by rw [add_block]; exact hB)).trans hc2
        have HL2 := hide (HLast.out f0 w2 hgf.out (hr.below hbw (Nat.le_refl _)) (hro.below hbw (Nat.le_refl _)))
        obtain ⟨LF, hLF⟩ : ∃ LF, lastF l.length (occs l l.length) outs f0 = LF := ⟨_, rfl⟩
        rw [hLF] at HL2 HT1
        clear hb3 hc0 hc1 hc2 hLF hb
        go_wp2_with fail
        refine HL2.out.mono ?_
        rintro e w3 ⟨rfl, hb3⟩
        have hown3 := own_keep hown hb3
        have hbw3 := hbw.trans (hb3.mono hbw.size)
        clear hb3 hd0 hd1 hd2 hbw hown
        go_wp2
        go_loopw [10, 11] (fun fb i wr => ∃ (p : Nat) (b : Bool), p ≤ q ∧ fb = .bool b ∧ i = .int .i64 p ∧ Dr (w3.alloc (.cells #[.int .i64 LF.v, .int .i64 LF.p, .bool LF.o] 54)) wr ∧ Hid (b = decide (LF ∈ (collP l outs (fs.take j)).take p))) (fun _ i _ => q - (intOf i).toNat)
        case atStart => exact ⟨0, false, Nat.zero_le _, rfl, rfl, Dr.refl _, hide (by simp)⟩
        case round =>
          obtain ⟨p, b, hp, rfl, rfl, hd, hbv⟩ := hrel
          have hpI : (p : Int) ≤ 10000 := by have := hqk.out; omega
          have hblk : Blk wr w3.heap.size 54 #[.int .i64 LF.v, .int .i64 LF.p, .bool LF.o] := (Blk.new _ _ _).dr hd
          have hc0 : wr.cell? ⟨w3.heap.size, 0, none⟩ = some (.int .i64 LF.v) := hblk.cell 0
          have hc1 : wr.cell? ⟨w3.heap.size, 1, none⟩ = some (.int .i64 LF.p) := hblk.cell 1
          have hc2 : wr.cell? ⟨w3.heap.size, 2, none⟩ = some (.bool LF.o) := hblk.cell 2
          have hownr := hd.own (hown3.alloc (.cells #[.int .i64 LF.v, .int .i64 LF.p, .bool LF.o] 54))
          have hbwr := hide ((hbw3.alloc hbw3.size (.cells #[.int .i64 LF.v, .int .i64 LF.p, .bool LF.o] 54)).trans (hd.below _))
          by_cases hltp : p < q
          · obtain ⟨_, _, he, _, _, hrd⟩ := RdF.of_own hownr
            cases he
            obtain ⟨ad', g, rfl, hB', hg, hg0, hg1, hg2⟩ := hrd.get hltp
            have hT := hide (show (collP l outs (fs.take j)).take (p + 1) = (collP l outs (fs.take j)).take p ++ [g] by rw [List.take_add_one, hg]; rfl)
            clear hg hrd
            cases b
            · obtain ⟨D, hD⟩ : ∃ D, decide (g = LF) = D := ⟨_, rfl⟩
              have hN := hide (show D = decide (LF ∈ (collP l outs (fs.take j)).take (p + 1)) by
                have hn : LF ∉ (collP l outs (fs.take j)).take p := of_decide_eq_false hbv.out.symm
                rw [hT.out, ← hD]
                by_cases hgl : g = LF
                · subst hgl; simp
                · have : LF ≠ g := fun h => hgl h.symm
                  simp [hgl, this, hn])
              have hcase : (D = true ∧ g = LF) ∨ (D = false ∧ ¬ g.v = LF.v) ∨ (D = false ∧ g.v = LF.v ∧ ¬ g.p = LF.p) ∨ (D = false ∧ g.v = LF.v ∧ g.p = LF.p ∧ ¬ g.o = LF.o) := by
                rw [← hD]
                by_cases hgl : g = LF
                · exact .inl ⟨by simp [hgl], hgl⟩
                · refine .inr ?_
                  by_cases e1 : g.v = LF.v
                  · by_cases e2 : g.p = LF.p
                    · exact .inr (.inr ⟨by simp [hgl], e1, e2, fun e3 => hgl (by cases g; cases LF; simp at e1 e2 e3; simp [e1, e2, e3])⟩)
                    · exact .inr (.inl ⟨by simp [hgl], e1, e2⟩)
                  · exact .inl ⟨by simp [hgl], e1⟩
              clear hD hbv hT
              rcases hcase with ⟨rfl, rfl⟩ | ⟨rfl, e1⟩ | ⟨rfl, e1, e2⟩ | ⟨rfl, e1, e2, e3⟩
              all_goals
                go_wp2
                go_quiet (fail)
                go_wp2
                go_roundw
                case rel => exact ⟨p + 1, _, hltp, rfl, by go_num, hd.more _, hN⟩
                case measure => simp [intOf]; omega
            · have hN := hide (show true = decide (LF ∈ (collP l outs (fs.take j)).take (p + 1)) by
                have hn : LF ∈ (collP l outs (fs.take j)).take p := of_decide_eq_true hbv.out.symm
                rw [hT.out]
                simp [hn])
              clear hbv hT
              go_wp2
              go_quiet (fail)
              go_wp2
              go_roundw
              case rel => exact ⟨p + 1, true, hltp, rfl, by go_num, hd.more _, hN⟩
              case measure => simp [intOf]; omega
          · have hpq : p = q := by omega
            subst hpq
            have hfl := hide (show (collP l outs (fs.take j)).take p = collP l outs (fs.take j) by
              rw [List.take_of_length_le]
              have := hown3.1
              rw [encF_len] at this
              omega)
            have hbv := hide (hbv.out.trans (by rw [hfl.out]))
            cases b
            · have hnew := hide (show collP l outs (fs.take (j + 1)) = collP l outs (fs.take j) ++ [LF] by
                rw [HT1.out]
                unfold addF
                rw [if_neg (of_decide_eq_false hbv.out.symm)])
              go_wp2_with (at_builtin; refine wpList_pushG rfl _ _ _ rfl Tryd.underlying50 info_f rfl (by decide) rfl rfl hownr hbwr.out (Nat.le_refl _) rfl (by simp [Value.oneCell']) (by have := hqk.out; unfold maxLen; omega) (by have := hqk.out; omega) ?_; intro v1 w6 hown6 hb6 hgr6)
              go_roundw
              case rel => exact ⟨j + 1, p + 1, hlt, by go_num, by rw [hnew.out, encF_app]; exact hown6, hb6⟩
              case measure => simp [intOf]; omega
            · have hnew := hide (show collP l outs (fs.take (j + 1)) = collP l outs (fs.take j) by
                rw [HT1.out]
                unfold addF
                rw [if_pos (of_decide_eq_true hbv.out.symm)])
              go_wp2
              go_roundw
              case rel => exact ⟨j + 1, p, hlt, by go_num, by rw [hnew.out]; exact hownr, hbwr.out⟩
              case measure => simp [intOf]; omega
    · have hjk : j = k := by omega
      subst hjk
      have hfull := hide (show fs.take j = fs by rw [← hlf.out]; exact List.take_length)
      rw [hfull.out] at hown
      go_wp2
      go_ret
      exact ⟨_, q, rfl, hown, hb⟩
end Go.Proofs.YtcjoohaagdihlaaDoor.Fault
