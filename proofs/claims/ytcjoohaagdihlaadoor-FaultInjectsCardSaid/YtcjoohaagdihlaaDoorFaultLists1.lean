/- The law on lists of faults. -/
import Derived.Test.YtcjoohaagdihlaaDoorFaultLast
import Derived.Test.YtcjoohaagdihlaaDoorFaultSmall
import Derived.Test.YtcjoohaagdihlaaDoorFaultLives
namespace Go.Proofs.YtcjoohaagdihlaaDoor.Fault
open Go.RowKit Go.Lt Go.Proofs.YtcjoohaagdihlaaDoor.Lit Go.Proofs.YtcjoohaagdihlaaDoor.Dec Go.Instr
set_option linter.unusedVariables false
set_option linter.unusedSimpArgs false

theorem keep_n {w w' w2 : World} {A : Option Addr} {n : Nat} {l : List Nd} (h : RdN w A n l) (hd : Dr w w') (hb : Below w'.heap.size w' w2) : RdN w2 A n l :=
  (h.below (hd.below w.heap.size) (Nat.le_refl _)).below hb (Nat.le_refl _)
theorem run_Small (A C : Option Addr) (n m c cc : Nat) (most : Int) (l : List Nd) (outs : List Int) (w : World) (hm : most ≤ 1000) (hn0 : n ≤ maxLen) (hm0 : m ≤ maxLen) (hr : RdN w A n l) (hro : Rd w C m (ivs outs)) :
    Calls Tryd.prog 29 #[.slice A n c, .slice C m cc, .int .i64 most] w fun e w' => (e = .returned (.bool false) ∧ Dr w w') ∨ (e = .returned (.bool true) ∧ Dr w w' ∧ (n : Int) ≤ most ∧ Hid (GoodNet l) ∧ m ≤ 20 ∧ Hid (GoodOuts l outs)) :=
  (law_Small A C n m c cc most l outs w hm hn0 hm0 hr hro).mono fun e w' ⟨b, h1, h2, h3⟩ => by
    cases b
    · exact .inl ⟨h1, h2⟩
    · obtain ⟨a1, a2, a3, a4⟩ := h3 rfl
      exact .inr ⟨h1, h2, a1, a2, a3, a4⟩
set_option maxHeartbeats 8000000 in
theorem lists (A C F : Option Addr) (n m k c cc ck : Nat) (l : List Nd) (outs : List Int) (fs : List Ft) (w : World) (hp : Pows w) (hn0 : n ≤ maxLen) (hm0 : m ≤ maxLen) (hr : RdN w A n l) (hro : Rd w C m (ivs outs)) (hrf : RdF w F k fs) :
    Calls Tryd.prog 5 #[.slice A n c, .slice C m cc, .slice F k ck] w fun e w' => e = .returned (.bool true) ∧ Below w.heap.size w w' := by
  have HS := hide (run_Small A C n m c cc 30 l outs w (by omega) hn0 hm0 hr hro)
  clear hn0 hm0
  go_enter Tryd.func5, Tryd.ntmps5
  go_wp2_with fail
  refine HS.out.mono ?_
  rintro e w1 (⟨rfl, hd⟩ | ⟨rfl, hd, hn, hg, hm, ho⟩)
  · have hb := hide (hd.below w.heap.size)
    go_wp2_with fail
    refine (lives _ (hp.below hb.out)).mono ?_
    rintro e w2 ⟨rfl, hb2⟩
    have hb2 := hide (hb.out.trans (hb2.mono hb.out.size))
    go_wp2
    go_ret
    exact ⟨rfl, hb2.out⟩
  · clear HS
    have hbw := hide (hd.below w.heap.size)
    by_cases hk : 80 < k
    · have d1 : decide (80 < (k : Int)) = true := by rw [decide_eq_true_iff]; omega
      go_wp2_with fail
      refine (lives _ (hp.below hbw.out)).mono ?_
      rintro e w2 ⟨rfl, hb2⟩
      have hb2 := hide (hbw.out.trans (hb2.mono hbw.out.size))
      go_wp2
      go_ret
      exact ⟨rfl, hb2.out⟩
    · have d1 : decide (80 < (k : Int)) = false := by rw [decide_eq_false_iff_not]; omega
      have hkI : (k : Int) ≤ 80 := by omega
      have hK := hide (show k ≤ 80 by omega)
      have hN := hide (show n ≤ 1000 by omega)
      have hM := hide (show m ≤ 1000 by omega)
      clear hn hm hd hk
      go_wp2
      go_loopw [7] (fun i wr => ∃ j : Nat, j ≤ k ∧ i = .int .i64 j ∧ Below w.heap.size w wr) (fun i _ => k - (intOf i).toNat)
      case atStart => exact ⟨0, Nat.zero_le _, rfl, hbw.out⟩
      case round =>
        obtain ⟨j, hj, rfl, hb⟩ := hrel
        have hjI : (j : Int) ≤ 80 := by omega
        by_cases hlt : j < k
        · have hb := hide hb
          have hrn0 := hr.below hb.out (Nat.le_refl _)
          obtain ⟨ad, f, rfl, hB, hf, hc0, hc1, hc2⟩ := (hrf.below hb.out (Nat.le_refl _)).get hlt
          have hadW : ad.block < wr.heap.size := hB
          obtain ⟨G, hG⟩ : ∃ G, goodF l f = G := ⟨_, rfl⟩
          have HP := hide (fun W hW => goodP_is (A := A) (n := n) (c := c) hG (by have := hN.out; omega) W hW)
          have HR := hide (fun W hW => goodR_is (A := A) (n := n) (c := c) hG (by have := hN.out; omega) W hW)
          clear hf hG
          have hrn1 : RdN wr.drew A n l := hrn0
          have K0 := hide (fun w2 (h : Below wr.heap.size wr.drew w2) => show w2.cell? (ad.add (j * 3)) = some (.int .i64 f.v) from (h.cell (by rw [add_block]; exact hadW)).trans hc0)
          have K1 := hide (fun w2 (h : Below wr.heap.size wr.drew w2) => show w2.cell? ⟨(ad.add (j * 3)).block, (ad.add (j * 3)).off + 1, none⟩ = some (.int .i64 f.p) from (h.cell (p := ⟨(ad.add (j * 3)).block, (ad.add (j * 3)).off + 1, none⟩) (by rw [add_block]; exact hadW)).trans hc1)
          have K2 := hide (fun w2 (h : Below wr.heap.size wr.drew w2) => show w2.cell? ⟨(ad.add (j * 3)).block, (ad.add (j * 3)).off + 2, none⟩ = some (.bool f.o) from (h.cell (p := ⟨(ad.add (j * 3)).block, (ad.add (j * 3)).off + 2, none⟩) (by rw [add_block]; exact hadW)).trans hc2)
          have HX := hide (fun w2 (h : Below wr.heap.size wr.drew w2) => show RdN w2 A n l from hrn1.below h (Nat.le_refl _))
          go_wp2
          go_region_with (first | (go_at_call 31; refine (HP.out _ (by first | exact hrn2 | exact hrn1)).mono ?_; rintro e w2 ⟨rfl, hb2⟩; have HB := hb2; try (have kc0 := K0.out _ hb2; have kc1 := K1.out _ hb2; have kc2 := K2.out _ hb2; have hrn2 := HX.out _ hb2; have HBa := hide hb2)) | (go_at_call 32; refine (HR.out _ (by first | exact hrn2 | exact hrn1)).mono ?_; rintro e w2 ⟨rfl, hb2⟩; have HB := hb2; try (have kc0 := K0.out _ hb2; have kc1 := K1.out _ hb2; have kc2 := K2.out _ hb2; have hrn2 := HX.out _ hb2; have HBa := hide hb2)))
          all_goals
            have hbn := hide (hb.out.trans ((Dr.below (b := wr.drew) ⟨1, rfl⟩ _).trans ((HBa.out.trans (hb2.mono HBa.out.size)).mono hb.out.size)))
            clear HBa hb2 HB
            go_wp2
            go_roundw
            case rel => exact ⟨j + 1, hlt, by go_num, hbn.out⟩
            case measure => simp [intOf]; omega
        · have hb := hide hb
          have hjk : j = k := by omega
          subst hjk
          clear hlt
          have hrn := hr.below hb.out (Nat.le_refl _)
          go_wp2_with fail
          refine (fault_List A n c l _ hN.out hrn).mono ?_
          rintro e w2 ⟨v1, m1, rfl, hown1, hb2⟩
          have hB2 := hide (hb.out.trans (hb2.mono hb.out.size))
          obtain ⟨A1, c1, rfl, _, _, hr1⟩ := RdF.of_own hown1
          have hm1 := hide (show m1 ≤ 1000000 by have h1 := hr1.1; have h2 := partF_len l l.length 0; rw [partF_all] at h2; have := hr.1; have := hN.out; omega)
          have hrf2 := (hrf.below hB2.out (Nat.le_refl _)).rdS
          have ba := (Below.refl w2.heap.size w2).alloc (Nat.le_refl _) (.cells #[] 54)
          clear hown1 hb2 hrn
          go_wp2_with (at_builtin; refine wpList_append_rdS rfl _ _ _ rfl Tryd.underlying50 info_f rfl (by decide) rfl rfl (made_empty w2 w2.heap.size 54 3 (Nat.le_refl _)) ba (by simp) (hrf2.below ba (Nat.le_refl _)) encF_one (by have := hK.out; unfold maxLen; omega) (by have := hK.out; omega) ?_; intro v3 w3 hown3 hb3 _)
          rw [List.nil_append, Nat.zero_add] at hown3
          obtain ⟨A3, c3, rfl, _, _, hr3⟩ := RdF.of_own hown3
          have hB3 := hide (hB2.out.trans (hb3.mono hB2.out.size))
          have hr13 := hr1.below hb3 (Nat.le_refl _)
          clear hown3 hb3 hr1 hrf2 ba
          go_wp2_with fail
          refine (ref_List A n c l _ hN.out (hr.below hB3.out (Nat.le_refl _))).mono ?_
          rintro e w4 ⟨v4, m4, rfl, hown4, hb4⟩
          obtain ⟨A4, c4, rfl, _, _, hr4⟩ := RdF.of_own hown4
          have hB4 := hide (hB3.out.trans (hb4.mono hB3.out.size))
          have hr14 := hr13.below hb4 (Nat.le_refl _)
          have hr34 := hr3.below hb4 (Nat.le_refl _)
          clear hown4 hb4 hr13 hr3
          go_wp2_with fail
          refine (same_yes _ hm1.out hr14 hr4).mono ?_
          rintro e w5 ⟨rfl, hd5⟩
          have hB5 := hide (hB4.out.trans (hd5.below _))
          have hr35 := hr34.below (hd5.below w4.heap.size) (Nat.le_refl _)
          clear hd5 hr14 hr4 hr34
          go_wp2_with fail
          refine (fault_Collapse A C A3 n m j c cc c3 l outs fs _ hN.out hM.out (by have := hK.out; omega) (hr.below hB5.out (Nat.le_refl _)) (hro.below hB5.out (Nat.le_refl _)) hr35 hg.out ho.out).mono ?_
          rintro e w6 ⟨v6, m6, rfl, hown6, hb6⟩
          obtain ⟨A6, c6, rfl, _, _, hr6⟩ := RdF.of_own hown6
          have hB6 := hide (hB5.out.trans (hb6.mono hB5.out.size))
          have hr36 := hr35.below hb6 (Nat.le_refl _)
          have hm6 := hide (show m6 ≤ 1000000 by have h1 := hr6.1; have h2 := collP_len l outs fs; have := hrf.1; have := hK.out; omega)
          clear hown6 hb6 hr35
          go_wp2_with fail
          refine (ref_Coll A C F n m j c cc ck l outs fs _ hN.out hM.out (by have := hK.out; omega) hg.out ho.out (hr.below hB6.out (Nat.le_refl _)) (hro.below hB6.out (Nat.le_refl _)) (hrf.below hB6.out (Nat.le_refl _))).mono ?_
          rintro e w7 ⟨v7, m7, rfl, hown7, hb7⟩
          obtain ⟨A7, c7, rfl, _, _, hr7⟩ := RdF.of_own hown7
          have hB7 := hide (hB6.out.trans (hb7.mono hB6.out.size))
          have hr37 := hr36.below hb7 (Nat.le_refl _)
          have hr67 := hr6.below hb7 (Nat.le_refl _)
          clear hown7 hb7 hr36 hr6
          go_wp2_with fail
          refine (same_yes _ hm6.out hr67 hr7).mono ?_
          rintro e w8 ⟨rfl, hd8⟩
          have hB8 := hide (hB7.out.trans (hd8.below _))
          have hr38 := hr37.below (hd8.below w7.heap.size) (Nat.le_refl _)
          clear hd8 hr67 hr7 hr37
          go_wp2_with fail
          refine (same_yes _ (by have := hK.out; omega) hr38 (hrf.below hB8.out (Nat.le_refl _))).mono ?_
          rintro e w9 ⟨rfl, hd9⟩
          have hB9 := hide (hB8.out.trans (hd9.below _))
          clear hd9 hr38
          go_wp2_with fail
          refine (lives _ (hp.below hB9.out)).mono ?_
          rintro e w10 ⟨rfl, hb10⟩
          have hB10 := hide (hB9.out.trans (hb10.mono hB9.out.size))
          clear hb10
          go_wp2
          go_ret
          exact ⟨rfl, hB10.out⟩
end Go.Proofs.YtcjoohaagdihlaaDoor.Fault
