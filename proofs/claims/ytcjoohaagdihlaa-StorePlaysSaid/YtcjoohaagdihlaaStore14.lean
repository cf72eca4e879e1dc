/- A store's law: no cube that is kept is covered by another one of no greater depth, and how a state's depth falls: the walk. -/
import Derived.Test.YtcjoohaagdihlaaStore13
namespace Go.Proofs.Ytcjoohaagdihlaa.Kept
open Go.RowKit Go.Shelf Go.Lt Go.Proofs.Ytcjoohaagdihlaa.Lit Go.Proofs.Ytcjoohaagdihlaa.CubeHas Go.Proofs.Ytcjoohaagdihlaa.Cube Go.Proofs.Ytcjoohaagdihlaa.Sorted
set_option linter.unusedVariables false
set_option linter.unusedSimpArgs false

theorem few_is {A : Option Addr} {n c : Nat} {L : List Kv} {w : World} {b : Bool} (hn : n ≤ maxLen) (hr : RdK w A n L) (h : fewB L n = b) :
    Calls Try.prog 37 #[.slice A n c] w fun e w' => e = .returned (.bool b) ∧ w = w' := by subst h; exact law_few A n c L w hn hr
theorem kvAt_is {L : List Kv} {k : Nat} {x : Kv} (h : L[k]? = some x) : kvAt L k = x := by unfold kvAt; rw [List.getD_eq_getElem?_getD, h]; rfl
theorem hasS_is {A B : Option Addr} {n m cc cd : Nat} {c : List Int} {s : List Bool} {w : World} {b : Bool} (hn : n ≤ 1000000) (hm : m ≤ 1000000) (hrc : Rd w A n (ivs c)) (hrs : Rd w B m (bvs s)) (hw : Wfs c) (h : hasS c s = b) :
    Calls Try.prog 43 #[.slice A n cc, .slice B m cd] w fun e w' => e = .returned (.bool b) ∧ Dr w w' := by subst h; exact ref_HasS A B n m cc cd c s w hn hm hrc hrs hw
theorem rcov_is {A B : Option Addr} {n m ca cb : Nat} {a b : List Int} {w : World} {r : Bool} (hn : n ≤ 1000000) (hm : m ≤ 1000000) (hra : Rd w A n (ivs a)) (hrb : Rd w B m (ivs b)) (h : covB a b = r) :
    Calls Try.prog 45 #[.slice A n ca, .slice B m cb] w fun e w' => e = .returned (.bool r) ∧ w = w' := by subst h; exact ref_Covers A B n m ca cb a b w hn hm hra hrb
set_option maxRecDepth 20000 in
set_option maxHeartbeats 4000000 in
theorem keeps (A : Option Addr) (n c : Nat) (L : List Kv) (l : List Kc) (B : Option Addr) (m cd : Nat) (s : List Bool) (w : World) (hn : n ≤ maxLen) (hr : RdK w A n L) (hA : AllK w L l) (hW : ∀ k ∈ l, Wfs k.c) (hrs : Rd w B m (bvs s)) :
    Calls Try.prog 7 #[.slice A n c, .slice B m cd] w fun e w' => e = .returned (.bool true) ∧ Below w.heap.size w w' := by
  cases hf : fewB L n with
  | false =>
    go_enter Try.func7, Try.ntmps7
    go_wp2_with fail
    refine (few_is hn hr hf).mono ?_
    rintro e w1 ⟨rfl, rfl⟩
    clear hn
    go_wp2_with fail
    refine (law_lives w).mono ?_
    rintro e w1 ⟨rfl, hb1⟩
    replace hb1 := hide hb1
    go_wp2
    go_ret
    exact ⟨rfl, hb1.out⟩
  | true =>
    by_cases hm : m ≤ 60
    · obtain ⟨hn60, hxs⟩ := few_at hf
      have hG : GoodL l := fun k hk => by
        obtain ⟨j, hj, rfl⟩ := mem_kcAt hk
        have hjL : j < L.length := by rw [hA.1]; exact hj
        obtain ⟨h1, h2⟩ := hxs j (kvAt L j) (by simp [kvAt, List.getD, hjL])
        have e1 : (kcAt l j).c.length = _ := (hA.2 j hjL).c.len
        have e2 : (kcAt l j).i.length = _ := (hA.2 j hjL).i.len
        exact ⟨by omega, by omega, hW _ hk⟩
      have hA := hide hA
      have hG := hide hG
      have hxs := hide hxs
      have hll := hide (show l.length = n from hA.out.1.symm.trans hr.1)
      go_enter Try.func7, Try.ntmps7
      go_wp2_with fail
      refine (few_is hn hr hf).mono ?_
      rintro e w1 ⟨rfl, rfl⟩
      clear hn hf hW
      go_wp2_with fail
      refine (store_New w).mono ?_
      rintro e w1 ⟨rfl, hS1, hb1⟩
      replace hS1 := hide hS1
      replace hb1 := hide hb1
      go_wp2
      go_loopw [6] (fun i wr => ∃ (k : Nat) (V : Value) (Lr : List Kv) (ls : List Kc), k ≤ n ∧ i = .int .i64 k ∧ Hid (StL w.heap.size wr w.heap.size V Lr ls) ∧ Hid (Below w.heap.size w wr) ∧ ls = addAll (l.take k) ∧ Hid (AllS k ls)) (fun i _ => n - (intOf i).toNat)
      case atStart => exact ⟨0, _, _, _, Nat.zero_le _, rfl, hS1, hb1, rfl, AllS.nil⟩
      case round =>
        obtain ⟨k, V, Lr, ls, hk, rfl, hS, hb, hls, hI⟩ := hrel
        have hkI : (k : Int) ≤ 60 := by omega
        by_cases hlt : k < n
        · obtain ⟨ad, x, rfl, hB, hx, c0, c1, c2⟩ := hr.get hlt
          have hkl : k < l.length := by rw [hll.out]; exact hlt
          have hx30 := hxs.out k x hx
          have hkv := hA.out.2 k (by rw [hA.out.1]; exact hkl)
          rw [kvAt_is hx] at hkv
          have hgk := hG.out.at hkl
          have hT := hide (addAll_snoc l k hkl)
          rw [← hls] at hT
          obtain ⟨kc, hkc⟩ : ∃ kc, kcAt l k = kc := ⟨_, rfl⟩
          rw [hkc] at hkv hgk hT
          have hd : x.d = kc.d := hkv.d
          have hI2 := hI.out.add hgk
          have hE := hide (want_is hI.out.pos kc.c kc.d kc.i s)
          have hlen := hI.out.len
          obtain ⟨ls2, hls2⟩ : ∃ ls2, addL ls kc.c kc.d kc.i = ls2 := ⟨_, rfl⟩
          rw [hls2] at hI2 hE hT
          obtain ⟨was, hwas⟩ : ∃ was, depthL ls s = was := ⟨_, rfl⟩
          rw [hwas] at hE
          have hH := hide hwas
          have hls2 := hide hls2
          have hI2 := hide hI2
          have hgk := hide hgk
          have hkv := hide hkv
          have hgood := hide hI.out.good
          clear hx hkc hls hI hwas
          have hLr : Lr.length ≤ 1000 := by have := hS.out.all.1; omega
          go_wp2_with fail
          refine (store_Depth (some ⟨w.heap.size, 0, none⟩) Lr ls s B m cd _ hS.out.keeps hS.out.all.rd (hrs.below hb.out (Nat.le_refl _)) (by omega) hgood.out (by omega)).mono ?_
          rintro e w2 ⟨rfl, hb2⟩
          rw [hH.out]
          have hS2 := hide (hS.out.step hb2)
          have hb2' := hide (hb.out.trans (hb2.mono hb.out.size))
          have C0 := hide c0
          have C1 := hide c1
          have C2 := hide c2
          clear c0 c1 c2
          have c0 := keepCell hb2'.out C0.out
          have c1 := keepCell hb2'.out C1.out
          have c2 := keepCell hb2'.out C2.out
          clear hS hb hb2
          go_wp2
          go_still_tail 16, (by kernel_rfl)
          change wpList _ _ _ _ _ w2.drew
          have hdr := Dr.below (Dr.refl w2).drew w2.heap.size
          have hS3 := hide (hS2.out.step hdr)
          have hb3 := hide (hb2'.out.trans (hdr.mono hb2'.out.size))
          have c0 := keepCell hdr c0
          have c1 := keepCell hdr c1
          have c2 := keepCell hdr c2
          clear hS2 hb2' hdr
          generalize w2.drew = w3 at *
          go_wp2_with fail
          refine (store_Add' w.heap.size w.heap.size V Lr ls ls2 (addB ls kc.c kc.d) x.c.A x.c.n x.c.c kc.c kc.d x.i.A x.i.n x.i.c kc.i _ hS3.out (hkv.out.c.below hb3.out (Nat.le_refl _)) (by omega) (hkv.out.i.below hb3.out (Nat.le_refl _)) (by omega) hgood.out (by omega) (by
            rcases Nat.eq_zero_or_pos x.i.n with h0 | h0
            · exact .inl h0
            · obtain ⟨a', ha', hlt'⟩ := hkv.out.i.addr h0
              exact .inr (fun a h => by rw [ha'] at h; injection h with h; rw [← h]; exact hlt')) hb3.out.size rfl hls2.out).mono ?_
          rintro e w4 ⟨V3, L3, rfl, hS4, hb4⟩
          replace hS4 := hide hS4
          replace hb4 := hide (hb3.out.trans hb4)
          clear hS3 hb3 c0 c1 c2 hls2
          have c0 := keepCell hb4.out C0.out
          have c1 := keepCell hb4.out C1.out
          have hkc4 := hide (hkv.out.c.below hb4.out (Nat.le_refl _))
          go_wp2_with fail
          refine (ref_Norm _ _ _ kc.c _ (by omega) hkc4.out).mono ?_
          rintro e w5 (⟨hnb, An, nn, cn, rfl, _, _, hb5⟩ | ⟨hnb, rfl, hb5⟩)
          · have hS4 := hide (hS4.out.step hb5)
            have hb4 := hide (hb4.out.trans (hb5.mono hb4.out.size))
            have c0 := keepCell hb4.out C0.out
            have c1 := keepCell hb4.out C1.out
            have hkc4 := hide (hkv.out.c.below hb4.out (Nat.le_refl _))
            clear hb5
            by_cases hd0 : 0 ≤ kc.d
            · cases hhs : hasS kc.c s with
              | false =>
                have hE := hide (show depthL ls2 s = was by rw [hE.out]; unfold wantD; rw [if_neg (fun h => by rw [hhs] at h; cases h.2.2.1)])
                clear hnb
                go_wp2_with fail
                refine (hasS_is (by omega) (by omega) hkc4.out (hrs.below hb4.out (Nat.le_refl _)) hgk.out.w hhs).mono ?_
                rintro e w6 ⟨rfl, hdr⟩
                have hS4 := hide (hS4.out.step (hdr.below _))
                have hb4 := hide (hb4.out.trans (hdr.below _))
                clear hdr hhs hkc4 c0 c1
                go_wp2_with fail
                refine (store_Depth (some ⟨w.heap.size, 0, none⟩) L3 _ s B m cd _ hS4.out.keeps hS4.out.all.rd (hrs.below hb4.out (Nat.le_refl _)) (by omega) hI2.out.good (by have := hS4.out.all.1; have := hI2.out.len; omega)).mono ?_
                rintro e w5 ⟨rfl, hb5⟩
                rw [hE.out]
                have hS5 := hide (hS4.out.step hb5)
                have hb5' := hide (hb4.out.trans (hb5.mono hb4.out.size))
                clear hb5 hS4 hb4 hE
                go_wp2
                go_roundw
                case rel => exact ⟨k + 1, V3, L3, _, hlt, by go_num, hS5, hb5', hT.out.symm, hI2⟩
                case measure => simp [intOf]; omega
              | true =>
                by_cases hwas : was < 0
                · have hE := hide (show depthL ls2 s = kc.d by rw [hE.out]; unfold wantD; rw [if_pos ⟨hnb, hd0, hhs, .inl hwas⟩])
                  clear hnb
                  go_wp2_with fail
                  refine (hasS_is (by omega) (by omega) hkc4.out (hrs.below hb4.out (Nat.le_refl _)) hgk.out.w hhs).mono ?_
                  rintro e w6 ⟨rfl, hdr⟩
                  have hS4 := hide (hS4.out.step (hdr.below _))
                  have hb4 := hide (hb4.out.trans (hdr.below _))
                  have c1 := keepCell hb4.out C1.out
                  clear hdr hhs hkc4 c0
                  go_wp2_with fail
                  refine (store_Depth (some ⟨w.heap.size, 0, none⟩) L3 _ s B m cd _ hS4.out.keeps hS4.out.all.rd (hrs.below hb4.out (Nat.le_refl _)) (by omega) hI2.out.good (by have := hS4.out.all.1; have := hI2.out.len; omega)).mono ?_
                  rintro e w5 ⟨rfl, hb5⟩
                  rw [hE.out]
                  have hS5 := hide (hS4.out.step hb5)
                  have hb5' := hide (hb4.out.trans (hb5.mono hb4.out.size))
                  clear hb5 hS4 hb4 hE
                  go_wp2
                  go_roundw
                  case rel => exact ⟨k + 1, V3, L3, _, hlt, by go_num, hS5, hb5', hT.out.symm, hI2⟩
                  case measure => simp [intOf]; omega
                · by_cases hlw : kc.d < was
                  · have hE := hide (show depthL ls2 s = kc.d by rw [hE.out]; unfold wantD; rw [if_pos ⟨hnb, hd0, hhs, .inr hlw⟩])
                    clear hnb
                    go_wp2_with fail
                    refine (hasS_is (by omega) (by omega) hkc4.out (hrs.below hb4.out (Nat.le_refl _)) hgk.out.w hhs).mono ?_
                    rintro e w6 ⟨rfl, hdr⟩
                    have hS4 := hide (hS4.out.step (hdr.below _))
                    have hb4 := hide (hb4.out.trans (hdr.below _))
                    have c1 := keepCell hb4.out C1.out
                    clear hdr hhs hkc4 c0
                    go_wp2_with fail
                    refine (store_Depth (some ⟨w.heap.size, 0, none⟩) L3 _ s B m cd _ hS4.out.keeps hS4.out.all.rd (hrs.below hb4.out (Nat.le_refl _)) (by omega) hI2.out.good (by have := hS4.out.all.1; have := hI2.out.len; omega)).mono ?_
                    rintro e w5 ⟨rfl, hb5⟩
                    rw [hE.out]
                    have hS5 := hide (hS4.out.step hb5)
                    have hb5' := hide (hb4.out.trans (hb5.mono hb4.out.size))
                    clear hb5 hS4 hb4 hE
                    go_wp2
                    go_roundw
                    case rel => exact ⟨k + 1, V3, L3, _, hlt, by go_num, hS5, hb5', hT.out.symm, hI2⟩
                    case measure => simp [intOf]; omega
                  · have hE := hide (show depthL ls2 s = was by rw [hE.out]; unfold wantD; rw [if_neg (fun h => h.2.2.2.elim hwas hlw)])
                    clear hnb
                    go_wp2_with fail
                    refine (hasS_is (by omega) (by omega) hkc4.out (hrs.below hb4.out (Nat.le_refl _)) hgk.out.w hhs).mono ?_
                    rintro e w6 ⟨rfl, hdr⟩
                    have hS4 := hide (hS4.out.step (hdr.below _))
                    have hb4 := hide (hb4.out.trans (hdr.below _))
                    have c1 := keepCell hb4.out C1.out
                    clear hdr hhs hkc4 c0
                    go_wp2_with fail
                    refine (store_Depth (some ⟨w.heap.size, 0, none⟩) L3 _ s B m cd _ hS4.out.keeps hS4.out.all.rd (hrs.below hb4.out (Nat.le_refl _)) (by omega) hI2.out.good (by have := hS4.out.all.1; have := hI2.out.len; omega)).mono ?_
                    rintro e w5 ⟨rfl, hb5⟩
                    rw [hE.out]
                    have hS5 := hide (hS4.out.step hb5)
                    have hb5' := hide (hb4.out.trans (hb5.mono hb4.out.size))
                    clear hb5 hS4 hb4 hE
                    go_wp2
                    go_roundw
                    case rel => exact ⟨k + 1, V3, L3, _, hlt, by go_num, hS5, hb5', hT.out.symm, hI2⟩
                    case measure => simp [intOf]; omega
            · have hE := hide (show depthL ls2 s = was by rw [hE.out]; unfold wantD; rw [if_neg (fun h => hd0 h.2.1)])
              clear hnb hkc4
              go_wp2_with fail
              refine (store_Depth (some ⟨w.heap.size, 0, none⟩) L3 _ s B m cd _ hS4.out.keeps hS4.out.all.rd (hrs.below hb4.out (Nat.le_refl _)) (by omega) hI2.out.good (by have := hS4.out.all.1; have := hI2.out.len; omega)).mono ?_
              rintro e w5 ⟨rfl, hb5⟩
              rw [hE.out]
              have hS5 := hide (hS4.out.step hb5)
              have hb5' := hide (hb4.out.trans (hb5.mono hb4.out.size))
              clear hb5 hS4 hb4 hE
              go_wp2
              go_roundw
              case rel => exact ⟨k + 1, V3, L3, _, hlt, by go_num, hS5, hb5', hT.out.symm, hI2⟩
              case measure => simp [intOf]; omega
          · have hE := hide (show depthL ls2 s = was by rw [hE.out]; unfold wantD; rw [if_neg (fun h => by rw [hnb] at h; cases h.1)])
            have hS4 := hide (hS4.out.step hb5)
            have hb4 := hide (hb4.out.trans (hb5.mono hb4.out.size))
            clear hb5 hkc4 hnb c0 c1
            go_wp2_with fail
            refine (store_Depth (some ⟨w.heap.size, 0, none⟩) L3 _ s B m cd _ hS4.out.keeps hS4.out.all.rd (hrs.below hb4.out (Nat.le_refl _)) (by omega) hI2.out.good (by have := hS4.out.all.1; have := hI2.out.len; omega)).mono ?_
            rintro e w5 ⟨rfl, hb5⟩
            rw [hE.out]
            have hS5 := hide (hS4.out.step hb5)
            have hb5' := hide (hb4.out.trans (hb5.mono hb4.out.size))
            clear hb5 hS4 hb4 hE
            go_wp2
            go_roundw
            case rel => exact ⟨k + 1, V3, L3, _, hlt, by go_num, hS5, hb5', hT.out.symm, hI2⟩
            case measure => simp [intOf]; omega
        · have hkn : n = k := by omega
          subst hkn
          have hLr : Lr.length ≤ 1000 := by have := hS.out.all.1; have := hI.out.len; omega
          have hap := hide hI.out.apart
          have hgood := hide hI.out.good
          have hlen := hI.out.len
          clear hI hls
          go_wp2_with fail
          refine (store_List (some ⟨w.heap.size, 0, none⟩) Lr ls _ hS.out.keeps hS.out.all.rd hgood.out (by omega)).mono ?_
          rintro e w2 ⟨v, rfl, ⟨La, hown, hall⟩, hb2⟩
          have hb2 := hide (hb.out.trans (hb2.mono hb.out.size))
          have hLa : La.length = ls.length := hall.1
          obtain ⟨Aa, ca, rfl, _, _, hra⟩ := RdK.of_own hown
          obtain ⟨N, hN⟩ : ∃ N, La.length = N := ⟨_, rfl⟩
          rw [hN] at hra hLa ⊢
          have hN60 : N ≤ 60 := by omega
          have hak := hide hall.rd
          have hcl := hide (show ∀ (j : Nat) y, La[j]? = some y → y.c.n ≤ 1000000 from fun j y hy => by
            have hjl : j < La.length := (List.getElem?_eq_some_iff.1 hy).1
            have h1 := (hall.rd.2 j hjl).c.len
            rw [kvAt_is hy] at h1
            have h2 := (hgood.out.at (j := j) (by rw [← hall.1]; exact hjl)).c
            omega)
          have hLN := hide hLa
          have hNN := hide hN
          clear hall hown hS hb hA hr hrs hlen hLa hN hgood hLr hlt hk hkI
          go_wp2
          go_loopw [12] (fun i wr => ∃ k : Nat, k ≤ N ∧ i = .int .i64 k ∧ Dr w2 wr) (fun i _ => N - (intOf i).toNat)
          case atStart => exact ⟨0, Nat.zero_le _, rfl, Dr.refl _⟩
          case round =>
            obtain ⟨i, hi, rfl, hd⟩ := hrel
            have hiI : (i : Int) ≤ 60 := by omega
            by_cases hltn : i < N
            · obtain ⟨wo, rfl⟩ : ∃ wo : World, wo = wr := ⟨_, rfl⟩
              go_wp2
              go_loopw [13] (fun j wr => ∃ k : Nat, k ≤ N ∧ j = .int .i64 k ∧ Dr w2 wr) (fun j _ => N - (intOf j).toNat)
              case atStart => exact ⟨0, Nat.zero_le _, rfl, hd⟩
              case round =>
                obtain ⟨j, hj, rfl, hd⟩ := hrel
                have hjI : (j : Int) ≤ 60 := by omega
                by_cases hltj : j < N
                · obtain ⟨ad, x, hAa, hB, hx, c0, c1, c2⟩ := hra.get hltn
                  obtain ⟨ad', y, hAa', hB', hy, e0, e1, e2⟩ := hra.get hltj
                  rw [hAa] at hAa'
                  injection hAa' with hAa'
                  subst hAa'
                  subst hAa
                  have c0 := (hd.cell _).trans c0
                  have c1 := (hd.cell _).trans c1
                  have e0 := (hd.cell _).trans e0
                  have e1 := (hd.cell _).trans e1
                  clear c2 e2 hB hB'
                  by_cases hij : i = j
                  · subst hij
                    have hf1 : ((i : Int) == (i : Int)) = true := by simp
                    clear hx hy
                    go_wp2
                    go_quiet (fail)
                    go_wp2
                    go_roundw
                    case rel => exact ⟨i + 1, hltj, by go_num, hd.more _⟩
                    case measure => simp [intOf]; omega
                  · have hijI : ¬ (i : Int) = (j : Int) := by omega
                    have hf1 : ((i : Int) == (j : Int)) = false := by simp [hijI]
                    have hf2 : ((i : Int) != (j : Int)) = true := by simp [hijI]
                    have hNl := hNN.out
                    have hxk := hak.out.2 i (by rw [hNl]; exact hltn)
                    have hyk := hak.out.2 j (by rw [hNl]; exact hltj)
                    rw [kvAt_is hx] at hxk
                    rw [kvAt_is hy] at hyk
                    have hdx : x.d = (kcAt ls i).d := hxk.d
                    have hdy : y.d = (kcAt ls j).d := hyk.d
                    by_cases hdd : x.d ≤ y.d
                    · have hcv := apart_at hap.out (i := i) (k := j) (by have := hLN.out; omega) (by have := hLN.out; omega) hij (by rw [← hdx, ← hdy]; exact hdd)
                      have hgx := hxk.c.len
                      have hgy := hyk.c.len
                      have hx6 : x.c.n ≤ 1000000 := hcl.out i x hx
                      have hy6 : y.c.n ≤ 1000000 := hcl.out j y hy
                      have H := hide (fun m => rcov_is (ca := x.c.c) (cb := y.c.c) hx6 hy6 (Dr.rd (hd.more m) hxk.c) (Dr.rd (hd.more m) hyk.c) hcv)
                      have hdb : decide (x.d ≤ y.d) = true := decide_eq_true hdd
                      clear hx hy hxk hyk hdx hdy hcv hgx hgy hx6 hy6 hNl
                      go_wp2
                      go_quiet ((go_at_call 45; exact quiet_eq (H.out _)))
                      go_wp2
                      go_roundw
                      case rel => exact ⟨j + 1, hltj, by go_num, hd.more _⟩
                      case measure => simp [intOf]; omega
                    · have hdb : decide (x.d ≤ y.d) = false := decide_eq_false hdd
                      clear hx hy hxk hyk hdx hdy hNl
                      go_wp2
                      go_quiet (fail)
                      go_wp2
                      go_roundw
                      case rel => exact ⟨j + 1, hltj, by go_num, hd.more _⟩
                      case measure => simp [intOf]; omega
                · have hjn : j = N := by omega
                  subst hjn
                  go_wp2
                  go_roundw
                  case rel => exact ⟨i + 1, hltn, by go_num, hd⟩
                  case measure => simp [intOf]; omega
            · have hin : i = N := by omega
              subst hin
              go_wp2_with fail
              refine (law_lives _).mono ?_
              rintro e w3 ⟨rfl, hb3⟩
              have hbf := hide (hb2.out.trans ((hd.below w2.heap.size).mono hb2.out.size |>.trans (hb3.mono (by have := (hd.below 0).size; have := hb2.out.size; omega))))
              clear hb3
              go_wp2
              go_ret
              exact ⟨rfl, hbf.out⟩
    · go_enter Try.func7, Try.ntmps7
      go_wp2_with fail
      refine (few_is hn hr hf).mono ?_
      rintro e w1 ⟨rfl, rfl⟩
      clear hn
      have hm2 : 60 < m := by omega
      go_wp2_with fail
      refine (law_lives w).mono ?_
      rintro e w1 ⟨rfl, hb1⟩
      replace hb1 := hide hb1
      go_wp2
      go_ret
      exact ⟨rfl, hb1.out⟩
end Go.Proofs.Ytcjoohaagdihlaa.Kept
