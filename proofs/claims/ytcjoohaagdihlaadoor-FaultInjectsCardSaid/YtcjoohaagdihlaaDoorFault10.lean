/- The contract of the program's Collapse. -/
import Derived.Test.YtcjoohaagdihlaaDoorFault9
namespace Go.Proofs.YtcjoohaagdihlaaDoor.Fault
open Go.RowKit Go.Lt Go.Proofs.YtcjoohaagdihlaaDoor.Lit Go.Instr
set_option linter.unusedVariables false
set_option linter.unusedSimpArgs false

def SeenIs (sm : List (Ft × Value)) (xs : List Ft) : Prop := ∀ g, (mget sm g).getD (.bool false) = .bool (decide (g ∈ xs))
theorem seen_nil : SeenIs [] [] := fun g => rfl
theorem seen_step {sm : List (Ft × Value)} {xs : List Ft} (h : SeenIs sm xs) (f : Ft) : SeenIs (mput sm f (.bool true)) (xs ++ [f]) := by
  intro g
  rw [mget_mput]
  by_cases hg : f = g
  · subst hg; simp
  · rw [if_neg hg, h g]
    have : g ≠ f := fun h => hg h.symm
    simp [this]
def cellI (w : World) (g j : Nat) : Int := intOf ((w.cell? ⟨g, j, none⟩).getD (.int .i64 0))
def bW (b : Value) : Nat := match b with
  | .bool true => 1
  | _ => 0
def rankW (n g : Nat) (b : Value) (w : World) : Nat := 2 * ((n : Int) + 1 - cellI w g 0).toNat + (if 0 < cellI w g 1 then 1 else 0) + bW b
theorem rankW_is (n g : Nat) (b : Bool) (f : Ft) (w : World) (h0 : w.cell? ⟨g, 0, none⟩ = some (.int .i64 f.v)) (h1 : w.cell? ⟨g, 1, none⟩ = some (.int .i64 f.p)) : rankW n g (.bool b) w = rank n f + (if b = true then 1 else 0) := by
  unfold rankW rank cellI
  rw [h0, h1]
  by_cases h : 0 < f.p <;> cases b <;> simp [intOf, bW, h]
/-- the faults collapsed -/
def collP (l : List Nd) (outs : List Int) (fs : List Ft) : List Ft := collF l.length (occs l l.length) outs (fs.filter (goodF l))
def CollIs (l : List Nd) (outs : List Int) (fs : List Ft) (w : World) (e : Ending) (w' : World) : Prop :=
  ∃ v m, e = .returned v ∧ w'.ownsRow w.heap.size 54 3 v m (encF (collP l outs fs)) ∧ Below w.heap.size w w'
theorem collP_no {l : List Nd} {outs : List Int} {fs : List Ft} {k : Nat} {f : Ft} (h : fs[k]? = some f) (hg : goodF l f = false) : collP l outs (fs.take (k + 1)) = collP l outs (fs.take k) := by
  have hk := (List.getElem?_eq_some_iff.1 h)
  unfold collP
  rw [List.take_succ_eq_append_getElem hk.1, hk.2, List.filter_append]
  simp [hg]
theorem collP_yes {l : List Nd} {outs : List Int} {fs : List Ft} {k : Nat} {f : Ft} (h : fs[k]? = some f) (hg : goodF l f = true) : collP l outs (fs.take (k + 1)) = addF (collP l outs (fs.take k)) (lastF l.length (occs l l.length) outs f) := by
  have hk := (List.getElem?_eq_some_iff.1 h)
  unfold collP
  rw [List.take_succ_eq_append_getElem hk.1, hk.2, List.filter_append, ← collF_snoc]
  simp [hg]
theorem name_to {os : List Oc} {outs : List Int} {f g : Ft} {b : Bool} {w w' : World} {e : Ending} (h : nameF os outs f = (g, b)) (hn : NameIs os outs f w e w') :
    e = .returned (.tuple #[.agg #[.int .i64 g.v, .int .i64 g.p, .bool g.o], .bool b]) ∧ Below w.heap.size w w' := by
  obtain ⟨h1, h2⟩ := hn
  rw [h] at h1
  exact ⟨h1, h2⟩
theorem name_no {os : List Oc} {outs : List Int} {f g : Ft} (h : nameF os outs f = (g, false)) : g = f := by
  unfold nameF at h
  split at h
  · injection h with _ h; cases h
  · split at h
    · split at h
      · injection h with _ h; cases h
      · injection h with h _; exact h.symm
    · injection h with h _; exact h.symm
theorem collP_len (l : List Nd) (outs : List Int) (fs : List Ft) : (collP l outs fs).length ≤ fs.length :=
  Nat.le_trans (collF_len _ _ _ _) (List.length_filter_le _ _)
theorem RdF.get {w : World} {A : Option Addr} {n k : Nat} {l : List Ft} (h : RdF w A n l) (hk : k < n) :
    ∃ ad x, A = some ad ∧ ad.block < w.heap.size ∧ l[k]? = some x ∧ w.cell? (ad.add (k * 3)) = some (.int .i64 x.v) ∧ w.cell? ⟨(ad.add (k * 3)).block, (ad.add (k * 3)).off + 1, none⟩ = some (.int .i64 x.p) ∧ w.cell? ⟨(ad.add (k * 3)).block, (ad.add (k * 3)).off + 2, none⟩ = some (.bool x.o) := by
  obtain ⟨ad, x, h1, h2, h3, h4, h5, h6⟩ := h.2 k hk
  exact ⟨ad, x, h1, h2, h3, h4, by rw [addr_off _ _ _ (by omega)]; exact h5, by rw [addr_off _ _ _ (by omega)]; exact h6⟩
theorem occs_lit {l : List Nd} (h : GoodNet l) (hn : l.length ≤ 1000) : ∀ o ∈ occs l l.length, 0 ≤ o.lit ∧ o.lit ≤ 1000000 := by
  intro o ho
  unfold occs at ho
  rw [List.mem_flatMap] at ho
  obtain ⟨i, hi, ho⟩ := ho
  rw [List.mem_range] at hi
  have hx : l[i]? = some (l.getD i ⟨0, 0⟩) := by simp [List.getD_eq_getElem?_getD, hi]
  have hg := h i _ hx
  generalize l.getD i ⟨0, 0⟩ = x at hx hg ho
  unfold occNode at ho
  split at ho
  · simp at ho
  · obtain ⟨h1, h2, h3⟩ := hg (by omega)
    simp only [List.mem_cons, List.not_mem_nil, or_false] at ho
    rcases ho with rfl | rfl <;> simp <;> omega

set_option maxHeartbeats 4000000 in
theorem fault_Collapse (A C F : Option Addr) (n m k c cc ck : Nat) (l : List Nd) (outs : List Int) (fs : List Ft) (w : World) (hn : n ≤ 1000) (hm : m ≤ 1000) (hk : k ≤ 10000) (hr : RdN w A n l) (hro : Rd w C m (ivs outs)) (hrf : RdF w F k fs) (hg : GoodNet l) (ho : GoodOuts l outs) :
    Calls Tryd.prog 36 #[.slice A n c, .slice C m cc, .slice F k ck] w (CollIs l outs fs w) := by
  have hnI : (n : Int) ≤ 1000 := by omega
  have hkI : (k : Int) ≤ 10000 := by omega
  have hl := hide hr.1
  have hlf := hide hrf.1
  have HN := hide hn
  have HK := hide hk
  have HU := hide (fault_uses A C n m c cc l outs w hn hm hr hro hg ho)
  have HL := hide (occs_later hg)
  have HT := hide (occs_lit hg (by rw [hr.1]; exact hn))
  clear hn hm hk hg ho
  have hmm := @run_makeMap Tryd.prog
  go_enter Tryd.func36, Tryd.ntmps36
  go_wp2_with fail
  refine HU.out.mono ?_
  rintro e w1 ⟨B1, B2, m1, m2, rfl, hne, hB1, hB2, hM1, hM2, hone, hoft, hb1⟩
  have hB1l := hM1.lt
  have hB2l := hM2.lt
  have hone := hide hone
  have hoft := hide hoft
  go_wp2
  go_loopw [10, 25] (fun v i wr => ∃ j q : Nat, ∃ sm, j ≤ k ∧ i = .int .i64 j ∧ wr.ownsRow w.heap.size 54 3 v q (encF (collP l outs (fs.take j))) ∧ Below w.heap.size w wr ∧ MapO wr encI B1 m1 ∧ MapO wr encI B2 m2 ∧ Blk wr w1.heap.size 112 #[.map (some B1)] ∧ Blk wr (w1.heap.size + 1) 113 #[.map (some B2)] ∧ MapO wr encK (w1.heap.size + 1 + 1) sm ∧ Hid (SeenIs sm (collP l outs (fs.take j)))) (fun _ i _ => k - (intOf i).toNat)
  case atStart =>
    refine ⟨0, 0, [], Nat.zero_le _, rfl, World.ownsRow_nil _ _ _ _, ((hb1.alloc hb1.size _).alloc (by have := hb1.size; simp; omega) _).alloc (by have := hb1.size; simp; omega) _, ((hM1.alloc _).alloc _).alloc _, ((hM2.alloc _).alloc _).alloc _, ((Blk.new _ _ _).alloc _).alloc _, ?_, ?_, hide seen_nil⟩
    · have := (Blk.new (w1.alloc (.cells #[.map (some B1)] 112)) 113 #[.map (some B2)]).alloc (.map #[] 0)
      simpa using this
    · have := MapO.made ((w1.alloc (.cells #[.map (some B1)] 112)).alloc (.cells #[.map (some B2)] 113)) encK
      simpa using this
  case round =>
    obtain ⟨j, q, sm, hj, rfl, hown, hb, hM1, hM2, hk7, hk8, hMS, hsee⟩ := hrel
    have hjI : (j : Int) ≤ 10000 := by omega
    have hqk := hide (show q ≤ 10000 by have h1 := hown.1; have h2 := collP_len l outs (fs.take j); rw [encF_len] at h1; have := List.length_take_le' j fs; have := hlf.out; have := HK.out; omega)
    by_cases hlt : j < k
    · obtain ⟨ad, f0, rfl, hB, hf0, hc0, hc1, hc2⟩ := (hrf.below hb (Nat.le_refl _)).get hlt
      obtain ⟨wo, rfl⟩ : ∃ wo : World, wo = wr := ⟨_, rfl⟩
      cases hgf : goodF l f0
      · have HT1 := hide (collP_no (outs := outs) hf0 hgf)
        have HG := hide (fun W hW => goodP_is (A := A) (n := n) (c := c) hgf (by have := HN.out; omega) W hW)
        clear hgf hf0
        have hbA := (Below.refl wo.heap.size wo).alloc (Nat.le_refl _) (.cells #[.int .i64 f0.v, .int .i64 f0.p, .bool f0.o] 54)
        go_wp2_with fail
        refine (HG.out _ ((hr.below hb (Nat.le_refl _)).below hbA (Nat.le_refl _))).mono ?_
        rintro e w2 ⟨rfl, hb2⟩
        have hb3 := hbA.trans (hb2.mono hbA.size)
        clear hb2 hc0 hc1 hc2
        have hM1 := hide (hM1.below hb3 hM1.lt)
        have hM2 := hide (hM2.below hb3 hM2.lt)
        have hMS := hide (hMS.below hb3 hMS.lt)
        have hk7 := hide (hk7.below hb3 hk7.lt)
        have hk8 := hide (hk8.below hb3 hk8.lt)
        have hown := own_keep hown hb3
        have hbw := hb.trans (hb3.mono hb.size)
        clear hb3 hbA
        go_wp2
        go_roundw
        case rel => exact ⟨j + 1, q, sm, hlt, by go_num, by rw [HT1.out]; exact hown, hbw, hM1.out, hM2.out, hk7.out, hk8.out, hMS.out, by rw [HT1.out]; exact hsee⟩
        case measure => simp [intOf]; omega
      · have HT1 := hide (collP_yes (outs := outs) hf0 hgf)
        have HG := hide (fun W hW => goodP_is (A := A) (n := n) (c := c) hgf (by have := HN.out; omega) W hW)
        clear hgf hf0
        have hbA := (Below.refl wo.heap.size wo).alloc (Nat.le_refl _) (.cells #[.int .i64 f0.v, .int .i64 f0.p, .bool f0.o] 54)
        go_wp2_with fail
        refine (HG.out _ ((hr.below hb (Nat.le_refl _)).below hbA (Nat.le_refl _))).mono ?_
        rintro e w2 ⟨rfl, hb2⟩
        have hb3 := hbA.trans (hb2.mono hbA.size)
        have hblk0 : Blk w2 wo.heap.size 54 #[.int .i64 f0.v, .int .i64 f0.p, .bool f0.o] := (Blk.new _ _ _).below hb2 (by simp)
        clear hb2 hc0 hc1 hc2
        obtain ⟨LF, hLF⟩ : ∃ LF, LF = lastF l.length (occs l l.length) outs f0 := ⟨_, rfl⟩
        have HLF := hide hLF
        go_wp2
        go_loopw [14] (fun o wr => ∃ (f : Ft) (b : Bool), o = .bool b ∧ Blk wr wo.heap.size 54 #[.int .i64 f.v, .int .i64 f.p, .bool f.o] ∧ Below wo.heap.size wo wr ∧ Hid (LF = lastF l.length (occs l l.length) outs f) ∧ Hid (b = false → (nameF (occs l l.length) outs f).2 = false)) (fun b wr => rankW l.length wo.heap.size b wr)
        case atStart => exact ⟨f0, true, rfl, hblk0, hb3, HLF, hide (fun h => by cases h)⟩
        case round =>
          clear hblk0 hb3
          obtain ⟨f, b, rfl, hblk, hb3, hlf1, hfin⟩ := hrel
          have hc0 : wr.cell? ⟨wo.heap.size, 0, none⟩ = some (.int .i64 f.v) := hblk.cell 0
          have hc1 : wr.cell? ⟨wo.heap.size, 1, none⟩ = some (.int .i64 f.p) := hblk.cell 1
          have hc2 : wr.cell? ⟨wo.heap.size, 2, none⟩ = some (.bool f.o) := hblk.cell 2
          have hz0 := hblk.frozen 0
          have hz1 := hblk.frozen 1
          have hz2 := hblk.frozen 2
          have hrk := hide (rankW_is l.length wo.heap.size b f wr hc0 hc1)
          cases b
          · have hend := hide (show LF = f by rw [hlf1.out]; exact lastF_end HL.out outs f (hfin.out rfl))
            clear hlf1 hfin hrk
            have hM1' := hide (hM1.below hb3 hM1.lt)
            have hM2' := hide (hM2.below hb3 hM2.lt)
            have hMS' := hMS.below hb3 hMS.lt
            have hk7' := hide (hk7.below hb3 hk7.lt)
            have hk8' := hide (hk8.below hb3 hk8.lt)
            have hown' := own_keep hown hb3
            have hbw := hb.trans (hb3.mono hb.size)
            clear hM1 hM2 hMS hk7 hk8 hown
            obtain ⟨D, hD⟩ : ∃ D, decide (f ∈ collP l outs (fs.take j)) = D := ⟨_, rfl⟩
            have hget := hide (show (mget sm f).getD (.bool false) = .bool D by rw [← hD]; exact hsee.out f)
            cases D
            · have hnew := hide (show collP l outs (fs.take (j + 1)) = collP l outs (fs.take j) ++ [f] by
                rw [HT1.out, ← HLF.out, hend.out]
                unfold addF
                rw [if_neg (of_decide_eq_false hD)])
              have hS := hide (seen_step hsee.out f)
              have hne5 := hide (hMS'.own_ne hown')
              have hneb := hide (blk_map_ne hblk hMS')
              have hne7 := hide (blk_map_ne hk7'.out hMS')
              have hne8 := hide (blk_map_ne hk8'.out hMS')
              have hsz := hide hb1.size
              clear hD
              go_wp2_with (first | (at_lookup; refine wpList_lookupO keyLaw_K Tryd.underlying119 zero_bool rfl _ _ rfl hMS' f (by rfl) (by rfl) ?_; rw [hget.out]) | (at_mapUpdate; refine wpList_updateO keyLaw_K Tryd.underlying119 rfl _ _ _ rfl hMS' f (.bool true) (by rfl) (by rfl) (by rfl) ?_; intro w5 hMS5 hg5; have hblk5 := hblk.grown hg5 (fun e => hneb.out (Option.some.inj e)); clear hc0 hc1 hc2; have hc0 : w5.cell? ⟨wo.heap.size, 0, none⟩ = some (.int .i64 f.v) := hblk5.cell 0; have hc1 : w5.cell? ⟨wo.heap.size, 1, none⟩ = some (.int .i64 f.p) := hblk5.cell 1; have hc2 : w5.cell? ⟨wo.heap.size, 2, none⟩ = some (.bool f.o) := hblk5.cell 2; have hown5 := hown'.kept hg5 (.inr (fun e => hne5.out e.symm)); have hbw5 := hbw.grown hg5 hbw.size (fun i e => by cases e; have := hsz.out; omega)) | (at_builtin; refine wpList_pushG rfl _ _ _ rfl Tryd.underlying50 info_f rfl (by decide) rfl rfl hown5 hbw5 (Nat.le_refl _) rfl (by simp [Value.oneCell']) (by have := hqk.out; unfold maxLen; omega) (by have := hqk.out; omega) ?_; intro v1 w6 hown6 hb6 hgr6))
              have hM15 := hM1'.out.grown hg5 (fun e => by have := Option.some.inj e; omega)
              have hM25 := hM2'.out.grown hg5 (fun e => by have := Option.some.inj e; omega)
              have hk75 := hk7'.out.grown hg5 (fun e => hne7.out (Option.some.inj e))
              have hk85 := hk8'.out.grown hg5 (fun e => hne8.out (Option.some.inj e))
              have hM16 := hide ((hM15.alloc _).grown hgr6 (hM15.own_ne hown5))
              have hM26 := hide ((hM25.alloc _).grown hgr6 (hM25.own_ne hown5))
              have hMS6 := hide ((hMS5.alloc _).grown hgr6 (hMS5.own_ne hown5))
              have hk76 := hide ((hk75.alloc _).grown hgr6 (own_blk_ne hown5 hk75 (by decide)))
              have hk86 := hide ((hk85.alloc _).grown hgr6 (own_blk_ne hown5 hk85 (by decide)))
              go_roundw
              case rel => exact ⟨j + 1, q + 1, _, hlt, by go_num, by rw [hnew.out, encF_app]; exact hown6, hb6, hM16.out, hM26.out, hk76.out, hk86.out, hMS6.out, by rw [hnew.out]; exact hS⟩
              case measure => simp [intOf]; omega
            · have hnew := hide (show collP l outs (fs.take (j + 1)) = collP l outs (fs.take j) by
                rw [HT1.out, ← HLF.out, hend.out]
                unfold addF
                rw [if_pos (of_decide_eq_true hD)])
              clear hD
              go_wp2_with (at_lookup; refine wpList_lookupO keyLaw_K Tryd.underlying119 zero_bool rfl _ _ rfl hMS' f (by rfl) (by rfl) ?_; rw [hget.out])
              go_roundw
              case rel => exact ⟨j + 1, q, sm, hlt, by go_num, by rw [hnew.out]; exact hown', hbw, hM1'.out, hM2'.out, hk7'.out, hk8'.out, hMS', by rw [hnew.out]; exact hsee⟩
              case measure => simp [intOf]; omega
          · obtain ⟨f', b', hN⟩ : ∃ f' b', nameF (occs l l.length) outs f = (f', b') := ⟨_, _, rfl⟩
            have hk7' := hide (hk7.below hb3 hk7.lt)
            have hk8' := hide (hk8.below hb3 hk8.lt)
            have HC := hide (fun e w' => @name_to _ _ _ _ _ wr w' e hN)
            have HC2 := hide (coll_name w1.heap.size (w1.heap.size + 1) B1 B2 (occs l l.length) outs m1 m2 f wr (hk7'.out.cell 0) (hk8'.out.cell 0) (hM1.below hb3 hM1.lt) (hM2.below hb3 hM2.lt) hone.out hoft.out HT.out)
            have hN := hide hN
            go_wp2_with fail
            refine HC2.out.mono ?_
            rintro e w3 hnm
            obtain ⟨rfl, hb4⟩ := HC.out _ _ hnm
            have hblk3 := hblk.below hb4 hblk.lt
            clear hc0 hc1 hc2 hz0 hz1 hz2 hnm hblk
            have hz0 := hblk3.frozen 0
            have hz1 := hblk3.frozen 1
            have hz2 := hblk3.frozen 2
            have hc0 : w3.cell? ⟨wo.heap.size, 0, none⟩ = some (.int .i64 f.v) := hblk3.cell 0
            have hc1 : w3.cell? ⟨wo.heap.size, 1, none⟩ = some (.int .i64 f.p) := hblk3.cell 1
            have hc2 : w3.cell? ⟨wo.heap.size, 2, none⟩ = some (.bool f.o) := hblk3.cell 2
            go_wp2
            have hset := hide (show Blk _ _ 54 #[.int .i64 f'.v, .int .i64 f'.p, .bool f'.o] from (((hblk3.set_ 0 (.int .i64 f'.v)).set_ 1 (.int .i64 f'.p)).set_ 2 (.bool f'.o)))
            have hb5 := hide ((((hb3.trans (hb4.mono hb3.size)).setCell (p := ⟨wo.heap.size, 0, none⟩) (Nat.le_refl _) (.int .i64 f'.v)).setCell (p := ⟨wo.heap.size, 1, none⟩) (Nat.le_refl _) (.int .i64 f'.p)).setCell (p := ⟨wo.heap.size, 2, none⟩) (Nat.le_refl _) (.bool f'.o))
            refine ⟨⟨f', b', rfl, hset.out, hb5.out, ?_, ?_⟩, ?_⟩
            · refine hide ?_
              rw [hlf1.out]
              cases b'
              · rw [name_no hN.out]
              · rw [lastF_step HL.out outs f (by rw [hN.out]), hN.out]
            · refine hide fun hb => ?_
              subst hb
              have := name_no hN.out
              rw [this, hN.out]
            · rw [rankW_is l.length wo.heap.size b' f' _ (hset.out.cell 0) (hset.out.cell 1), hrk.out]
              cases b'
              · rw [name_no hN.out]; simp
              · have := name_falls HL.out outs f (by rw [hN.out])
                rw [hN.out] at this
                simpa using this
    · have hjk : j = k := by omega
      subst hjk
      have hfull := hide (show fs.take j = fs by rw [← hlf.out]; exact List.take_length)
      rw [hfull.out] at hown
      go_wp2
      go_ret
      exact ⟨_, q, rfl, hown, hb⟩
end Go.Proofs.YtcjoohaagdihlaaDoor.Fault
