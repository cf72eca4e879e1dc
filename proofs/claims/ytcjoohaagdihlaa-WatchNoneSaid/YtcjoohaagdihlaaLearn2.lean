/- The document's Good of steps. -/
import Derived.Test.YtcjoohaagdihlaaLearn1
namespace Go.Proofs.Ytcjoohaagdihlaa.Learn
open Go.RowKit Go.Lt Go.Proofs.Ytcjoohaagdihlaa.Lit Go.Proofs.Ytcjoohaagdihlaa.Sorted
open Go.Proofs.Ytcjoohaagdihlaa.Kept (Sl Sl.val addr_off)
set_option linter.unusedVariables false
set_option linter.unusedSimpArgs false

theorem bad_step {l : List St} {bad : List Int} {k : Nat} (hk : k < l.length) (h : ¬ OkStep (l.take k) (lvl l k) (stAt l k)) : goodB l bad = false := goodB_no fun hg => h (hg.1 k hk)
theorem bad_bad {l : List St} {bad : List Int} {x : Int} (hx : x ∈ bad) (h : zeroB l x = false) : goodB l bad = false := goodB_no fun hg => by have := hg.2 x hx; rw [h] at this; cases this
theorem good_yes {l : List St} {bad : List Int} (h : OkTo l l.length) (hb : ∀ k : Nat, k < bad.length → ∀ x, bad[k]? = some x → zeroB l x = true) : goodB l bad = true := goodB_yes ⟨h, fun x hx => by
  obtain ⟨k, hk⟩ := List.getElem?_of_mem hx
  exact hb k (List.getElem?_eq_some_iff.1 hk).1 x hk⟩
theorem has_isR {A : Option Addr} {n c : Nat} {l : List Int} {x : Int} {b : Bool} (h : hasB l x = b) (hn : n ≤ 1000000) (W : World) (hr : Rd W A n (ivs l)) :
    Calls Try.prog 95 #[.slice A n c, .int .i64 x] W fun e w' => e = .returned (.bool b) ∧ W = w' := by
  subst h; exact ref_Has A n c l x W hn hr
theorem zero_is {A : Option Addr} {n c : Nat} {l : List St} {x : Int} {b : Bool} (h : zeroB l x = b) (hn : n ≤ 1000) (W : World) (hr : RdT W A n l) :
    Calls Try.prog 96 #[.slice A n c, .int .i64 x] W fun e w' => e = .returned (.bool b) ∧ Dr W w' := by
  subst h; exact ref_zero A n c l x W hn hr
set_option maxRecDepth 8000 in
set_option maxHeartbeats 4000000 in
theorem ref_GoodS (A : Option Addr) (n c : Nat) (l : List St) (B : Option Addr) (m cb : Nat) (bad : List Int) (w : World) (hn : n ≤ 1000) (hnc : n ≤ c) (hr : RdT w A n l) (hw : ∀ s ∈ l, s.why.length ≤ 1000) (hm : m ≤ 1000) (hrb : Rd w B m (ivs bad)) :
    Calls Try.prog 31 #[.slice A n c, .slice B m cb] w fun e w' => e = .returned (.bool (goodB l bad)) ∧ Below w.heap.size w w' := by
  have hnI : (n : Int) ≤ 1000 := by omega
  have hmI : (m : Int) ≤ 1000 := by omega
  have hll := hide hr.1
  have hbl := hide hrb.len
  replace hw := hide hw
  go_enter Try.func31, Try.ntmps31
  go_wp2
  go_loopw [5, 6] (fun v i wr => ∃ k : Nat, k ≤ n ∧ i = .int .i64 k ∧ v = .int .i64 (lvl l k) ∧ Hid (OkTo l k) ∧ Hid (Below w.heap.size w wr)) (fun _ i _ => n - (intOf i).toNat)
  case atStart => exact ⟨0, Nat.zero_le _, rfl, rfl, (fun i hi => absurd hi (Nat.not_lt_zero _)), Below.refl _ _⟩
  case round =>
    obtain ⟨k, hk, rfl, rfl, hok, hb⟩ := hrel
    have hkI : (k : Int) ≤ 1000 := by omega
    by_cases hlt : k < n
    · have hltI : (k : Int) < n := by omega
      obtain ⟨ad, s, z, rfl, hB, hs, c0, c1, c2, hwy⟩ := hr.get hlt
      have c0 := keepCell hb.out c0
      have c1 := keepCell hb.out c1
      have c2 := keepCell hb.out c2
      have hkl : k < l.length := by rw [hll.out]; exact hlt
      have hst := stAt_is hs
      have hbad := hide (fun h => bad_step (bad := bad) hkl h)
      have hnext := hide (fun h => OkTo.succ hok.out h)
      have hlev := hide (show lvl l (k + 1) = s.lev by show (stAt l k).lev = _; rw [hst])
      rw [hst] at hbad hnext
      have hwl : z.n ≤ 1000 := by have := hw.out s (List.mem_of_getElem? hs); have h2 := hwy.len; omega
      have hlits := hide (hok.out.lits (Nat.le_of_lt hkl))
      have hrk : RdT w (some ad) k (l.take k) := hr.take_ (Nat.le_of_lt hlt)
      obtain ⟨pre, hpre⟩ : ∃ pre, l.take k = pre := ⟨_, rfl⟩
      rw [hpre] at hbad hnext hlits hrk
      obtain ⟨LV, hLV⟩ : ∃ LV, lvl l k = LV := ⟨_, rfl⟩
      rw [hLV] at hbad hnext ⊢
      obtain ⟨lt, lv, wy⟩ := s
      simp only at c0 c1 hwy hlev
      have hbs := (Below.refl wr.heap.size wr).alloc (Nat.le_refl _) (.cells #[.int .i64 lt, .int .i64 lv, z.val] 51)
      have bX := Blk.new wr 51 #[.int .i64 lt, .int .i64 lv, z.val]
      obtain ⟨W1, hW1⟩ : ∃ W1, wr.alloc (.cells #[.int .i64 lt, .int .i64 lv, z.val] 51) = W1 := ⟨_, rfl⟩
      rw [hW1] at hbs bX
      have hb1 := hide (hb.out.trans (hbs.mono hb.out.size))
      have b0 : W1.cell? ⟨wr.heap.size, 0, none⟩ = some (.int .i64 lt) := bX.cell 0
      have b1 : W1.cell? ⟨wr.heap.size, 1, none⟩ = some (.int .i64 lv) := bX.cell 1
      have b2 : W1.cell? ⟨wr.heap.size, 2, none⟩ = some z.val := bX.cell 2
      have hwz : z.n = 0 ↔ wy = [] := by rw [← hwy.len]; exact List.length_eq_zero_iff
      replace hwz := hide hwz
      have HG := hide (fun q => ref_Good lt (W1.drewN q))
      clear hs hst hpre hLV bX hbs hkl
      by_cases h1 : lt < 2
      · have hF := hide (hbad.out (fun h => by have := h.two; simp only at this; omega))
        have d1 : decide (lt < 2) = true := decide_eq_true h1
        clear hbad hnext hlits HG
        go_wp2
        go_quiet (fail)
        go_wp2
        go_ret
        exact ⟨ret_bool hF.out.symm, hb1.out.trans ((((Dr.refl W1).more _).below W1.heap.size).mono hb1.out.size)⟩
      · have d1 : decide (lt < 2) = false := decide_eq_false h1
        by_cases h2 : lt ≤ 33554433
        · have hP := hide (fun q => ref_place (some ad) k c pre lt (W1.drewN q) (by omega) ((hrk.below hb1.out (Nat.le_refl _)).dr ((Dr.refl W1).more q)) hlits.out ⟨by omega, h2⟩)
          have hg : litGood lt = true := good_iff.2 ⟨by omega, h2⟩
          rw [hg] at HG
          replace h2 := hide h2
          clear hg
          obtain ⟨po, hpo⟩ : ∃ po, placeO pre lt = po := ⟨_, rfl⟩
          rw [hpo] at hP
          rcases po with _ | j
          · rw [show placeZ none = -1 from rfl] at hP
            by_cases h4 : lv < LV
            · have hF := hide (hbad.out (fun h => by have := h.up; simp only at this; omega))
              have d4 : decide (lv < LV) = true := decide_eq_true h4
              clear hbad hnext hlits hpo
              go_wp2
              go_quiet ((first | (go_at_call 33; exact quiet_eq (HG.out _)) | (go_at_call 89; exact quiet_eq (hP.out _))))
              go_wp2
              go_ret
              exact ⟨ret_bool hF.out.symm, hb1.out.trans ((((Dr.refl W1).more _).below W1.heap.size).mono hb1.out.size)⟩
            · have d4 : decide (lv < LV) = false := decide_eq_false h4
              have hnew := hide hpo
              clear hpo
              go_wp2
              go_quiet ((first | (go_at_call 33; exact quiet_eq (HG.out _)) | (go_at_call 89; exact quiet_eq (hP.out _))))
              clear hP HG
              obtain ⟨wo, hwo⟩ : ∃ wo, wo = wr := ⟨_, rfl⟩
              subst hwo
              obtain ⟨zA, zn, zc⟩ := z
              simp only at hwz hwl hwy
              simp only [Sl.val] at b2
              have hlz := hide hwy.len
              by_cases hw0 : zn = 0
              · subst hw0
                by_cases hlv : LV < lv
                · have hwe : wy = [] := hwz.out.1 rfl
                  have hO := hide (hnext.out ⟨by show 2 ≤ lt; omega, h2.out, hnew.out, by show LV ≤ lv; omega, ⟨fun _ => hlv, fun _ => hwe⟩, fun h => absurd hwe h, fun y hy => by rw [hwe] at hy; cases hy⟩)
                  have hbW := hide (fun q => hb1.out.trans ((((Dr.refl W1).more q).below W1.heap.size).mono hb1.out.size))
                  clear hwe hwz hnew hbad hnext hwy hlz
                  go_wp2
                  go_loopw [8] (fun i wr => ∃ q : Nat, q ≤ 0 ∧ i = .int .i64 q ∧ Dr W1 wr) (fun i _ => 0 - (intOf i).toNat)
                  case atStart => exact ⟨0, Nat.zero_le _, rfl, (Dr.refl _).more _⟩
                  case round =>
                    obtain ⟨q, hq, rfl, hd⟩ := hrel
                    obtain rfl : q = 0 := by omega
                    have b1 := (hd.cell _).trans b1
                    have b2 := (hd.cell _).trans b2
                    go_wp2
                    go_roundw
                    case rel => exact ⟨k + 1, hlt, by go_num, by rw [hlev.out], hO, hide (hb1.out.trans ((hd.below W1.heap.size).mono hb1.out.size))⟩
                    case measure => simp [intOf]; omega
                · have hF := hide (hbad.out (fun h => hlv (h.tried.1 (hwz.out.1 rfl))))
                  clear hwz hnew hbad hnext hwy hlz
                  go_wp2
                  go_ret
                  exact ⟨ret_bool hF.out.symm, hb1.out.trans ((((Dr.refl W1).more _).below W1.heap.size).mono hb1.out.size)⟩
              · have hw0' : ¬ (zn : Int) = 0 := by omega
                have hw0p : 0 < zn := by omega
                have hz1 : ((zn : Int) == 0) = false := beq_eq_false_iff_ne.2 hw0'
                have hz2 : (zn == 0) = false := beq_eq_false_iff_ne.2 hw0
                have hzI : (zn : Int) ≤ 1000 := by omega
                by_cases hlv : LV < lv
                · have hF := hide (hbad.out (fun h => hw0 (hwz.out.2 (h.tried.2 hlv))))
                  clear hwz hnew hbad hnext hwy hlz
                  go_wp2
                  go_ret
                  exact ⟨ret_bool hF.out.symm, hb1.out.trans ((((Dr.refl W1).more _).below W1.heap.size).mono hb1.out.size)⟩
                · have hne : wy ≠ [] := fun h => hw0 (hwz.out.2 h)
                  obtain ⟨hb2, hhb⟩ : ∃ hb2, hasB wy lt = hb2 := ⟨_, rfl⟩
                  have HH := hide (fun q => has_isR (c := zc) hhb (show zn ≤ 1000000 by omega) (W1.drewN q) ((hwy.below hb1.out (Nat.le_refl _)).below (((Dr.refl W1).more q).below W1.heap.size) (Nat.le_refl _)))
                  cases hb2 with
                  | false =>
                    have hF := hide (hbad.out (fun h => by have := has_iff.2 (h.has hne); simp only at this; rw [hhb] at this; cases this))
                    clear hwz hnew hbad hnext hwy hlz hhb hne
                    go_wp2_with fail
                    refine (HH.out _).mono ?_
                    rintro e w2 ⟨rfl, rfl⟩
                    go_wp2
                    go_ret
                    exact ⟨ret_bool hF.out.symm, hb1.out.trans ((((Dr.refl W1).more _).below W1.heap.size).mono hb1.out.size)⟩
                  | true =>
                    have hO := hide (fun (hy : ∀ j : Nat, j < zn → ∀ y, wy[j]? = some y → whyB pre ⟨lt, lv, wy⟩ y = true) => hnext.out ⟨by show 2 ≤ lt; omega, h2.out, hnew.out, by show LV ≤ lv; omega, ⟨fun h => absurd h hne, fun h => absurd h hlv⟩, fun _ => has_iff.1 hhb, fun y hm => by
                      have hm : y ∈ wy := hm
                      obtain ⟨j, hj⟩ := List.getElem?_of_mem hm
                      exact hy j (by have := (List.getElem?_eq_some_iff.1 hj).1; have := hlz.out; omega) y hj⟩)
                    have hwb := hide (fun (y : Int) (hm : y ∈ wy) (h : whyB pre ⟨lt, lv, wy⟩ y = false) => hbad.out (fun hk => by have := hk.why y hm; rw [h] at this; cases this))
                    clear hwz hnew hbad hnext hhb hne
                    go_wp2_with fail
                    refine (HH.out _).mono ?_
                    rintro e w2 ⟨rfl, rfl⟩
                    clear HH
                    go_wp2
                    go_loopw [8] (fun i wr => ∃ q : Nat, q ≤ zn ∧ i = .int .i64 q ∧ Dr W1 wr ∧ Hid (∀ j : Nat, j < q → ∀ y, wy[j]? = some y → whyB pre ⟨lt, lv, wy⟩ y = true)) (fun i _ => zn - (intOf i).toNat)
                    case atStart => exact ⟨0, Nat.zero_le _, rfl, (Dr.refl _).more _, fun j hj => absurd hj (Nat.not_lt_zero _)⟩
                    case round =>
                      obtain ⟨q, hq, rfl, hd, hno⟩ := hrel
                      have hqI : (q : Int) ≤ 1000 := by omega
                      have b0 := (hd.cell _).trans b0
                      have b1 := (hd.cell _).trans b1
                      have b2 := (hd.cell _).trans b2
                      by_cases hltq : q < zn
                      · obtain ⟨ay, y, rfl, hBy, hy, cy⟩ := (Dr.rd hd (hwy.below hb1.out (Nat.le_refl _))).get hltq
                        have hstep := hide (fun (h : whyB pre ⟨lt, lv, wy⟩ y = true) => (show ∀ j : Nat, j < q + 1 → ∀ y, wy[j]? = some y → whyB pre ⟨lt, lv, wy⟩ y = true from fun j hj u hu => by
                          by_cases h1 : j = q
                          · subst h1; rw [hy] at hu; injection hu with hu; rw [← hu]; exact h
                          · exact hno.out j (by omega) u hu))
                        have hbd := hide (fun h => hwb.out y (List.mem_of_getElem? hy) h)
                        clear hy
                        by_cases hyl : y = lt
                        · have hst := hide (hstep.out (by unfold whyB; rw [decide_eq_true (show y = (⟨lt, lv, wy⟩ : St).lit from hyl)]; rfl))
                          have hf1 : (y == lt) = true := by simp [hyl]
                          have hf2 : (y != lt) = false := by simp [hyl]
                          clear hstep hbd hyl
                          go_wp2
                          go_quiet (fail)
                          go_wp2
                          go_roundw
                          case rel => exact ⟨q + 1, hltq, by go_num, hd.more _, hst⟩
                          case measure => simp [intOf]; omega
                        · have hf1 : (y == lt) = false := by simp [hyl]
                          have hf2 : (y != lt) = true := by simp [hyl]
                          obtain ⟨zb, hzb⟩ : ∃ zb, zeroB pre y = zb := ⟨_, rfl⟩
                          have HZ := hide (fun m => zero_is (c := c) hzb (show k ≤ 1000 by omega) (wr.drewN m) ((hrk.below hb1.out (Nat.le_refl _)).dr (hd.more m)))
                          have hwv : whyB pre ⟨lt, lv, wy⟩ y = zb := by unfold whyB; rw [hzb, decide_eq_false (show ¬ y = (⟨lt, lv, wy⟩ : St).lit from hyl)]; rfl
                          cases zb with
                          | true =>
                            have hst := hide (hstep.out hwv)
                            clear hstep hbd hwv hzb
                            go_wp2
                            go_quiet ((go_at_call 96; exact quiet_dr (HZ.out _)))
                            go_wp2
                            go_roundw
                            case rel => exact ⟨q + 1, hltq, by go_num, hd.more _, hst⟩
                            case measure => simp [intOf]; omega
                          | false =>
                            have hF := hide (hbd.out hwv)
                            clear hstep hbd hwv hzb
                            go_wp2
                            go_quiet ((go_at_call 96; exact quiet_dr (HZ.out _)))
                            go_wp2
                            go_ret
                            exact ⟨ret_bool hF.out.symm, hb1.out.trans (((hd.more _).below W1.heap.size).mono hb1.out.size)⟩
                      · have hqz : q = zn := by omega
                        subst hqz
                        have hOk := hide (hO.out hno.out)
                        clear hO hno hwb
                        go_wp2
                        go_roundw
                        case rel => exact ⟨k + 1, hlt, by go_num, by rw [hlev.out], hOk, hide (hb1.out.trans ((hd.below W1.heap.size).mono hb1.out.size))⟩
                        case measure => simp [intOf]; omega
          · have hF := hide (hbad.out (fun h => by have := h.new; simp only at this; rw [hpo] at this; cases this))
            rw [show placeZ (some j) = (j : Int) from rfl] at hP
            have d3 : decide (0 ≤ (j : Int)) = true := by rw [decide_eq_true_iff]; omega
            clear hbad hnext hlits hpo
            go_wp2
            go_quiet ((first | (go_at_call 33; exact quiet_eq (HG.out _)) | (go_at_call 89; exact quiet_eq (hP.out _))))
            go_wp2
            go_ret
            exact ⟨ret_bool hF.out.symm, hb1.out.trans ((((Dr.refl W1).more _).below W1.heap.size).mono hb1.out.size)⟩
        · have hF := hide (hbad.out (fun h => by have := h.good; simp only at this; omega))
          have hg : litGood lt = false := bad_iff.2 (by omega)
          rw [hg] at HG
          clear hbad hnext hlits h2 hg
          go_wp2
          go_quiet ((go_at_call 33; exact quiet_eq (HG.out _)))
          go_wp2
          go_ret
          exact ⟨ret_bool hF.out.symm, hb1.out.trans ((((Dr.refl W1).more _).below W1.heap.size).mono hb1.out.size)⟩
    · have hkn : n = k := by omega
      subst hkn
      obtain ⟨wo, hwo⟩ : ∃ wo, wo = wr := ⟨_, rfl⟩
      subst hwo
      have hY := hide (fun hb => good_yes (bad := bad) (l := l) (by rw [hll.out]; exact hok.out) hb)
      have hN := hide (fun x hx h => bad_bad (l := l) (bad := bad) (x := x) hx h)
      clear hok
      go_wp2
      go_loopw [9] (fun i wr => ∃ q : Nat, q ≤ m ∧ i = .int .i64 q ∧ Dr wo wr ∧ Hid (∀ j : Nat, j < q → ∀ y, bad[j]? = some y → zeroB l y = true)) (fun i _ => m - (intOf i).toNat)
      case atStart => exact ⟨0, Nat.zero_le _, rfl, Dr.refl _, fun j hj => absurd hj (Nat.not_lt_zero _)⟩
      case round =>
        obtain ⟨q, hq, rfl, hd, hno⟩ := hrel
        have hqI : (q : Int) ≤ 1000 := by omega
        by_cases hltq : q < m
        · obtain ⟨ay, y, rfl, hBy, hy, cy⟩ := (Dr.rd hd (hrb.below hb.out (Nat.le_refl _))).get hltq
          have hstep := hide (fun (h : zeroB l y = true) => (show ∀ j : Nat, j < q + 1 → ∀ y, bad[j]? = some y → zeroB l y = true from fun j hj u hu => by
            by_cases h1 : j = q
            · subst h1; rw [hy] at hu; injection hu with hu; rw [← hu]; exact h
            · exact hno.out j (by omega) u hu))
          have hbd := hide (fun h => hN.out y (List.mem_of_getElem? hy) h)
          obtain ⟨zb, hzb⟩ : ∃ zb, zeroB l y = zb := ⟨_, rfl⟩
          have HZ := hide (zero_is (c := c) hzb (show n ≤ 1000 by omega) wr ((hr.below hb.out (Nat.le_refl _)).dr hd))
          cases zb with
          | true =>
            have hst := hide (hstep.out hzb)
            clear hstep hbd hzb hy
            go_wp2_with fail
            refine HZ.out.mono ?_
            rintro e w2 ⟨rfl, hd2⟩
            go_wp2
            go_roundw
            case rel => exact ⟨q + 1, hltq, by go_num, hd.trans hd2, hst⟩
            case measure => simp [intOf]; omega
          | false =>
            have hF := hide (hbd.out hzb)
            clear hstep hbd hzb hy
            go_wp2_with fail
            refine HZ.out.mono ?_
            rintro e w2 ⟨rfl, hd2⟩
            go_wp2
            go_ret
            exact ⟨ret_bool hF.out.symm, hb.out.trans ((hd.trans hd2).below _)⟩
        · have hqm : q = m := by omega
          subst hqm
          have hF := hide (hY.out (fun j hj => hno.out j (by have := hbl.out; omega)))
          clear hY hN hno
          go_wp2
          go_ret
          exact ⟨ret_bool hF.out.symm, hb.out.trans (hd.below _)⟩
end Go.Proofs.Ytcjoohaagdihlaa.Learn
