/- Texts behind a row, one behind the other: Learn2, Learn6. -/
import Derived.Test.YtcjoohaagdihlaaWK6
section
/- The document's Good of steps. -/
namespace Go.Proofs.Ytcjoohaagdihlaa.Learn
open Go.RowKit Go.Lt Go.Proofs.Ytcjoohaagdihlaa.Lit Go.Proofs.Ytcjoohaagdihlaa.Sorted
open Go.Proofs.Ytcjoohaagdihlaa.Kept (Sl Sl.val addr_off)
set_option linter.unusedVariables false
set_option linter.unusedSimpArgs false

theorem bad_step {l : List St} {bad : List Int} {k : Nat} (hk : k < l.length) (h : ¬ OkStep (l.take k) (lvl l k) (stAt l k)) : goodB l bad = false := goodB_no fun hg => h (hg.1 k hk)
theorem bad_bad {l : List St} {bad : List Int} {x : Int} (hx : x ∈ bad) (h : zeroB l x = false) : goodB l bad = false := goodB_no fun hg => by have := hg.2 x hx; rw [h] at this; cases this
theorem good_yes {l : List St} {bad : List Int} (h : OkTo l l.length) (hb : ∀ k : Nat, k < bad.length → ∀ x, bad[k]? = some x → zeroB l x = true) : goodB l bad = true := goodB_yes ⟨h, fun x hx => by
  obtain ⟨k, hk⟩ := List.getElem?_of_mem hx
  exact hb k (List.getElem?_eq_some_iff.1 hk).1 x hk⟩
theorem has_isR {A : Option Addr} {n c : Nat} {l : List Int} {x : Int} {b : Bool} (h : hasB l x = b) (hn : n ≤ 1000000) (W : World) (hr : Rd W A n (ivs l)) :
    Calls Try.prog 95 #[.slice A n c, .int .i64 x] W fun e w' => e = .returned (.bool b) ∧ W = w' := by
  subst h; exact ref_Has A n c l x W hn hr
theorem zero_is {A : Option Addr} {n c : Nat} {l : List St} {x : Int} {b : Bool} (h : zeroB l x = b) (hn : n ≤ 1000) (W : World) (hr : RdT W A n l) :
    Calls Try.prog 96 #[.slice A n c, .int .i64 x] W fun e w' => e = .returned (.bool b) ∧ Dr W w' := by
  subst h; exact ref_zero A n c l x W hn hr
set_option maxRecDepth 8000 in
set_option maxHeartbeats 4000000 in
theorem ref_GoodS (A : Option Addr) (n c : Nat) (l : List St) (B : Option Addr) (m cb : Nat) (bad : List Int) (w : World) (hn : n ≤ 1000) (hnc : n ≤ c) (hr : RdT w A n l) (hw : ∀ s ∈ l, s.why.length ≤ 1000) (hm : m ≤ 1000) (hrb : Rd w B m (ivs bad)) :
    Calls Try.prog 31 #[.slice A n c, .slice B m cb] w fun e w' => e = .returned (.bool (goodB l bad)) ∧ Below w.heap.size w w' := by
  have hnI : (n : Int) ≤ 1000 := by omega
  have hmI : (m : Int) ≤ 1000 := by omega
  have hll := hide hr.1
  have hbl := hide hrb.len
  replace hw := hide hw
  go_enter Try.func31, Try.ntmps31
  go_wp2
  go_loopw [5, 6] (fun v i wr => ∃ k : Nat, k ≤ n ∧ i = .int .i64 k ∧ v = .int .i64 (lvl l k) ∧ Hid (OkTo l k) ∧ Hid (Below w.heap.size w wr)) (fun _ i _ => n - (intOf i).toNat)
  case atStart => exact ⟨0, Nat.zero_le _, rfl, rfl, (fun i hi => absurd hi (Nat.not_lt_zero _)), Below.refl _ _⟩
  case round =>
    obtain ⟨k, hk, rfl, rfl, hok, hb⟩ := hrel
    have hkI : (k : Int) ≤ 1000 := by omega
    by_cases hlt : k < n
    · have hltI : (k : Int) < n := by omega
      obtain ⟨ad, s, z, rfl, hB, hs, c0, c1, c2, hwy⟩ := hr.get hlt
      have c0 := keepCell hb.out c0
      have c1 := keepCell hb.out c1
      have c2 := keepCell hb.out c2
      have hkl : k < l.length := by rw [hll.out]; exact hlt
      have hst := stAt_is hs
      have hbad := hide (fun h => bad_step (bad := bad) hkl h)
      have hnext := hide (fun h => OkTo.succ hok.out h)
      have hlev := hide (show lvl l (k + 1) = s.lev by show (stAt l k).lev = _; rw [hst])
      rw [hst] at hbad hnext
      have hwl : z.n ≤ 1000 := by have := hw.out s (List.mem_of_getElem? hs); have h2 := hwy.len; omega
      have hlits := hide (hok.out.lits (Nat.le_of_lt hkl))
      have hrk : RdT w (some ad) k (l.take k) := hr.take_ (Nat.le_of_lt hlt)
      obtain ⟨pre, hpre⟩ : ∃ pre, l.take k = pre := ⟨_, rfl⟩
      rw [hpre] at hbad hnext hlits hrk
      obtain ⟨LV, hLV⟩ : ∃ LV, lvl l k = LV := ⟨_, rfl⟩
      rw [hLV] at hbad hnext ⊢
      obtain ⟨lt, lv, wy⟩ := s
      simp only at c0 c1 hwy hlev
      have hbs := (Below.refl wr.heap.size wr).alloc (Nat.le_refl _) (.cells #[.int .i64 lt, .int .i64 lv, z.val] 51)
      have bX := Blk.new wr 51 #[.int .i64 lt, .int .i64 lv, z.val]
      obtain ⟨W1, hW1⟩ : ∃ W1, wr.alloc (.cells #[.int .i64 lt, .int .i64 lv, z.val] 51) = W1 := ⟨_, rfl⟩
      rw [hW1] at hbs bX
      have hb1 := hide (hb.out.trans (hbs.mono hb.out.size))
      have b0 : W1.cell? ⟨wr.heap.size, 0, none⟩ = some (.int .i64 lt) := bX.cell 0
      have b1 : W1.cell? ⟨wr.heap.size, 1, none⟩ = some (.int .i64 lv) := bX.cell 1
      have b2 : W1.cell? ⟨wr.heap.size, 2, none⟩ = some z.val := bX.cell 2
      have hwz : z.n = 0 ↔ wy = [] := by rw [← hwy.len]; exact List.length_eq_zero_iff
      replace hwz := hide hwz
      have HG := hide (fun q => ref_Good lt (W1.drewN q))
      clear hs hst hpre hLV bX hbs hkl
      by_cases h1 : lt < 2
      · have hF := hide (hbad.out (fun h => by have := h.two; simp only at this; omega))
        have d1 : decide (lt < 2) = true := decide_eq_true h1
        clear hbad hnext hlits HG
        go_wp2
        go_quiet (fail)
        go_wp2
        go_ret
        exact ⟨ret_bool hF.out.symm, hb1.out.trans ((((Dr.refl W1).more _).below W1.heap.size).mono hb1.out.size)⟩
      · have d1 : decide (lt < 2) = false := decide_eq_false h1
        by_cases h2 : lt ≤ 33554433
        · have hP := hide (fun q => ref_place (some ad) k c pre lt (W1.drewN q) (by omega) ((hrk.below hb1.out (Nat.le_refl _)).dr ((Dr.refl W1).more q)) hlits.out ⟨by omega, h2⟩)
          have hg : litGood lt = true := good_iff.2 ⟨by omega, h2⟩
          rw [hg] at HG
          replace h2 := hide h2
          clear hg
          obtain ⟨po, hpo⟩ : ∃ po, placeO pre lt = po := ⟨_, rfl⟩
          rw [hpo] at hP
          rcases po with _ | j
          · rw [show placeZ none = -1 from rfl] at hP
            by_cases h4 : lv < LV
            · have hF := hide (hbad.out (fun h => by have := h.up; simp only at this; omega))
              have d4 : decide (lv < LV) = true := decide_eq_true h4
              clear hbad hnext hlits hpo
              go_wp2
              go_quiet ((first | (go_at_call 33; exact quiet_eq (HG.out _)) | (go_at_call 89; exact quiet_eq (hP.out _))))
              go_wp2
              go_ret
              exact ⟨ret_bool hF.out.symm, hb1.out.trans ((((Dr.refl W1).more _).below W1.heap.size).mono hb1.out.size)⟩
            · have d4 : decide (lv < LV) = false := decide_eq_false h4
              have hnew := hide hpo
              clear hpo
              go_wp2
              go_quiet ((first | (go_at_call 33; exact quiet_eq (HG.out _)) | (go_at_call 89; exact quiet_eq (hP.out _))))
              clear hP HG
              obtain ⟨wo, hwo⟩ : ∃ wo, wo = wr := ⟨_, rfl⟩
              subst hwo
              obtain ⟨zA, zn, zc⟩ := z
              simp only at hwz hwl hwy
              simp only [Sl.val] at b2
              have hlz := hide hwy.len
              by_cases hw0 : zn = 0
              · subst hw0
                by_cases hlv : LV < lv
                · have hwe : wy = [] := hwz.out.1 rfl
                  have hO := hide (hnext.out ⟨by show 2 ≤ lt; omega, h2.out, hnew.out, by show LV ≤ lv; omega, ⟨fun _ => hlv, fun _ => hwe⟩, fun h => absurd hwe h, fun y hy => by rw [hwe] at hy; cases hy⟩)
                  have hbW := hide (fun q => hb1.out.trans ((((Dr.refl W1).more q).below W1.heap.size).mono hb1.out.size))
                  clear hwe hwz hnew hbad hnext hwy hlz
                  go_wp2
                  go_loopw [8] (fun i wr => ∃ q : Nat, q ≤ 0 ∧ i = .int .i64 q ∧ Dr W1 wr) (fun i _ => 0 - (intOf i).toNat)
                  case atStart => exact ⟨0, Nat.zero_le _, rfl, (Dr.refl _).more _⟩
                  case round =>
                    obtain ⟨q, hq, rfl, hd⟩ := hrel
                    obtain rfl : q = 0 := by omega
                    have b1 := (hd.cell _).trans b1
                    have b2 := (hd.cell _).trans b2
                    go_wp2
                    go_roundw
                    case rel => exact ⟨k + 1, hlt, by go_num, by rw [hlev.out], hO, hide (hb1.out.trans ((hd.below W1.heap.size).mono hb1.out.size))⟩
                    case measure => simp [intOf]; omega
                · have hF := hide (hbad.out (fun h => hlv (h.tried.1 (hwz.out.1 rfl))))
                  clear hwz hnew hbad hnext hwy hlz
                  go_wp2
                  go_ret
                  exact ⟨ret_bool hF.out.symm, hb1.out.trans ((((Dr.refl W1).more _).below W1.heap.size).mono hb1.out.size)⟩
              · have hw0' : ¬ (zn : Int) = 0 := by omega
                have hw0p : 0 < zn := by omega
                have hz1 : ((zn : Int) == 0) = false := beq_eq_false_iff_ne.2 hw0'
                have hz2 : (zn == 0) = false := beq_eq_false_iff_ne.2 hw0
                have hzI : (zn : Int) ≤ 1000 := by omega
                by_cases hlv : LV < lv
                · have hF := hide (hbad.out (fun h => hw0 (hwz.out.2 (h.tried.2 hlv))))
                  clear hwz hnew hbad hnext hwy hlz
                  go_wp2
                  go_ret
                  exact ⟨ret_bool hF.out.symm, hb1.out.trans ((((Dr.refl W1).more _).below W1.heap.size).mono hb1.out.size)⟩
                · have hne : wy ≠ [] := fun h => hw0 (hwz.out.2 h)
                  obtain ⟨hb2, hhb⟩ : ∃ hb2, hasB wy lt = hb2 := ⟨_, rfl⟩
                  have HH := hide (fun q => has_isR (c := zc) hhb (show zn ≤ 1000000 by omega) (W1.drewN q) ((hwy.below hb1.out (Nat.le_refl _)).below (((Dr.refl W1).more q).below W1.heap.size) (Nat.le_refl _)))
                  cases hb2 with
                  | false =>
                    have hF := hide (hbad.out (fun h => by have := has_iff.2 (h.has hne); simp only at this; rw [hhb] at this; cases this))
                    clear hwz hnew hbad hnext hwy hlz hhb hne
                    go_wp2_with fail
                    refine (HH.out _).mono ?_
                    rintro e w2 ⟨rfl, rfl⟩
                    go_wp2
                    go_ret
                    exact ⟨ret_bool hF.out.symm, hb1.out.trans ((((Dr.refl W1).more _).below W1.heap.size).mono hb1.out.size)⟩
                  | true =>
                    have hO := hide (fun (hy : ∀ j : Nat, j < zn → ∀ y, wy[j]? = some y → whyB pre ⟨lt, lv, wy⟩ y = true) => hnext.out ⟨by show 2 ≤ lt; omega, h2.out, hnew.out, by show LV ≤ lv; omega, ⟨fun h => absurd h hne, fun h => absurd h hlv⟩, fun _ => has_iff.1 hhb, fun y hm => by
                      have hm : y ∈ wy := hm
                      obtain ⟨j, hj⟩ := List.getElem?_of_mem hm
                      exact hy j (by have := (List.getElem?_eq_some_iff.1 hj).1; have := hlz.out; omega) y hj⟩)
                    have hwb := hide (fun (y : Int) (hm : y ∈ wy) (h : whyB pre ⟨lt, lv, wy⟩ y = false) => hbad.out (fun hk => by have := hk.why y hm; rw [h] at this; cases this))
                    clear hwz hnew hbad hnext hhb hne
                    go_wp2_with fail
                    refine (HH.out _).mono ?_
                    rintro e w2 ⟨rfl, rfl⟩
                    clear HH
                    go_wp2
                    go_loopw [8] (fun i wr => ∃ q : Nat, q ≤ zn ∧ i = .int .i64 q ∧ Dr W1 wr ∧ Hid (∀ j : Nat, j < q → ∀ y, wy[j]? = some y → whyB pre ⟨lt, lv, wy⟩ y = true)) (fun i _ => zn - (intOf i).toNat)
                    case atStart => exact ⟨0, Nat.zero_le _, rfl, (Dr.refl _).more _, fun j hj => absurd hj (Nat.not_lt_zero _)⟩
                    case round =>
                      obtain ⟨q, hq, rfl, hd, hno⟩ := hrel
                      have hqI : (q : Int) ≤ 1000 := by omega
                      have b0 := (hd.cell _).trans b0
                      have b1 := (hd.cell _).trans b1
                      have b2 := (hd.cell _).trans b2
                      by_cases hltq : q < zn
                      · obtain ⟨ay, y, rfl, hBy, hy, cy⟩ := (Dr.rd hd (hwy.below hb1.out (Nat.le_refl _))).get hltq
                        have hstep := hide (fun (h : whyB pre ⟨lt, lv, wy⟩ y = true) => (show ∀ j : Nat, j < q + 1 → ∀ y, wy[j]? = some y → whyB pre ⟨lt, lv, wy⟩ y = true from fun j hj u hu => by
                          by_cases h1 : j = q
                          · subst h1; rw [hy] at hu; injection hu with hu; rw [← hu]; exact h
                          · exact hno.out j (by omega) u hu))
                        have hbd := hide (fun h => hwb.out y (List.mem_of_getElem? hy) h)
                        clear hy
                        by_cases hyl : y = lt
                        · have hst := hide (hstep.out (by unfold whyB; rw [decide_eq_true (show y = (⟨lt, lv, wy⟩ : St).lit from hyl)]; rfl))
                          have hf1 : (y == lt) = true := by simp [hyl]
                          have hf2 : (y != lt) = false := by simp [hyl]
                          clear hstep hbd hyl
                          go_wp2
                          go_quiet (fail)
                          go_wp2
                          go_roundw
                          case rel => exact ⟨q + 1, hltq, by go_num, hd.more _, hst⟩
                          case measure => simp [intOf]; omega
                        · have hf1 : (y == lt) = false := by simp [hyl]
                          have hf2 : (y != lt) = true := by simp [hyl]
                          obtain ⟨zb, hzb⟩ : ∃ zb, zeroB pre y = zb := ⟨_, rfl⟩
                          have HZ := hide (fun m => zero_is (c := c) hzb (show k ≤ 1000 by omega) (wr.drewN m) ((hrk.below hb1.out (Nat.le_refl _)).dr (hd.more m)))
                          have hwv : whyB pre ⟨lt, lv, wy⟩ y = zb := by unfold whyB; rw [hzb, decide_eq_false (show ¬ y = (⟨lt, lv, wy⟩ : St).lit from hyl)]; rfl
                          cases zb with
                          | true =>
                            have hst := hide (hstep.out hwv)
                            clear hstep hbd hwv hzb
                            go_wp2
                            go_quiet ((go_at_call 96; exact quiet_dr (HZ.out _)))
                            go_wp2
                            go_roundw
                            case rel => exact ⟨q + 1, hltq, by go_num, hd.more _, hst⟩
                            case measure => simp [intOf]; omega
                          | false =>
                            have hF := hide (hbd.out hwv)
                            clear hstep hbd hwv hzb
                            go_wp2
                            go_quiet ((go_at_call 96; exact quiet_dr (HZ.out _)))
                            go_wp2
                            go_ret
                            exact ⟨ret_bool hF.out.symm, hb1.out.trans (((hd.more _).below W1.heap.size).mono hb1.out.size)⟩
                      · have hqz : q = zn := by omega
                        subst hqz
                        have hOk := hide (hO.out hno.out)
                        clear hO hno hwb
                        go_wp2
                        go_roundw
                        case rel => exact ⟨k + 1, hlt, by go_num, by rw [hlev.out], hOk, hide (hb1.out.trans ((hd.below W1.heap.size).mono hb1.out.size))⟩
                        case measure => simp [intOf]; omega
          · have hF := hide (hbad.out (fun h => by have := h.new; simp only at this; rw [hpo] at this; cases this))
            rw [show placeZ (some j) = (j : Int) from rfl] at hP
            have d3 : decide (0 ≤ (j : Int)) = true := by rw [decide_eq_true_iff]; omega
            clear hbad hnext hlits hpo
            go_wp2
            go_quiet ((first | (go_at_call 33; exact quiet_eq (HG.out _)) | (go_at_call 89; exact quiet_eq (hP.out _))))
            go_wp2
            go_ret
            exact ⟨ret_bool hF.out.symm, hb1.out.trans ((((Dr.refl W1).more _).below W1.heap.size).mono hb1.out.size)⟩
        · have hF := hide (hbad.out (fun h => by have := h.good; simp only at this; omega))
          have hg : litGood lt = false := bad_iff.2 (by omega)
          rw [hg] at HG
          clear hbad hnext hlits h2 hg
          go_wp2
          go_quiet ((go_at_call 33; exact quiet_eq (HG.out _)))
          go_wp2
          go_ret
          exact ⟨ret_bool hF.out.symm, hb1.out.trans ((((Dr.refl W1).more _).below W1.heap.size).mono hb1.out.size)⟩
    · have hkn : n = k := by omega
      subst hkn
      obtain ⟨wo, hwo⟩ : ∃ wo, wo = wr := ⟨_, rfl⟩
      subst hwo
      have hY := hide (fun hb => good_yes (bad := bad) (l := l) (by rw [hll.out]; exact hok.out) hb)
      have hN := hide (fun x hx h => bad_bad (l := l) (bad := bad) (x := x) hx h)
      clear hok
      go_wp2
      go_loopw [9] (fun i wr => ∃ q : Nat, q ≤ m ∧ i = .int .i64 q ∧ Dr wo wr ∧ Hid (∀ j : Nat, j < q → ∀ y, bad[j]? = some y → zeroB l y = true)) (fun i _ => m - (intOf i).toNat)
      case atStart => exact ⟨0, Nat.zero_le _, rfl, Dr.refl _, fun j hj => absurd hj (Nat.not_lt_zero _)⟩
      case round =>
        obtain ⟨q, hq, rfl, hd, hno⟩ := hrel
        have hqI : (q : Int) ≤ 1000 := by omega
        by_cases hltq : q < m
        · obtain ⟨ay, y, rfl, hBy, hy, cy⟩ := (Dr.rd hd (hrb.below hb.out (Nat.le_refl _))).get hltq
          have hstep := hide (fun (h : zeroB l y = true) => (show ∀ j : Nat, j < q + 1 → ∀ y, bad[j]? = some y → zeroB l y = true from fun j hj u hu => by
            by_cases h1 : j = q
            · subst h1; rw [hy] at hu; injection hu with hu; rw [← hu]; exact h
            · exact hno.out j (by omega) u hu))
          have hbd := hide (fun h => hN.out y (List.mem_of_getElem? hy) h)
          obtain ⟨zb, hzb⟩ : ∃ zb, zeroB l y = zb := ⟨_, rfl⟩
          have HZ := hide (zero_is (c := c) hzb (show n ≤ 1000 by omega) wr ((hr.below hb.out (Nat.le_refl _)).dr hd))
          cases zb with
          | true =>
            have hst := hide (hstep.out hzb)
            clear hstep hbd hzb hy
            go_wp2_with fail
            refine HZ.out.mono ?_
            rintro e w2 ⟨rfl, hd2⟩
            go_wp2
            go_roundw
            case rel => exact ⟨q + 1, hltq, by go_num, hd.trans hd2, hst⟩
            case measure => simp [intOf]; omega
          | false =>
            have hF := hide (hbd.out hzb)
            clear hstep hbd hzb hy
            go_wp2_with fail
            refine HZ.out.mono ?_
            rintro e w2 ⟨rfl, hd2⟩
            go_wp2
            go_ret
            exact ⟨ret_bool hF.out.symm, hb.out.trans ((hd.trans hd2).below _)⟩
        · have hqm : q = m := by omega
          subst hqm
          have hF := hide (hY.out (fun j hj => hno.out j (by have := hbl.out; omega)))
          clear hY hN hno
          go_wp2
          go_ret
          exact ⟨ret_bool hF.out.symm, hb.out.trans (hd.below _)⟩
end Go.Proofs.Ytcjoohaagdihlaa.Learn
end

section
/- What is learned of steps: the plain law of the clause, step by step. No program in sight. -/
namespace Go.Proofs.Ytcjoohaagdihlaa.Learn
open Go.RowKit Go.Lt Go.Proofs.Ytcjoohaagdihlaa.Lit Go.Proofs.Ytcjoohaagdihlaa.Sorted
set_option linter.unusedVariables false
set_option linter.unusedSimpArgs false

theorem not_not {x : Int} (h : litGood x = true) : litNot (litNot x) = x ∧ litGood (litNot x) = true := by
  obtain ⟨h0, h1⟩ := good_iff.1 h
  have e : litNot x = if x % 2 = 1 then x - 1 else x + 1 := by unfold litNot; rw [h]; rfl
  have hg : litGood (litNot x) = true := by rw [e]; exact good_iff.2 (by split <;> omega)
  refine ⟨?_, hg⟩
  have e2 : litNot (litNot x) = if litNot x % 2 = 1 then litNot x - 1 else litNot x + 1 := by
    show (if litGood (litNot x) then _ else _) = _
    rw [hg]; rfl
  rw [e2, e]
  split <;> split <;> omega
theorem not_half {x : Int} (h : litGood x = true) : litNot x / 2 = x / 2 := by
  obtain ⟨h0, h1⟩ := good_iff.1 h
  have e : litNot x = if x % 2 = 1 then x - 1 else x + 1 := by unfold litNot; rw [h]; rfl
  rw [e]; split <;> omega
def plN (l : List St) (x : Int) : Nat := (placeO l x).getD 0
def levOf (l : List St) (x : Int) : Int := (stAt l (plN l x)).lev
/-- one that may be in a clause: the inverse of a step's literal, whose level is above 0 -/
structure Mem (l : List St) (x : Int) : Prop where
  one : 1 < x
  good : litGood x = true
  lt : plN l x < l.length
  at_ : (stAt l (plN l x)).lit = litNot x
  place : placeO l x = some (plN l x)
theorem place_of {l : List St} {n : Nat} (h : OkTo l n) {i : Nat} (hi : i < n) (hn : n ≤ l.length) {x : Int} (hx : (stAt l i).lit / 2 = x / 2) : placeO l x = some i := by
  have hs := h i hi
  have hn0 : placeO (l.take i) x = none := by
    have := hs.new
    unfold placeO at this ⊢
    rw [hx] at this
    exact this
  exact find_step (stAt_get (by omega)) hn0 hx
theorem mem_zero {l : List St} (h : OkTo l l.length) {i : Nat} (hi : i ≤ l.length) {x : Int} (hx : 1 < x) (hz : zeroB (l.take i) x = true) : Mem l x ∧ plN l x < i := by
  unfold zeroB at hz
  rw [Bool.or_eq_true, Bool.and_eq_true, List.any_eq_true] at hz
  rcases hz with hz | ⟨hg, s, hs, he⟩
  · have : x = 0 := by simpa using hz
    omega
  · have he : s.lit = litNot x := by simpa using he
    obtain ⟨j, hj, e⟩ := List.mem_take_iff_getElem.1 hs
    have hjl : j < l.length := by omega
    have hst : stAt l j = s := stAt_is (by rw [List.getElem?_eq_getElem hjl, e])
    have hp := place_of h hjl (Nat.le_refl _) (x := x) (by rw [hst, he, not_half hg])
    have hpl : plN l x = j := by unfold plN; rw [hp]; rfl
    exact ⟨⟨hx, hg, by rw [hpl]; exact hjl, by rw [hpl, hst, he], by rw [hpl]; exact hp⟩, by omega⟩
theorem mem_inj {l : List St} {x y : Int} (hx : Mem l x) (hy : Mem l y) (h : plN l x = plN l y) : x = y := by
  have h1 := hx.at_
  have h2 := hy.at_
  rw [h, h2] at h1
  rw [← (not_not hx.good).1, ← (not_not hy.good).1, h1]
theorem mem_not {l : List St} {x : Int} (hx : Mem l x) : litNot (stAt l (plN l x)).lit = x := by rw [hx.at_, (not_not hx.good).1]
/-- levels rise -/
theorem lev_rise {l : List St} (h : OkTo l l.length) {i j : Nat} (hij : i ≤ j) (hj : j < l.length) : (stAt l i).lev ≤ (stAt l j).lev := by
  induction j with
  | zero => have : i = 0 := by omega
            subst this; exact Int.le_refl _
  | succ j ih =>
    by_cases he : i = j + 1
    · subst he; exact Int.le_refl _
    · have h1 := ih (by omega) (by omega)
      have h2 := (h (j + 1) hj).up
      have h2 : (stAt l j).lev ≤ (stAt l (j + 1)).lev := h2
      omega
def lastL (l : List St) : Int := (stAt l (l.length - 1)).lev
theorem lev_last {l : List St} (h : OkTo l l.length) {i : Nat} (hi : i < l.length) : (stAt l i).lev ≤ lastL l := lev_rise h (by omega) (by omega)
/-- literals are put to a clause -/
def putB (l : List St) (but : Int) (out : List Int) (x : Int) : Bool := decide (1 < x) && decide (x ≠ but) && !hasB out x && decide (0 < levOf l x)
def put1 (l : List St) (but : Int) (out : List Int) (x : Int) : List Int := if putB l but out x = true then out ++ [x] else out
def putP (l : List St) (out more : List Int) (but : Int) : List Int := more.foldl (put1 l but) out
theorem putP_snoc (l : List St) (out more : List Int) (but x : Int) : putP l out (more ++ [x]) but = put1 l but (putP l out more but) x := by simp [putP]
theorem put_mem {l : List St} {but : Int} {more : List Int} : ∀ {out : List Int} {y : Int}, y ∈ putP l out more but ↔ y ∈ out ∨ (y ∈ more ∧ 1 < y ∧ y ≠ but ∧ 0 < levOf l y) := by
  induction more with
  | nil => intro out y; simp [putP]
  | cons x more ih =>
    intro out y
    show y ∈ putP l (put1 l but out x) more but ↔ _
    rw [ih]
    have h1 : y ∈ put1 l but out x ↔ y ∈ out ∨ (y = x ∧ 1 < y ∧ y ≠ but ∧ 0 < levOf l y) := by
      unfold put1 putB
      split
      · rename_i h
        simp only [Bool.and_eq_true, decide_eq_true_eq, Bool.not_eq_true'] at h
        rw [List.mem_append, List.mem_singleton]
        constructor
        · rintro (h2 | rfl)
          · exact .inl h2
          · exact .inr ⟨rfl, h.1.1.1, h.1.1.2, h.2⟩
        · rintro (h2 | ⟨h2, _⟩)
          · exact .inl h2
          · exact .inr h2
      · rename_i h
        constructor
        · exact .inl
        · rintro (h2 | ⟨rfl, a, b, c⟩)
          · exact h2
          · cases hh : hasB out y with
            | true => exact has_iff.1 hh
            | false => exact absurd (by simp [a, b, c, hh]) h
    rw [h1, List.mem_cons]
    constructor
    · rintro ((h2 | ⟨h2, h3⟩) | ⟨h2, h3⟩)
      · exact .inl h2
      · exact .inr ⟨.inl h2, h3⟩
      · exact .inr ⟨.inr h2, h3⟩
    · rintro (h2 | ⟨h2 | h2, h3⟩)
      · exact .inl (.inl h2)
      · exact .inl (.inr ⟨h2, h3⟩)
      · exact .inr ⟨h2, h3⟩
theorem put_nodup {l : List St} {but : Int} {more : List Int} : ∀ {out : List Int}, out.Nodup → (putP l out more but).Nodup := by
  induction more with
  | nil => intro out h; exact h
  | cons x more ih =>
    intro out h
    show (putP l (put1 l but out x) more but).Nodup
    refine ih ?_
    unfold put1
    split
    · rename_i hb
      unfold putB at hb
      simp only [Bool.and_eq_true, Bool.not_eq_true'] at hb
      have hx : x ∉ out := fun hm => by have := has_iff.2 hm; rw [hb.1.2] at this; cases this
      rw [List.nodup_append]
      refine ⟨h, by simp, fun a ha b hb2 => ?_⟩
      rw [List.mem_singleton.1 hb2]
      exact fun e => hx (e ▸ ha)
    · exact h
theorem put_len (l : List St) (but : Int) : ∀ (more out : List Int), (putP l out more but).length ≤ out.length + more.length
  | [], out => by simp [putP]
  | x :: more, out => by
    have h1 := put_len l but more (put1 l but out x)
    have h2 : (put1 l but out x).length ≤ out.length + 1 := by unfold put1; split <;> simp
    show (putP l (put1 l but out x) more but).length ≤ _
    rw [List.length_cons]; omega
def hereP (l : List St) (c : List Int) : Nat := (c.filter fun x => decide (levOf l x = lastL l)).length
def top1 (l : List St) (a : Int) (x : Int) : Int := if levOf l x = lastL l ∧ a < plN l x then (plN l x : Int) else a
def topP (l : List St) (c : List Int) : Int := c.foldl (top1 l) (-1)
theorem here_snoc (l : List St) (c : List Int) (x : Int) : hereP l (c ++ [x]) = if levOf l x = lastL l then hereP l c + 1 else hereP l c := by
  unfold hereP
  rw [List.filter_append, List.length_append]
  by_cases h : levOf l x = lastL l <;> simp [h]
theorem top_snoc (l : List St) (c : List Int) (x : Int) : topP l (c ++ [x]) = top1 l (topP l c) x := by simp [topP]
/-- the greatest place of what is of the last level -/
theorem top_is (l : List St) : ∀ c : List Int, (topP l c = -1 ∧ hereP l c = 0) ∨ (∃ x ∈ c, levOf l x = lastL l ∧ topP l c = plN l x) := by
  intro c
  have key : ∀ (c : List Int) (a : Int), c.foldl (top1 l) a = a ∨ ∃ x ∈ c, levOf l x = lastL l ∧ c.foldl (top1 l) a = plN l x := by
    intro c
    induction c with
    | nil => intro a; exact .inl rfl
    | cons x c ih =>
      intro a
      rcases ih (top1 l a x) with h | ⟨y, hy, h1, h2⟩
      · by_cases hc : levOf l x = lastL l ∧ a < plN l x
        · have e : top1 l a x = (plN l x : Int) := by unfold top1; rw [if_pos hc]
          rw [e] at h
          exact .inr ⟨x, List.mem_cons_self, hc.1, by show c.foldl (top1 l) (top1 l a x) = _; rw [e]; exact h⟩
        · have e : top1 l a x = a := by unfold top1; rw [if_neg hc]
          rw [e] at h
          left
          show c.foldl (top1 l) (top1 l a x) = a
          rw [e]; exact h
      · exact .inr ⟨y, List.mem_cons_of_mem _ hy, h1, h2⟩
  have ge : ∀ (c : List Int) (a : Int), a ≤ c.foldl (top1 l) a := by
    intro c
    induction c with
    | nil => intro a; exact Int.le_refl _
    | cons x c ih =>
      intro a
      have h1 := ih (top1 l a x)
      have h2 : a ≤ top1 l a x := by unfold top1; split <;> omega
      show a ≤ c.foldl (top1 l) (top1 l a x)
      omega
  rcases key c (-1) with h | h
  · left
    refine ⟨h, ?_⟩
    unfold hereP
    rw [List.length_eq_zero_iff, List.filter_eq_nil_iff]
    intro x hx
    have : ∀ (c : List Int) (a : Int), x ∈ c → levOf l x = lastL l → (plN l x : Int) ≤ c.foldl (top1 l) a := by
      intro c
      induction c with
      | nil => intro a hx; cases hx
      | cons y c ih =>
        intro a hx hl
        rcases List.mem_cons.1 hx with rfl | hx
        · have h1 := ge c (top1 l a x)
          have h2 : (plN l x : Int) ≤ top1 l a x := by unfold top1; split <;> omega
          show _ ≤ c.foldl (top1 l) (top1 l a x)
          omega
        · exact ih _ hx hl
    intro hl
    have h2 := this c (-1) hx (by simpa using hl)
    have h3 : c.foldl (top1 l) (-1) = -1 := h
    omega
  · exact .inr h
theorem top_ge {l : List St} {c : List Int} {x : Int} (hx : x ∈ c) (hl : levOf l x = lastL l) : (plN l x : Int) ≤ topP l c := by
  have ge : ∀ (c : List Int) (a : Int), a ≤ c.foldl (top1 l) a := by
    intro c
    induction c with
    | nil => intro a; exact Int.le_refl _
    | cons x c ih =>
      intro a
      have h1 := ih (top1 l a x)
      have h2 : a ≤ top1 l a x := by unfold top1; split <;> omega
      show a ≤ c.foldl (top1 l) (top1 l a x)
      omega
  have : ∀ (c : List Int) (a : Int), x ∈ c → (plN l x : Int) ≤ c.foldl (top1 l) a := by
    intro c
    induction c with
    | nil => intro a hx; cases hx
    | cons y c ih =>
      intro a hx
      rcases List.mem_cons.1 hx with rfl | hx
      · have h1 := ge c (top1 l a x)
        have h2 : (plN l x : Int) ≤ top1 l a x := by unfold top1; split <;> omega
        show _ ≤ c.foldl (top1 l) (top1 l a x)
        omega
      · exact ih _ hx
  exact this c (-1) hx
def restP (l : List St) (a : Int) (c : List Int) : List Int := c.filter fun x => decide ((plN l x : Int) ≠ a)
def stepP (l : List St) (c : List Int) : List Int := putP l (restP l (topP l c) c) (stAt l (topP l c).toNat).why (stAt l (topP l c).toNat).lit
def cN (l : List St) (bad : List Int) : Nat → List Int
  | 0 => putP l [] bad 0
  | n + 1 => stepP l (cN l bad n)
/-- all of a clause's literals are such -/
structure ClOk (l : List St) (c : List Int) : Prop where
  nodup : c.Nodup
  mem : ∀ x ∈ c, Mem l x ∧ 0 < levOf l x
theorem cl_zero {l : List St} {bad : List Int} (h : GoodP l bad) : ClOk l (cN l bad 0) :=
  ⟨put_nodup List.nodup_nil, fun x hx => by
    rcases put_mem.1 hx with h1 | ⟨h1, h2, _, h4⟩
    · cases h1
    · exact ⟨(mem_zero h.1 (Nat.le_refl _) h2 (by rw [List.take_length]; exact h.2 x h1)).1, h4⟩⟩
theorem top_lt {l : List St} {c : List Int} (hc : ClOk l c) (h2 : 1 ≤ hereP l c) : ∃ x ∈ c, levOf l x = lastL l ∧ topP l c = plN l x ∧ plN l x < l.length := by
  rcases top_is l c with ⟨_, h⟩ | ⟨x, hx, h3, h4⟩
  · omega
  · exact ⟨x, hx, h3, h4, (hc.mem x hx).1.lt⟩
theorem cl_step {l : List St} {bad c : List Int} (h : GoodP l bad) (hc : ClOk l c) (h2 : 1 ≤ hereP l c) : ClOk l (stepP l c) ∧ ∀ x ∈ stepP l c, levOf l x = lastL l → (plN l x : Int) < topP l c := by
  obtain ⟨z, hz, hzl, ht, hzn⟩ := top_lt hc h2
  have htn : (topP l c).toNat = plN l z := by rw [ht]; simp
  have hst := h.1 (plN l z) hzn
  have hnew : ∀ x, x ∈ (stAt l (plN l z)).why → 1 < x → x ≠ (stAt l (plN l z)).lit → Mem l x ∧ plN l x < plN l z := fun x hx h1 hne => by
    have hw := hst.why x hx
    unfold whyB at hw
    rw [Bool.or_eq_true] at hw
    rcases hw with hw | hw
    · exact absurd (by simpa using hw) hne
    · exact mem_zero h.1 (Nat.le_of_lt hzn) h1 hw
  have hr : ∀ x, x ∈ restP l (topP l c) c → x ∈ c ∧ (plN l x : Int) ≠ topP l c := fun x hx => by
    obtain ⟨a, b⟩ := List.mem_filter.1 hx
    exact ⟨a, by simpa using b⟩
  refine ⟨⟨?_, fun x hx => ?_⟩, fun x hx hl => ?_⟩
  · exact put_nodup (hc.nodup.filter _)
  · rcases put_mem.1 hx with h1 | ⟨h1, h3, h4, h5⟩
    · exact hc.mem x (hr x h1).1
    · rw [htn] at h1 h4
      exact ⟨(hnew x h1 h3 h4).1, h5⟩
  · rcases put_mem.1 hx with h1 | ⟨h1, h3, h4, h5⟩
    · have := top_ge (hr x h1).1 hl
      have := (hr x h1).2
      omega
    · rw [htn] at h1 h4
      have := (hnew x h1 h3 h4).2
      rw [ht]; omega
theorem cl_all {l : List St} {bad : List Int} (h : GoodP l bad) : ∀ n, (∀ j, j < n → 2 ≤ hereP l (cN l bad j)) → ClOk l (cN l bad n)
  | 0, _ => cl_zero h
  | n + 1, hj => (cl_step h (cl_all h n (fun j hj' => hj j (by omega))) (by have := hj n (by omega); omega)).1
/-- the level to go back to -/
def back1 (l : List St) (b : Int) (x : Int) : Int := if levOf l x < lastL l ∧ b < levOf l x then levOf l x else b
def backP (l : List St) (c : List Int) : Int := c.foldl (back1 l) 0
theorem back_snoc (l : List St) (c : List Int) (x : Int) : backP l (c ++ [x]) = back1 l (backP l c) x := by simp [backP]
/-- what is learned: none, or a clause and a level -/
def FirstIs (l : List St) (bad : List Int) (r : Option (List Int × Int)) : Prop :=
  ((goodB l bad = false ∨ l = []) ∧ r = none) ∨
  (goodB l bad = true ∧ l ≠ [] ∧ ∃ n, (∀ j, j < n → 2 ≤ hereP l (cN l bad j)) ∧ hereP l (cN l bad n) ≤ 1 ∧ r = if hereP l (cN l bad n) = 1 then some (srt (cN l bad n), backP l (cN l bad n)) else none)
theorem first_one {l : List St} {bad : List Int} {r r' : Option (List Int × Int)} (h : FirstIs l bad r) (h' : FirstIs l bad r') : r = r' := by
  rcases h with ⟨h1, rfl⟩ | ⟨h1, h2, n, h3, h4, rfl⟩ <;> rcases h' with ⟨k1, rfl⟩ | ⟨k1, k2, m, k3, k4, rfl⟩
  · rfl
  · rcases h1 with h1 | h1
    · rw [h1] at k1; cases k1
    · exact absurd h1 k2
  · rcases k1 with k1 | k1
    · rw [k1] at h1; cases h1
    · exact absurd k1 h2
  · have e : n = m := by
      rcases Nat.lt_trichotomy n m with h | h | h
      · have := k3 n h; omega
      · exact h
      · have := h3 m h; omega
    subst e; rfl
end Go.Proofs.Ytcjoohaagdihlaa.Learn
end
