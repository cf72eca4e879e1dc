/- The document's Add and Find on kept cubes. -/
import Derived.Test.YtcjoohaagdihlaaStore14
import Derived.Test.YtcjoohaagdihlaaStore15
import Derived.Test.YtcjoohaagdihlaaStoreN
namespace Go.Proofs.Ytcjoohaagdihlaa.Kept
open Go.RowKit Go.Shelf Go.Lt Go.Proofs.Ytcjoohaagdihlaa.Lit Go.Proofs.Ytcjoohaagdihlaa.CubeHas Go.Proofs.Ytcjoohaagdihlaa.Cube Go.Proofs.Ytcjoohaagdihlaa.Sorted
set_option linter.unusedVariables false
set_option linter.unusedSimpArgs false

def RefAddIs (base : Nat) (v : Value) (l : List Kc) (cl : List Int) (dep : Int) (il : List Bool) (w : World) (e : Ending) (w' : World) : Prop :=
  (addB l cl dep = false ∧ e = .returned (.tuple #[v, .bool false]) ∧ Below w.heap.size w w') ∨
  (addB l cl dep = true ∧ ∃ v' L', e = .returned (.tuple #[v', .bool true]) ∧ w'.ownsRow w.heap.size 66 3 v' L'.length (encK L') ∧ Rw base w' v' L' (addL l cl dep il) ∧ Below w.heap.size w w')
theorem ref_no {l : List Kc} {cl : List Int} {dep : Int} {k : Nat} (hk : k < l.length) (h : refuses (srt cl) dep (kcAt l k) = true) : addB l cl dep = false := by
  unfold addB
  have : l.any (refuses (srt cl) dep) = true := List.any_eq_true.2 ⟨_, kcAt_mem hk, h⟩
  rw [this]; simp
theorem ref_yes {l : List Kc} {cl : List Int} {dep : Int} (hn : normB cl = true) (hd : 0 ≤ dep) (h : ∀ k, k < l.length → refuses (srt cl) dep (kcAt l k) = false) : addB l cl dep = true := by
  unfold addB
  have : l.any (refuses (srt cl) dep) = false := by
    rw [List.any_eq_false]
    intro x hx
    obtain ⟨j, hj, rfl⟩ := mem_kcAt hx
    rw [h j hj]; simp
  rw [this, hn, decide_eq_true hd]; rfl
set_option maxRecDepth 20000 in
set_option maxHeartbeats 4000000 in
theorem ref_Add (base : Nat) (A : Option Addr) (n c : Nat) (L : List Kv) (l : List Kc) (C : Option Addr) (nc cc : Nat) (cl : List Int) (dep : Int) (I : Option Addr) (ni ci : Nat) (il : List Bool) (w : World) (hrw : Rw base w (.slice A n c) L l) (hbase : base ≤ w.heap.size) (hL : L.length ≤ 1000) (hg : GoodL l)
    (hrc : Rd w C nc (ivs cl)) (hnc : nc ≤ 1000) (hri : Rd w I ni (bvs il)) (hni : ni ≤ 1000) :
    Calls Try.prog 46 #[.slice A n c, .slice C nc cc, .int .i64 dep, .slice I ni ci] w (RefAddIs base (.slice A n c) l cl dep il w) := by
  obtain ⟨A', c', hv, _, _, hrd⟩ := RdK.of_own hrw.own
  injection hv with h1 h2 h3
  subst h1 h2 h3
  have hLl := hide (show L.length = l.length from hrw.all.1)
  obtain ⟨n, hn⟩ : ∃ n, L.length = n := ⟨_, rfl⟩
  rw [hn] at hL hrd hLl ⊢
  have hnn := hide hn
  clear hn
  have hLI : (n : Int) ≤ 1000 := by omega
  have hRW := hide hrw
  replace hg := hide hg
  have hncl : cl.length = nc := hrc.len
  clear hrw
  go_enter Try.func46, Try.ntmps46
  go_wp2_with fail
  refine (ref_NormO C nc cc cl w hnc hrc).mono ?_
  rintro e w1 (⟨hnb, A1, n1, c1, rfl, hn1, hr1, hO1, hb1⟩ | ⟨hnb, rfl, hb1⟩)
  · by_cases hd0 : dep < 0
    · have hF := hide (show addB l cl dep = false by unfold addB; rw [decide_eq_false (by omega)]; simp)
      replace hb1 := hide hb1
      clear hr1 hO1 hnb
      go_wp2
      go_ret2
      exact .inl ⟨hF.out, rfl, hb1.out⟩
    · have hd1 : 0 ≤ dep := by omega
      have hdd : decide (dep < 0) = false := decide_eq_false hd0
      replace hnb := hide hnb
      replace hO1 := hide hO1
      replace hr1 := hide hr1
      replace hb1 := hide hb1
      have hn1' : n1 ≤ 1000 := by omega
      have hrl : ∀ W : World, Below w1.heap.size w1 W → RdK W A n L := fun W hb => (hrd.below hb1.out (Nat.le_refl _)).below hb (Nat.le_refl _)
      have hkr : ∀ W : World, Below w1.heap.size w1 W → AllK W L l := fun W hb => (hRW.out.all.rd.below hb1.out (Nat.le_refl _)).below hb (Nat.le_refl _)
      have hs1 : ∀ W : World, Below w1.heap.size w1 W → Rd W A1 n1 (ivs (srt cl)) := fun W hb => hr1.out.below hb (Nat.le_refl _)
      replace hrl := hide hrl
      replace hkr := hide hkr
      replace hs1 := hide hs1
      have hri1 := hide (fun W (hb : Below w1.heap.size w1 W) => (hri.below hb1.out (Nat.le_refl _)).below hb (Nat.le_refl _))
      clear hrc hri hrd hncl hn1
      go_wp2
      go_loopw [12, 13] (fun o i wr => ∃ k : Nat, k ≤ n ∧ i = .int .i64 k ∧ Hid (wr.ownsRow w1.heap.size 66 3 o (kept (fun j => strikes dep (srt cl) (kcAt l j)) L k).length (encK (kept (fun j => strikes dep (srt cl) (kcAt l j)) L k))) ∧ Hid (Below w1.heap.size w1 wr) ∧ Hid (∀ j, j < k → refuses (srt cl) dep (kcAt l j) = false)) (fun _ i _ => n - (intOf i).toNat)
      case atStart => exact ⟨0, Nat.zero_le _, rfl, hide (World.ownsRow_lit w1 #[] 0 (Nat.le_refl _) (by unfold maxLen; omega) rfl), hide ((Below.refl _ _).alloc (Nat.le_refl _) _), hide (fun j hj => absurd hj (Nat.not_lt_zero _))⟩
      case round =>
        obtain ⟨k, hk, rfl, hO, hb, hno⟩ := hrel
        have hkI : (k : Int) ≤ 1000 := by omega
        by_cases hlt : k < n
        · obtain ⟨ad, x, rfl, hB, hx, k0, k1, k2⟩ := (hrl.out wr hb.out).get hlt
          have hxk := (hkr.out wr hb.out).2 k (by rw [hnn.out]; exact hlt)
          have hkv := kvAt_is hx
          rw [hkv] at hxk
          have hgk := hg.out.at (j := k) (by have := hLl.out; omega)
          have hcl : (kcAt l k).c.length = x.c.n := hxk.c.len
          have hcn : x.c.n ≤ 1000000 := by have := hgk.c; omega
          have hd : x.d = (kcAt l k).d := hxk.d
          have hxc := hide hxk.c
          have hs1r := hide (hs1.out wr hb.out)
          have hkeep := hide (fun h => kept_yes (L := L) (p := fun j => strikes dep (srt cl) (kcAt l j)) (j := k) h)
          have hdrop := hide (fun h => kept_no (L := L) (p := fun j => strikes dep (srt cl) (kcAt l j)) (j := k) h)
          have hnext := hide (fun (h : refuses (srt cl) dep (kcAt l k) = false) => (show ∀ j, j < k + 1 → refuses (srt cl) dep (kcAt l j) = false from fun j hj => by
            by_cases h1 : j = k
            · rw [h1]; exact h
            · exact hno.out j (by omega)))
          have hrefl := hide (fun h => ref_no (l := l) (cl := cl) (dep := dep) (k := k) (by have := hLl.out; omega) h)
          rw [hkv] at hkeep
          have hlen := hide (kept_len (fun j => strikes dep (srt cl) (kcAt l j)) L k)
          obtain ⟨Kk, hKk⟩ : ∃ Kk, kept (fun j => strikes dep (srt cl) (kcAt l j)) L k = Kk := ⟨_, rfl⟩
          rw [hKk] at hO hkeep hdrop hlen
          obtain ⟨kc, hkc⟩ : ∃ kc, kcAt l k = kc := ⟨_, rfl⟩
          have hst : ∀ b, strikes dep (srt cl) kc = b → (fun j => strikes dep (srt cl) (kcAt l j)) k = b := fun b h => by show strikes dep (srt cl) (kcAt l k) = b; rw [hkc]; exact h
          replace hst := hide hst
          rw [hkc] at hxc hd hnext hrefl
          have hknow : KvR wr x kc := by rw [← hkc]; exact hxk
          replace hknow := hide hknow
          clear hKk hkc hx hxk hkv hgk hcl
          have hnow := hide hlt
          have hcell := hide hlt
          by_cases hdl : kc.d ≤ dep
          · have hdl2 : x.d ≤ dep := by omega
            cases hc1 : covB kc.c (srt cl) with
            | true =>
              have hF := hide (hrefl.out (by unfold refuses; rw [hc1, decide_eq_true hdl]; rfl))
              have H1 := hide (rcov_is (ca := x.c.c) (cb := c1) hcn (by omega) hxc.out hs1r.out hc1)
              clear hc1 hd
              go_wp2_with fail
              refine H1.out.mono ?_
              rintro e w' ⟨rfl, rfl⟩
              go_wp2
              go_ret2
              exact .inl ⟨hF.out, rfl, hb1.out.trans (hb.out.mono hb1.out.size)⟩
            | false =>
              have hrf := hide (show refuses (srt cl) dep kc = false by unfold refuses; rw [hc1]; simp)
              have H1 := hide (rcov_is (ca := x.c.c) (cb := c1) hcn (by omega) hxc.out hs1r.out hc1)
              clear hc1
              by_cases hdl3 : x.d < dep
              · have hsk := hide (show strikes dep (srt cl) kc = false by unfold strikes; rw [decide_eq_false (by omega)]; rfl)
                clear hd hdl
                go_wp2_with fail
                refine H1.out.mono ?_
                rintro e w' ⟨rfl, rfl⟩
                have hK1 := hide (hkeep.out (hst.out _ hsk.out))
                clear hkeep hdrop hst hsk hnow hcell
                go_wp2_with (at_builtin; refine wpList_push (news := [x.c.val, .int .i64 x.d, x.i.val]) rfl _ _ _ rfl (by kernel_rfl) k_kept rfl (by decide) rfl rfl hO.out hb.out (Nat.le_refl _) rfl (by intro u hu; simp at hu; rcases hu with rfl | rfl | rfl <;> rfl) (by have := hlen.out; unfold maxLen; omega) (by have := hlen.out; omega) ?_; intro v1 w3 hown1 hb3)
                go_roundw
                case rel => exact ⟨k + 1, hlt, by go_num, by rw [hK1.out]; exact hide (by simpa [encK_app, encK_one1] using hown1), hide hb3, hide (hnext.out hrf.out)⟩
                case measure => simp [intOf]; omega
              · have hde : kc.d ≥ dep := by omega
                clear hd hdl
                go_wp2_with fail
                refine H1.out.mono ?_
                rintro e w' ⟨rfl, rfl⟩
                cases hc2 : covB (srt cl) kc.c with
                | true =>
                  have hsk := hide (show strikes dep (srt cl) kc = true by unfold strikes; rw [hc2, decide_eq_true (by omega)]; rfl)
                  have H2 := hide (rcov_is (ca := c1) (cb := x.c.c) (by omega) hcn hs1r.out hxc.out hc2)
                  clear hc2
                  go_wp2_with fail
                  refine H2.out.mono ?_
                  rintro e w' ⟨rfl, rfl⟩
                  have hK1 := hide (hdrop.out (hst.out _ hsk.out))
                  clear hkeep hdrop hst hsk hnow hcell
                  go_wp2
                  go_roundw
                  case rel => exact ⟨k + 1, hlt, by go_num, by rw [hK1.out]; exact hO, hb, hide (hnext.out hrf.out)⟩
                  case measure => simp [intOf]; omega
                | false =>
                  have hsk := hide (show strikes dep (srt cl) kc = false by unfold strikes; rw [hc2]; simp)
                  have H2 := hide (rcov_is (ca := c1) (cb := x.c.c) (by omega) hcn hs1r.out hxc.out hc2)
                  clear hc2
                  go_wp2_with fail
                  refine H2.out.mono ?_
                  rintro e w' ⟨rfl, rfl⟩
                  have hK1 := hide (hkeep.out (hst.out _ hsk.out))
                  clear hkeep hdrop hst hsk hnow hcell
                  go_wp2_with (at_builtin; refine wpList_push (news := [x.c.val, .int .i64 x.d, x.i.val]) rfl _ _ _ rfl (by kernel_rfl) k_kept rfl (by decide) rfl rfl hO.out hb.out (Nat.le_refl _) rfl (by intro u hu; simp at hu; rcases hu with rfl | rfl | rfl <;> rfl) (by have := hlen.out; unfold maxLen; omega) (by have := hlen.out; omega) ?_; intro v1 w3 hown1 hb3)
                  go_roundw
                  case rel => exact ⟨k + 1, hlt, by go_num, by rw [hK1.out]; exact hide (by simpa [encK_app, encK_one1] using hown1), hide hb3, hide (hnext.out hrf.out)⟩
                  case measure => simp [intOf]; omega
          · have hrf := hide (show refuses (srt cl) dep kc = false by unfold refuses; rw [decide_eq_false hdl]; rfl)
            have hdl2 : ¬ x.d ≤ dep := by omega
            have hdl3 : ¬ x.d < dep := by omega
            have hde : kc.d ≥ dep := by omega
            clear hd hdl
            cases hc2 : covB (srt cl) kc.c with
            | true =>
              have hsk := hide (show strikes dep (srt cl) kc = true by unfold strikes; rw [hc2, decide_eq_true (by omega)]; rfl)
              have H2 := hide (rcov_is (ca := c1) (cb := x.c.c) (by omega) hcn hs1r.out hxc.out hc2)
              clear hc2
              go_wp2_with fail
              refine H2.out.mono ?_
              rintro e w' ⟨rfl, rfl⟩
              have hK1 := hide (hdrop.out (hst.out _ hsk.out))
              clear hkeep hdrop hst hsk hnow hcell
              go_wp2
              go_roundw
              case rel => exact ⟨k + 1, hlt, by go_num, by rw [hK1.out]; exact hO, hb, hide (hnext.out hrf.out)⟩
              case measure => simp [intOf]; omega
            | false =>
              have hsk := hide (show strikes dep (srt cl) kc = false by unfold strikes; rw [hc2]; simp)
              have H2 := hide (rcov_is (ca := c1) (cb := x.c.c) (by omega) hcn hs1r.out hxc.out hc2)
              clear hc2
              go_wp2_with fail
              refine H2.out.mono ?_
              rintro e w' ⟨rfl, rfl⟩
              have hK1 := hide (hkeep.out (hst.out _ hsk.out))
              clear hkeep hdrop hst hsk hnow hcell
              go_wp2_with (at_builtin; refine wpList_push (news := [x.c.val, .int .i64 x.d, x.i.val]) rfl _ _ _ rfl (by kernel_rfl) k_kept rfl (by decide) rfl rfl hO.out hb.out (Nat.le_refl _) rfl (by intro u hu; simp at hu; rcases hu with rfl | rfl | rfl <;> rfl) (by have := hlen.out; unfold maxLen; omega) (by have := hlen.out; omega) ?_; intro v1 w3 hown1 hb3)
              go_roundw
              case rel => exact ⟨k + 1, hlt, by go_num, by rw [hK1.out]; exact hide (by simpa [encK_app, encK_one1] using hown1), hide hb3, hide (hnext.out hrf.out)⟩
              case measure => simp [intOf]; omega
        · have hkn : n = k := by omega
          subst hkn
          have hB := hide (ref_yes hnb.out hd1 (fun k hk => hno.out k (by have := hLl.out; omega)))
          have hlen := hide (kept_len (fun j => strikes dep (srt cl) (kcAt l j)) L n)
          have hri2 := hide (hri1.out wr hb.out)
          have hwn : w1.heap.size ≤ wr.heap.size := hb.out.size
          clear hno hd0 hdd hk hkI hlt
          go_wp2_with (at_builtin; first | (refine wpList_append_rdS (w0 := w1) (base := w1.heap.size) (news := bvs il) rfl _ _ _ rfl (by kernel_rfl) k_bool rfl (by decide) rfl rfl (World.ownsRow_lit wr #[] 0 hwn (by unfold maxLen; omega) rfl) (hb.out.alloc hwn _) (by simp; omega) (rd_rdS (hri2.out.below ((Below.refl wr.heap.size wr).alloc (Nat.le_refl _) (.cells #[] 4)) (Nat.le_refl _))) (by intro u hu; obtain ⟨y, _, rfl⟩ := List.mem_map.1 hu; rfl) (by unfold maxLen; omega) (by omega) ?_; intro v4 w4 hown4 hb4 hgr4; obtain ⟨s4, hs4, _⟩ := own_sl hown4; subst hs4; replace hown4 := hide hown4; have hO4 := hide (own_off (hO.out.alloc (.cells #[] 4)) hgr4 (fun g e => by cases e; exact ⟨_, _, Blk.new wr _ _, by decide⟩)); replace hb4 := hide hb4; clear hgr4) | (refine wpList_pushG (news := [.slice A1 n1 c1, .int .i64 dep, s4.val]) rfl _ _ _ rfl (by kernel_rfl) k_kept rfl (by decide) rfl rfl hO4.out hb4.out (Nat.le_refl _) rfl (by intro u hu; simp at hu; rcases hu with rfl | rfl | rfl <;> rfl) (by have := hlen.out; unfold maxLen; omega) (by have := hlen.out; omega) ?_; intro v5 w5 hown5 hb5 hgr5))
          have hown5 := hide hown5
          have hb5 := hide hb5
          have hi5 := hide (own_off (hown4.out.alloc (.cells #[.slice A1 n1 c1, .int .i64 dep, s4.val] 66)) hgr5 (fun g e => by obtain ⟨cs, hb⟩ := own_blk (hO4.out.alloc (.cells #[.slice A1 n1 c1, .int .i64 dep, s4.val] 66)) e; exact ⟨_, cs, hb, by decide⟩))
          clear hgr5 hown4 hO4
          go_ret2
          obtain ⟨K1, hK1⟩ : ∃ K1, kept (fun j => strikes dep (srt cl) (kcAt l j)) L n = K1 := ⟨_, rfl⟩
          have hw5 : Below w.heap.size w w5 := hb1.out.trans (hb5.out.mono hb1.out.size)
          refine .inr ⟨hB.out, _, K1 ++ [⟨⟨A1, n1, c1⟩, dep, s4⟩], rfl, ?_, ⟨?_, ?_⟩, hw5⟩
          · have := own_low hown5.out hb1.out.size
            rw [hK1] at this
            simpa [encK_app, encK_one1] using this
          · have := own_low hown5.out (Nat.le_trans hbase hb1.out.size)
            rw [hK1] at this
            simpa [encK_app, encK_one1] using this
          · unfold addL
            rw [if_pos hB.out]
            have h1 := (hRW.out.all.step hw5).keep dep (srt cl)
            rw [hnn.out, hK1] at h1
            refine h1.snoc ⟨rfl, ?_, ?_⟩
            · have h2 := own_low (own_keep hO1.out hb5.out) hbase
              have h3 : (ivs (srt cl)).length = n1 := by have := hO1.out.1; omega
              show w5.ownsRow base 3 1 (.slice A1 n1 c1) (ivs (srt cl)).length (ivs (srt cl))
              rw [h3]; exact h2
            · have h2 := own_low hi5.out (Nat.le_trans hbase hb1.out.size)
              have h3 : (bvs il).length = 0 + ni := by have := h2.1; simpa using this
              show w5.ownsRow base 4 1 s4.val (bvs il).length (bvs il)
              rw [h3]; simpa using h2
  · have hF := hide (show addB l cl dep = false by unfold addB; rw [hnb]; rfl)
    replace hb1 := hide hb1
    clear hnb
    go_wp2
    go_ret2
    exact .inl ⟨hF.out, rfl, hb1.out⟩
end Go.Proofs.Ytcjoohaagdihlaa.Kept
