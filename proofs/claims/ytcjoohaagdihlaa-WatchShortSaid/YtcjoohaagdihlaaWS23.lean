/- Texts behind a row, one behind the other: Lives25, WatchS1, WatchS2. -/
import Derived.Test.YtcjoohaagdihlaaWS22
import Derived.Test.YtcjoohaagdihlaaWS11
import Derived.Test.YtcjoohaagdihlaaWS20
section
/- latchetlaw25's lives. -/
namespace Go.Proofs.Ytcjoohaagdihlaa.Watch
open Go.RowKit Go.Lt Go.Proofs.Ytcjoohaagdihlaa.Lit Go.Proofs.Ytcjoohaagdihlaa.Sorted Go.Proofs.Ytcjoohaagdihlaa.Learn Go.Instr
open Go.Proofs.Ytcjoohaagdihlaa.Kept (Sl Sl.val)
set_option linter.unusedVariables false
set_option linter.unusedSimpArgs false

theorem rd_blk {W : World} {g : Nat} {t : TypeId} {l : List Int} (h : Blk W g t (ivs l).toArray) : Rd W (some ⟨g, 0, none⟩) l.length (ivs l) := by
  refine ⟨by simp [ivs], fun k hk => ?_⟩
  have hkl : k < (ivs l).length := by simpa [ivs] using hk
  refine ⟨_, (ivs l)[k], rfl, h.lt, List.getElem?_eq_getElem hkl, ?_⟩
  have : (⟨g, 0, none⟩ : Addr).add k = ⟨g, k, none⟩ := by unfold Addr.add; split <;> simp_all
  rw [this, blk_list h k, List.getElem?_eq_getElem hkl]
theorem own_blk2 {W : World} {base : Nat} {v : Value} {a b : Value} (h : W.ownsRow base 3 1 v 2 [a, b]) : ∃ g cap rest, v = .slice (some ⟨g, 0, none⟩) 2 cap ∧ base ≤ g ∧ 2 ≤ cap ∧ cap ≤ maxLen ∧ Blk W g 3 (a :: b :: rest).toArray := by
  rcases h.2 with ⟨_, h0⟩ | ⟨g, cap, cur, h1, h2, h3, h4, h5, h6, h7⟩
  · cases h0
  · refine ⟨g, cap, cur.toList.drop 2, h1, h2, h4, h5, ?_⟩
    have : cur = (a :: b :: cur.toList.drop 2).toArray := by
      apply Array.ext'
      have := (List.take_append_drop 2 cur.toList).symm
      rw [this]
      rw [show (2 : Nat) = 2 * 1 from rfl, h7]
      simp
    unfold Blk
    rw [← this]
    exact h3
abbrev vals0 : List Int := [0, 2, 2, 2, 2]
abbrev mk0 : List Mk := [⟨0, -1, -1⟩, zMk, zMk, zMk, zMk]
theorem TrM.low {base base' : Nat} {W : World} {p gv gm N : Nat} {lv : Value} {vals : List Int} {mk : List Mk} {ls : List Int} (h : TrM base W p gv gm N lv vals mk ls) (hb : base' ≤ base) : TrM base' W p gv gm N lv vals mk ls :=
  ⟨h.box, h.vals_, h.marks, h.vl, h.ml, own_base h.list hb, h.ne, Nat.le_trans hb h.bp, Nat.le_trans hb h.bv, Nat.le_trans hb h.bm⟩
theorem norm43 : normC [4, 3] = [3, 4] := by decide
theorem ok43 : (okC [4, 3] && fitC 4 [4, 3]) = true := by decide
/-- behind the example's Add -/
def ReadyIs (base : Nat) (W : World) (p mA mN mS mB pt gv gm : Nat) (w4 : World) : Prop :=
  ∃ (fv : Value) (al : List (Int × Value)) (b gc cap : Nat) (rest : List Value), TrM base w4 pt gv gm 5 (.slice none 0 0) vals0 mk0 [] ∧ ExM base w4 p mA mN mS mB b gc cap fv al [] 3 4 rest ∧ w4.ownsRow base 3 1 fv 1 (ivs [0]) ∧ (∀ g, fv.ownBlock = some g → W.heap.size ≤ g) ∧ W.heap.size ≤ gc ∧ gv < W.heap.size ∧ Below base W w4
theorem ready {base : Nat} {W w4 : World} {p mA mN mS mB pt gv gm : Nat} {e : Ending} (hs : StM base W p mA mN mS mB 4 0 (.slice none 0 0) [] [] [] [] []) (ht : TrM base W pt gv gm 5 (.slice none 0 0) vals0 mk0 [])
    (hA : AddIs base W p mA mN mS mB 4 0 (.slice none 0 0) [] [] [] [] [] [4, 3] e w4) : e = .returned (.int .i64 0) ∧ ReadyIs base W p mA mN mS mB pt gv gm w4 := by
  rcases hA with ⟨h1, _⟩ | ⟨_, rfl, fv, s, sw, b, hS, hb, hbl, how, _, _, _, hbb, hfr, hfv⟩
  · rw [ok43] at h1; cases h1
  · rw [norm43] at hS how
    obtain ⟨gc, cap, rest, hv, hgc, hc2, hcm, hl⟩ := own_blk2 how
    rw [hv] at hb
    have hlo := hS.lo
    refine ⟨rfl, fv, _, b, gc, cap, rest, ht.fr hfr ?_ ?_ ?_ ?_, ⟨hS.box, hS.all, hS.short, hS.by_, hb, hl, rfl, ⟨hS.d1.2.2.1, hS.d1.2.2.2.2.2⟩, ⟨hlo.1, hlo.2.1, hlo.2.2.2.1, hlo.2.2.2.2, Nat.le_trans ?_ hbl, Nat.le_trans ?_ hgc⟩, hc2, hcm⟩, hS.fresh, ?_, hgc, ht.vals_.lt, hbb⟩
    · rintro (e | e | e | e | e)
      · exact blk_ne ht.box hs.box (by decide) e
      · exact map_blk hs.all ht.box e
      · exact map_blk hs.norms ht.box e
      · exact map_blk hs.short ht.box e
      · cases e
    · rintro (e | e | e | e | e)
      · exact blk_ne ht.vals_ hs.box (by decide) e
      · exact map_blk hs.all ht.vals_ e
      · exact map_blk hs.norms ht.vals_ e
      · exact map_blk hs.short ht.vals_ e
      · cases e
    · rintro (e | e | e | e | e)
      · exact blk_ne ht.marks hs.box (by decide) e
      · exact map_blk hs.all ht.marks e
      · exact map_blk hs.norms ht.marks e
      · exact map_blk hs.short ht.marks e
      · cases e
    · intro g hg; cases hg
    · exact Nat.le_trans hs.lo.1 (Nat.le_of_lt hs.box.lt)
    · exact Nat.le_trans hs.lo.1 (Nat.le_of_lt hs.box.lt)
    · intro g hg
      rcases hfv g hg with h | h
      · cases h
      · exact h
/-- behind the example's Set -/
def SetIs (base : Nat) (W : World) (p mA mN mS mB pt gv gm : Nat) (w5 : World) : Prop :=
  ∃ (fv lv : Value) (al : List (Int × Value)) (b gc cap : Nat) (rest : List Value), TrM base w5 pt gv gm 5 lv vals1 mk1 [2] ∧ ExM base w5 p mA mN mS mB b gc cap fv al [] 3 4 rest ∧ w5.ownsRow base 3 1 fv 1 (ivs [0]) ∧ (gc ≠ gv ∧ some gc ≠ lv.ownBlock) ∧ Below base W w5
theorem set_first {base : Nat} {W w4 : World} {p mA mN mS mB pt gv gm : Nat} (hbase : base ≤ W.heap.size) (h : ReadyIs base W p mA mN mS mB pt gv gm w4) :
    Calls Try.prog 109 #[.pointer (some ⟨pt, 0, none⟩), .int .i64 2, .int .i64 (-1)] w4 fun e w5 => e = .returned (.int .i64 0) ∧ SetIs base W p mA mN mS mB pt gv gm w5 := by
  obtain ⟨fv, al, b, gc, cap, rest, hT, hX, hfv, hfl, hgc, hgv, hb⟩ := h
  refine (trail_Set hT (Nat.le_trans hbase hb.size) (by decide) (x := 2) (by rfl) (by rfl) (by decide) (by decide) (-1)).mono ?_
  rintro e w5 ⟨rfl, lv, hT5, hb5, hk⟩
  have hX5 : ExM base w5 p mA mN mS mB b gc cap fv al [] 3 4 rest := hX.far hT ⟨by omega, fun e => by cases e⟩ hk
  have hfr : Fr (fun g => g = pt ∨ g = gv ∨ g = gm) w4 w5 := ⟨hb5.os, hb5.tape, hb5.output, hb5.size, fun k hk1 hn => hk k (fun e => hn (.inl e)) (fun e => hn (.inr (.inl e))) (fun e => hn (.inr (.inr e))) (fun e => by cases e) hk1⟩
  refine ⟨rfl, fv, lv, al, b, gc, cap, rest, hT5, hX5, hfr.own hfv (fun g hg e => ?_), ⟨by omega, fun e => ?_⟩, hb.trans hb5⟩
  · rcases e with e | e | e
    · exact own_blk_ne hfv hT.box (by decide) (by rw [hg, e])
    · have := hfl g hg; omega
    · exact own_blk_ne hfv hT.marks (by decide) (by rw [hg, e])
  · obtain ⟨g, c, h1, _, _⟩ := own_some (n := 0) hT5.list
    rw [h1] at e
    have eg : gc = g := by simpa [Value.ownBlock] using e
    have hl := hT5.list
    rw [h1] at hl
    have c1 := own_cell hl 0 (by decide)
    have c2 : w5.cell? ⟨gc, 0, none⟩ = some (.int .i64 3) := blk_list hX5.lits 0
    rw [eg, c1] at c2
    injection c2 with c2
    injection c2 with _ c2
    exact absurd c2 (by decide)
set_option maxRecDepth 8000 in
theorem lives25 (w : World) : Calls Try.prog 54 #[] w fun e w' => e = .returned (.bool true) ∧ Below w.heap.size w w' := by
  have HN := hide (watch_New 4 (by decide) w)
  go_enter Try.func54, Try.ntmps54
  go_wp2_with fail
  refine HN.out.mono ?_
  rintro e w1 ⟨p, mA, mN, mS, mB, rfl, hs1, hb1⟩
  have HT : Hid _ := hide (trail_New 4 (by decide) w1)
  replace hs1 := hide hs1
  replace hb1 := hide hb1
  go_wp2_with fail
  refine HT.out.mono ?_
  rintro e w2 ⟨pt, gv, gm, rfl, ht2, hb2⟩
  have hbase2 : w.heap.size ≤ w2.heap.size := Nat.le_trans hb1.out.size hb2.size
  obtain ⟨w3, hw3⟩ : ∃ w3, w2.alloc (.cells #[.int .i64 4, .int .i64 3] 3) = w3 := ⟨_, rfl⟩
  have hb3 := (Below.refl w2.heap.size w2).alloc (Nat.le_refl _) (.cells #[.int .i64 4, .int .i64 3] 3)
  have hbk3 := Blk.new w2 3 #[.int .i64 4, .int .i64 3]
  rw [hw3] at hb3 hbk3
  have hs3 := (hs1.out.keep hb2).keep hb3
  have ht3 := (ht2.low hb1.out.size).keep hb3
  have hbase3 : w.heap.size ≤ w3.heap.size := Nat.le_trans hbase2 hb3.size
  have HA := hide (watch_Add hs3 hbase3 (by decide) (by decide) (by decide) (by rfl) (by rfl) (some ⟨w2.heap.size, 0, none⟩) 2 2 [4, 3] (by decide) (rd_blk (l := [4, 3]) hbk3))
  have hb03 := hide ((hb1.out.trans (hb2.mono hb1.out.size)).trans (hb3.mono hbase2))
  replace hs3 := hide hs3
  replace ht3 := hide ht3
  clear hs1 hb1 hb2 hbk3 HN HT ht2
  go_wp2_with fail
  refine HA.out.mono ?_
  rintro e w4 hA
  obtain ⟨rfl, hR⟩ := ready hs3.out ht3.out hA
  have HS := hide (set_first hbase3 hR)
  clear hR hA HA
  go_wp2_with fail
  refine HS.out.mono ?_
  rintro e w5 ⟨rfl, fv, lv, al, b, gc, cap, rest, hT5, hX5, hfv5, hn5, hb5⟩
  have HR := hide (run_ex hX5 hfv5 hT5 hn5)
  have hs5 := hide (Nat.le_trans hbase3 hb5.size)
  replace hb5 := hide hb5
  clear HS hs3 ht3 hX5 hT5 hfv5 hn5
  go_wp2_with fail
  refine HR.out.mono ?_
  rintro e w6 ⟨rfl, lv6, hT6, hb6⟩
  have HV := hide (value_is hT6 (by decide) (x := 4) (v := 1) (by rfl))
  have HW : Hid _ := hide (trail_Why hT6 (by decide) (k := 2) (a := 1) (m := ⟨0, 15, 1⟩) (by rfl) (by decide) (by rfl))
  have hb06 := hide ((hb03.out.trans hb5.out).trans hb6)
  have hs6 := hide (Nat.le_trans hs5.out hb6.size)
  clear HR hT6 hb6 hb5
  go_wp2_with (first | (go_at_call 110; refine HV.out.mono ?_; rintro e w7 ⟨rfl, rfl⟩) | (go_at_call 111; refine HW.out.mono ?_; rintro e w8 ⟨rfl, hb8⟩; replace hb8 := hide hb8))
  go_ret
  exact ⟨rfl, hb06.out.trans (hb8.out.mono hs6.out)⟩
end Go.Proofs.Ytcjoohaagdihlaa.Watch
end

section
/- Both stores of short clauses and the trail in memory, side by side. -/
namespace Go.Proofs.Ytcjoohaagdihlaa.Watch
open Go.RowKit Go.Lt Go.Proofs.Ytcjoohaagdihlaa.Lit Go.Proofs.Ytcjoohaagdihlaa.Sorted Go.Proofs.Ytcjoohaagdihlaa.Learn Go.Instr
open Go.Proofs.Ytcjoohaagdihlaa.Kept (Sl Sl.val)
set_option linter.unusedVariables false
set_option linter.unusedSimpArgs false

abbrev tr (rows : List (List Int)) : List Bool := List.replicate rows.length true
abbrev nilv : Value := .slice none 0 0
theorem tr_add (rows : List (List Int)) (c : List Int) : tr (rows ++ [c]) = tr rows ++ [true] := by
  unfold tr; rw [List.length_append, List.length_singleton, List.replicate_succ']
theorem nil_own (g : Nat) : nilv.ownBlock ≠ some g := by simp [Value.ownBlock]
theorem kept_tr (rows : List (List Int)) (k : Nat) : keptB (tr rows) (k : Int) = decide (k < rows.length) := by
  unfold keptB tr
  rw [Int.toNat_natCast, List.getD_eq_getElem?_getD, decide_eq_true (show (0 : Int) ≤ k by omega), Bool.true_and]
  by_cases h : k < rows.length
  · rw [decide_eq_true h, List.getElem?_replicate_of_lt h]; rfl
  · rw [decide_eq_false h, List.getElem?_eq_none (by simp; omega)]; rfl
/-- what is watched, in memory -/
def WtM (T : Nat → Prop) (W : World) (al : List (Int × Value)) (rows : List (List Int)) : Prop :=
  ∀ (k : Nat) (row : List Int), rows[k]? = some row → ∃ (b : Nat) (sw : Sl), mget al (k : Int) = some (.pointer (some ⟨b, 0, none⟩)) ∧ Blk W b 139 #[sw.val] ∧ KpS W T sw row
structure ShW (base lo : Nat) (T : Nat → Prop) (W : World) (p mA mN mS mB q pt gv gm : Nat) (r1 r2 : List (List Int)) (al nl sl bl : List (Int × Value)) (cv iv lv : Value) (sls : List Sl) (vals : List Int) (mk : List Mk) (ls : List Int) (P : List (Sl × List Int)) : Prop where
  ke : KeM base lo T W p mA mN mS mB 8 nilv al nl sl bl [] r1 (tr r1)
  ks : KeysAre sl (tr r1)
  wt : WtM T W al r1
  sh : ∀ r ∈ r1, ShortC 9 r
  bn : ∀ x v, mget bl x = some v → v = nilv
  re : RefM lo T W q 8 cv iv sls r2 (tr r2)
  tm : TrM lo W pt gv gm 9 lv vals mk ls
  tt : T pt ∧ T gv ∧ T gm
  tv : ∀ g, lv.ownBlock = some g → T g
  pr : ∀ y ∈ P, KpS W T y.1 y.2
  hT : ∀ g, T g → g < W.heap.size
  hl : lo ≤ W.heap.size
  hb : base ≤ lo
def ShB (base lo : Nat) (p mA mN mS mB q pt gv gm : Nat) (r1 r2 : List (List Int)) (vals : List Int) (nls : Nat) (P : List (Sl × List Int)) (W : World) : Prop :=
  ∃ (T : Nat → Prop) (al nl sl bl : List (Int × Value)) (cv iv lv : Value) (sls : List Sl) (mk : List Mk) (ls : List Int), ShW base lo T W p mA mN mS mB q pt gv gm r1 r2 al nl sl bl cv iv lv sls vals mk ls P ∧ ls.length = nls
section
variable {base lo : Nat} {T : Nat → Prop} {W W' : World} {p mA mN mS mB q pt gv gm nls : Nat} {r1 r2 : List (List Int)} {al nl sl bl : List (Int × Value)} {cv iv lv : Value} {sls : List Sl} {vals : List Int} {mk : List Mk} {ls : List Int} {P : List (Sl × List Int)}
theorem WtM.keep (h : WtM T W al r1) (hb : Below W.heap.size W W') : WtM T W' al r1 := fun k row hk => by
  obtain ⟨b, sw, h1, h2, h3⟩ := h k row hk
  exact ⟨b, sw, h1, h2.below hb h2.lt, h3.keep hb⟩
theorem WtM.frm {S : Nat → Prop} (h : WtM T W al r1) (hf : Fr S W W') (hS : ∀ g, S g → T g) (hb : ∀ (b : Nat) (sw : Sl), Blk W b 139 #[sw.val] → ¬ S b) : WtM T W' al r1 := fun k row hk => by
  obtain ⟨b, sw, h1, h2, h3⟩ := h k row hk
  exact ⟨b, sw, h1, hf.blk h2 (hb b sw h2), h3.fr hf hS⟩
theorem WtM.more {T' : Nat → Prop} (h : WtM T W al r1) (hv : ∀ g, T' g → T g ∨ W.heap.size ≤ g) : WtM T' W al r1 := fun k row hk => by
  obtain ⟨b, sw, h1, h2, h3⟩ := h k row hk
  exact ⟨b, sw, h1, h2, h3.more hv⟩
theorem ShW.keep (h : ShW base lo T W p mA mN mS mB q pt gv gm r1 r2 al nl sl bl cv iv lv sls vals mk ls P) (hb : Below W.heap.size W W') : ShW base lo T W' p mA mN mS mB q pt gv gm r1 r2 al nl sl bl cv iv lv sls vals mk ls P :=
  ⟨h.ke.keep hb, h.ks, h.wt.keep hb, h.sh, h.bn, h.re.keep hb, h.tm.keep hb, h.tt, h.tv, fun y hy => (h.pr y hy).keep hb, fun g hg => Nat.lt_of_lt_of_le (h.hT g hg) hb.size, Nat.le_trans h.hl hb.size, h.hb⟩
theorem ShB.keep (h : ShB base lo p mA mN mS mB q pt gv gm r1 r2 vals nls P W) (hb : Below W.heap.size W W') : ShB base lo p mA mN mS mB q pt gv gm r1 r2 vals nls P W' := by
  obtain ⟨T, al, nl, sl, bl, cv, iv, lv, sls, mk, ls, h, hl⟩ := h
  exact ⟨T, al, nl, sl, bl, cv, iv, lv, sls, mk, ls, h.keep hb, hl⟩
/-- one row more that nothing turns -/
theorem ShB.protect (h : ShB base lo p mA mN mS mB q pt gv gm r1 r2 vals nls P W) (hb : Below W.heap.size W W') {s : Sl} {row : List Int} (ho : W'.ownsRow W.heap.size 3 1 s.val s.n (ivs row)) : ShB base lo p mA mN mS mB q pt gv gm r1 r2 vals nls ((s, row) :: P) W' := by
  obtain ⟨T, al, nl, sl, bl, cv, iv, lv, sls, mk, ls, h, hl⟩ := h
  have h' := h.keep hb
  refine ⟨T, al, nl, sl, bl, cv, iv, lv, sls, mk, ls, ⟨h'.ke, h'.ks, h'.wt, h'.sh, h'.bn, h'.re, h'.tm, h'.tt, h'.tv, fun y hy => ?_, h'.hT, h'.hl, h'.hb⟩, hl⟩
  rcases List.mem_cons.1 hy with rfl | hy
  · obtain ⟨A3, c3, e3, _, _, hrd⟩ := Rd.of_own ho
    have hs : s = ⟨A3, s.n, c3⟩ := sl_val e3
    refine ⟨by rw [hs]; exact hrd, fun hn ad he e => ?_⟩
    obtain ⟨A, n, c⟩ := s
    simp only at he hn
    subst he
    rcases own_cases ho with ⟨e4, _⟩ | ⟨g, cap, e4, h1, h2, _⟩
    · simp only [Sl.val] at e4; cases e4
    · simp only [Sl.val] at e4
      injection e4 with e4
      injection e4 with e4
      rw [e4] at e
      have hlt : g < W.heap.size := h.hT _ e
      omega
  · exact h'.pr y hy
/-- a protected row is read -/
theorem ShB.read (h : ShB base lo p mA mN mS mB q pt gv gm r1 r2 vals nls P W) {s : Sl} {row : List Int} (hy : (s, row) ∈ P) : Rd W s.A s.n (ivs row) := by
  obtain ⟨T, al, nl, sl, bl, cv, iv, lv, sls, mk, ls, h, hl⟩ := h
  exact (h.pr _ hy).1
theorem ShB.less (h : ShB base lo p mA mN mS mB q pt gv gm r1 r2 vals nls P W) {P' : List (Sl × List Int)} (hp : ∀ y ∈ P', y ∈ P) : ShB base lo p mA mN mS mB q pt gv gm r1 r2 vals nls P' W := by
  obtain ⟨T, al, nl, sl, bl, cv, iv, lv, sls, mk, ls, h', hl⟩ := h
  exact ⟨T, al, nl, sl, bl, cv, iv, lv, sls, mk, ls, ⟨h'.ke, h'.ks, h'.wt, h'.sh, h'.bn, h'.re, h'.tm, h'.tt, h'.tv, fun y hy => h'.pr y (hp y hy), h'.hT, h'.hl, h'.hb⟩, hl⟩
theorem ShB.base_le (h : ShB base lo p mA mN mS mB q pt gv gm r1 r2 vals nls P W) : base ≤ W.heap.size := by
  obtain ⟨T, al, nl, sl, bl, cv, iv, lv, sls, mk, ls, h, hl⟩ := h
  exact Nat.le_trans h.hb h.hl
theorem ShB.vlen (h : ShB base lo p mA mN mS mB q pt gv gm r1 r2 vals nls P W) : vals.length = 9 := by
  obtain ⟨T, al, nl, sl, bl, cv, iv, lv, sls, mk, ls, h, hl⟩ := h
  exact h.tm.vl
theorem ShB.short (h : ShB base lo p mA mN mS mB q pt gv gm r1 r2 vals nls P W) : ∀ r ∈ r1, ShortC 9 r := by
  obtain ⟨T, al, nl, sl, bl, cv, iv, lv, sls, mk, ls, h, hl⟩ := h
  exact h.sh
/-- the trail's blocks turned -/
theorem set_eq (vals : List Int) (x : Int) : vals.set (x / 2).toNat (1 - x % 2) = setV vals x := by
  unfold setV
  rcases (show x % 2 = 0 ∨ x % 2 = 1 by omega) with e | e <;> rw [e] <;> rfl
theorem shB_Set (h : ShB base lo p mA mN mS mB q pt gv gm r1 r2 vals nls P W) (hn : nls ≤ 1000000) {x : Int} (hv : litV vals x = 2) (hg : litGood x = true) (hx : x / 2 < 9) (why : Int) :
    Calls Try.prog 109 #[.pointer (some ⟨pt, 0, none⟩), .int .i64 x, .int .i64 why] W fun e w' => e = .returned (.int .i64 0) ∧ ShB base lo p mA mN mS mB q pt gv gm r1 r2 (setV vals x) (nls + 1) P w' ∧ Below base W w' := by
  obtain ⟨T, al, nl, sl, bl, cv, iv, lv, sls, mk, ls, h, hl⟩ := h
  refine (trail_SetAt h.tm h.hl (by decide) hv hg hx (by omega) why).mono ?_
  rintro e w' ⟨he, lv', hT, hb, hk, hlv⟩
  have hf : Fr (fun g => g = pt ∨ g = gv ∨ g = gm ∨ lv.ownBlock = some g) W w' := ⟨hb.os, hb.tape, hb.output, hb.size, fun k hk1 hn => hk k (fun e => hn (.inl e)) (fun e => hn (.inr (.inl e))) (fun e => hn (.inr (.inr (.inl e)))) (fun e => hn (.inr (.inr (.inr e.symm)))) hk1⟩
  have h1 : ∀ g, T g → T g ∨ lv'.ownBlock = some g := fun g hg => .inl hg
  have h2 : ∀ g, (T g ∨ lv'.ownBlock = some g) → T g ∨ W.heap.size ≤ g := fun g hg => hg.elim .inl (fun e => (hlv g e).imp (h.tv g) id)
  have hS : ∀ g, (g = pt ∨ g = gv ∨ g = gm ∨ lv.ownBlock = some g) → T g ∨ lv'.ownBlock = some g := fun g e => .inl (by
    rcases e with e | e | e | e
    · exact e ▸ h.tt.1
    · exact e ▸ h.tt.2.1
    · exact e ▸ h.tt.2.2
    · exact h.tv g e)
  have hlo : ∀ g, (g = pt ∨ g = gv ∨ g = gm ∨ lv.ownBlock = some g) → lo ≤ g := fun g e => by
    rcases e with e | e | e | e
    · exact e ▸ h.tm.bp
    · exact e ▸ h.tm.bv
    · exact e ▸ h.tm.bm
    · exact (own_lt h.tm.list e).1
  rw [set_eq] at hT
  refine ⟨he, ⟨_, al, nl, sl, bl, cv, iv, lv', sls, _, _, ⟨(h.ke.more h1 h2).frm hf (fun g e => ⟨hS g e, hlo g e, nil_own g⟩), h.ks, (h.wt.more h2).frm hf hS (fun b sw hbk e => ?_), h.sh, h.bn, (h.re.more h1 h2).fr hf hS (fun e => ?_) (fun g hg e => ?_) (fun g hg e => ?_), hT, ⟨.inl h.tt.1, .inl h.tt.2.1, .inl h.tt.2.2⟩, fun g hg => .inr hg, fun y hy => ((h.pr y hy).more h2).fr hf hS, fun g hg => ?_, Nat.le_trans h.hl hb.size, h.hb⟩, by rw [List.length_append, hl]; rfl⟩, hb.mono h.hb⟩
  · rcases e with e | e | e | e
    · exact blk_ne hbk h.tm.box (by decide) e
    · exact blk_ne hbk h.tm.vals_ (by decide) e
    · exact blk_ne hbk h.tm.marks (by decide) e
    · exact own_blk_ne h.tm.list hbk (by decide) e.symm
  · rcases e with e | e | e | e
    · exact blk_ne h.re.box h.tm.box (by decide) e
    · exact blk_ne h.re.box h.tm.vals_ (by decide) e
    · exact blk_ne h.re.box h.tm.marks (by decide) e
    · exact own_blk_ne h.tm.list h.re.box (by decide) e.symm
  · rcases e with e | e | e | e
    · exact own_off h.re.cs h.tm.box (by decide) g hg e
    · exact own_off h.re.cs h.tm.vals_ (by decide) g hg e
    · exact own_off h.re.cs h.tm.marks (by decide) g hg e
    · exact own_two h.re.cs h.tm.list (by decide) g hg e
  · rcases e with e | e | e | e
    · exact own_off h.re.ib h.tm.box (by decide) g hg e
    · exact own_off h.re.ib h.tm.vals_ (by decide) g hg e
    · exact own_off h.re.ib h.tm.marks (by decide) g hg e
    · exact own_two h.re.ib h.tm.list (by decide) g hg e
  · rcases hg with hg | hg
    · exact Nat.lt_of_lt_of_le (h.hT g hg) hb.size
    · exact (own_lt hT.list hg).2
theorem shB_SetNo (h : ShB base lo p mA mN mS mB q pt gv gm r1 r2 vals nls P W) {x v : Int} (hv : litV vals x = v) (hx0 : 0 ≤ x) (hx : x / 2 < 9) (hv2 : v = 0 ∨ v = 1) (why : Int) :
    Calls Try.prog 109 #[.pointer (some ⟨pt, 0, none⟩), .int .i64 x, .int .i64 why] W fun e w' => e = .returned (.int .i64 (if v = 1 then 7 else 11)) ∧ W = w' := by
  obtain ⟨T, al, nl, sl, bl, cv, iv, lv, sls, mk, ls, h, hl⟩ := h
  exact trail_Set_no h.tm (by decide) hv hx0 hx hv2 why
theorem shB_Len (h : ShB base lo p mA mN mS mB q pt gv gm r1 r2 vals nls P W) : Calls Try.prog 62 #[.pointer (some ⟨pt, 0, none⟩)] W fun e w' => e = .returned (.int .i64 nls) ∧ W = w' := by
  obtain ⟨T, al, nl, sl, bl, cv, iv, lv, sls, mk, ls, h, hl⟩ := h
  have := trail_Len h.tm
  rw [hl] at this
  exact this
theorem shB_why (h : ShB base lo p mA mN mS mB q pt gv gm r1 r2 vals nls P W) (id : Int) (hid : 0 ≤ id ∧ id ≤ 1000000) :
    Calls Try.prog 116 #[.pointer (some ⟨p, 0, none⟩), .int .i64 id] W fun e w' => e = .returned (.int .i64 (27 + id)) ∧ W = w' := by
  obtain ⟨T, al, nl, sl, bl, cv, iv, lv, sls, mk, ls, h, hl⟩ := h
  have := why_is h.ke.st.box (by decide) id hid
  exact this
/-- what was set, as a list -/
theorem shB_List (h : ShB base lo p mA mN mS mB q pt gv gm r1 r2 vals nls P W) (hn : nls ≤ 1000000) : Calls Try.prog 118 #[.pointer (some ⟨pt, 0, none⟩)] W fun e w' => ∃ (A : Option Addr) (c : Nat) (ls : List Int), e = .returned (.slice A nls c) ∧ Rd w' A nls (ivs ls) ∧ Below W.heap.size W w' := by
  obtain ⟨T, al, nl, sl, bl, cv, iv, lv, sls, mk, ls, h, hl⟩ := h
  refine (trail_List h.tm (by omega)).mono ?_
  rintro e w' ⟨A, c, he, hr, hb⟩
  rw [hl] at he hr
  exact ⟨A, c, ls, he, hr, hb⟩
set_option maxRecDepth 8000 in
theorem trail_Values (h : TrM base W pt gv gm 9 lv vals mk ls) :
    Calls Try.prog 59 #[.pointer (some ⟨pt, 0, none⟩)] W fun e w' => ∃ A c, e = .returned (.slice A 9 c) ∧ Rd w' A 9 (ivs vals) ∧ Below W.heap.size W w' := by
  have b0 := h.box.cell 0
  have HC := hide (slices_Clone (some ⟨gv, 0, none⟩) 9 9 vals W (by decide) h.rd)
  clear h
  go_enter Try.func59, Try.ntmps59
  go_wp2_with fail
  refine HC.out.mono ?_
  rintro e w2 ⟨v, rfl, hown, hb⟩
  obtain ⟨A3, c3, rfl, _, _, hr3⟩ := Rd.of_own hown
  clear hown
  replace hb := hide hb
  replace hr3 := hide hr3
  go_wp2
  go_ret
  exact ⟨A3, c3, rfl, hr3.out, hb.out⟩
theorem shB_Values (h : ShB base lo p mA mN mS mB q pt gv gm r1 r2 vals nls P W) : Calls Try.prog 59 #[.pointer (some ⟨pt, 0, none⟩)] W fun e w' => ∃ A c, e = .returned (.slice A 9 c) ∧ Rd w' A 9 (ivs vals) ∧ Below W.heap.size W w' := by
  obtain ⟨T, al, nl, sl, bl, cv, iv, lv, sls, mk, ls, h, hl⟩ := h
  exact trail_Values h.tm
set_option maxRecDepth 8000 in
theorem trail_Back0 (h : TrM base W pt gv gm 9 lv vals mk ls) :
    Calls Try.prog 63 #[.pointer (some ⟨pt, 0, none⟩), .int .i64 0] W fun e w' => e = .returned (.tuple #[]) ∧ W = w' := by
  have HL := hide (trail_Level h)
  clear h
  go_enter Try.func63, Try.ntmps63
  go_wp2_with (go_at_call 120; refine HL.out.mono ?_; rintro e w2 ⟨rfl, rfl⟩)
  refine bodyPost_ret (v := .tuple #[]) (by simp [results, Try.results63, go_sem]) rfl ?_
  exact ⟨rfl, rfl⟩
theorem shB_Back (h : ShB base lo p mA mN mS mB q pt gv gm r1 r2 vals nls P W) : Calls Try.prog 63 #[.pointer (some ⟨pt, 0, none⟩), .int .i64 0] W fun e w' => e = .returned (.tuple #[]) ∧ W = w' := by
  obtain ⟨T, al, nl, sl, bl, cv, iv, lv, sls, mk, ls, h, hl⟩ := h
  exact trail_Back0 h.tm
theorem shB_Kept (h : ShB base lo p mA mN mS mB q pt gv gm r1 r2 vals nls P W) (hr : r2.length ≤ 1000) :
    Calls Try.prog 60 #[.pointer (some ⟨q, 0, none⟩)] W fun e w' => ∃ A c, e = .returned (.slice A r2.length c) ∧ RdR w' A r2.length r2 ∧ Below W.heap.size W w' := by
  obtain ⟨T, al, nl, sl, bl, cv, iv, lv, sls, mk, ls, h, hl⟩ := h
  exact ref25_Kept h.re hr (fun k hk => List.getElem?_replicate_of_lt hk)
/-- a literal's list of clauses is told anew: none -/
theorem shB_put (h : ShB base lo p mA mN mS mB q pt gv gm r1 r2 vals nls P W) (y : Int) : ∃ bl, MapS W Lt.encI mB bl ∧ (mget bl y).getD nilv = nilv ∧ ∀ w', MapS w' Lt.encI mB (mput bl y nilv) → W.grownBy w' (some mB) → ShB base lo p mA mN mS mB q pt gv gm r1 r2 vals nls P w' ∧ Below base W w' := by
  obtain ⟨T, al, nl, sl, bl, cv, iv, lv, sls, mk, ls, h, hl⟩ := h
  refine ⟨bl, h.ke.st.by_, ?_, fun w' hm hg => ?_⟩
  · cases hmg : mget bl y with
    | none => rfl
    | some v => rw [h.bn y v hmg]; rfl
  · have hf : Fr (fun g => g = mB) W w' := Fr.of_grown hg (fun g e => .inl (by cases e; rfl))
    have hbl : Below base W w' := hf.below (Nat.le_trans h.hb h.hl) (fun g e => by rw [e]; exact h.ke.st.lo.2.2.2.2)
    obtain ⟨l1, l2, l3, l4, l5⟩ := h.ke.lt
    obtain ⟨d1, d2, d3, d4, d5, d6⟩ := h.ke.st.d1
    have hst := h.ke.st
    have hS : ∀ g, g = mB → T g := fun g e => h.ke.tl g (by omega)
    refine ⟨⟨T, al, nl, sl, _, cv, iv, lv, sls, mk, ls, ⟨⟨⟨hf.blk hst.box (fun e => map_blk hst.by_ hst.box e), map_fr hst.all hf d3, map_fr hst.norms hf d5, map_fr hst.short hf d6, hm, hf.own hst.fresh (fun g hg => absurd hg (nil_own g)), hst.d1, hst.lo⟩, h.ke.ka, h.ke.va, h.ke.kn, fun x v hx => let ⟨s, e, k⟩ := h.ke.vn x v hx; ⟨s, e, k.fr hf hS⟩, h.ke.il, h.ke.fl, h.ke.lt, h.ke.tl, h.ke.tf⟩, h.ks, h.wt.frm hf hS (fun b sw hbk e => map_blk hst.by_ hbk e), h.sh, fun x v hx => ?_, h.re.fr hf hS (fun e => by have := h.re.lq; omega) (fun g hg e => by have := (own_lt h.re.cs hg).1; omega) (fun g hg e => by have := (own_lt h.re.ib hg).1; omega), h.tm.map hst.by_ hf, h.tt, h.tv, fun z hz => (h.pr z hz).fr hf hS, fun g hg => Nat.lt_of_lt_of_le (h.hT g hg) hbl.size, Nat.le_trans h.hl hbl.size, h.hb⟩, hl⟩, hbl⟩
    rw [mget_mput] at hx
    by_cases e : y = x
    · rw [if_pos e] at hx; injection hx with hx; exact hx.symm
    · rw [if_neg e] at hx; exact h.bn x v hx
end
end Go.Proofs.Ytcjoohaagdihlaa.Watch
end

section
/- Short clauses are put into both stores. -/
namespace Go.Proofs.Ytcjoohaagdihlaa.Watch
open Go.RowKit Go.Lt Go.Proofs.Ytcjoohaagdihlaa.Lit Go.Proofs.Ytcjoohaagdihlaa.Sorted Go.Proofs.Ytcjoohaagdihlaa.Learn Go.Instr
open Go.Proofs.Ytcjoohaagdihlaa.Kept (Sl Sl.val)
set_option linter.unusedVariables false
set_option linter.unusedSimpArgs false

theorem kps_own {W : World} {B n : Nat} {T : Nat → Prop} {s : Sl} {row : List Int} (ho : W.ownsRow B 3 1 s.val n (ivs row)) (hT : ∀ g, T g → g < B) : KpS W T s row := by
  obtain ⟨A3, c3, e3, _, _, hrd⟩ := Rd.of_own ho
  have hs : s = ⟨A3, n, c3⟩ := sl_val e3
  subst hs
  refine ⟨hrd, fun hn ad he e => ?_⟩
  simp only at he hn
  subst he
  rcases own_cases ho with ⟨e4, _⟩ | ⟨g, cap, e4, h1, h2, _⟩
  · simp only [Sl.val] at e4; cases e4
  · simp only [Sl.val] at e4
    injection e4 with e4
    injection e4 with e4
    rw [e4] at e
    have hlt : g < B := hT _ e
    omega
theorem normC_len (l : List Int) : (normC l).length ≤ l.length := by
  have h2 : (normC l).length ≤ (srt l).length := List.length_filter_le _ _
  have h3 := srt_len l
  omega
theorem normC_short {l : List Int} (hl : l.length ≤ 1) (hf : okF 8 l = true) : ShortC 9 (normC l) := by
  unfold okF at hf
  rw [Bool.and_eq_true] at hf
  have h1 := normC_len l
  have hp := normC_pos hf.1
  have hfit := hf.2
  unfold fitC at hfit
  rw [List.all_eq_true] at hfit
  match hn : normC l, h1 with
  | [], _ => exact ⟨.inl rfl⟩
  | [x], _ =>
    have hx : x ∈ normC l := by rw [hn]; exact List.mem_singleton_self x
    have h2 := hp x hx
    have h3 : x ≤ 2 * 8 + 1 := by simpa using hfit x hx
    exact ⟨.inr ⟨x, rfl, h2.1, by omega, good_iff.2 ⟨by omega, h2.2⟩⟩⟩
  | x :: y :: r, h => simp at h; omega
section
variable {base lo : Nat} {W W' : World} {p mA mN mS mB q pt gv gm nls : Nat} {r1 r2 : List (List Int)} {vals : List Int} {P : List (Sl × List Int)}
theorem shB_Add (h : ShB base lo p mA mN mS mB q pt gv gm r1 r2 vals nls P W) (hr1 : r1.length ≤ 1000) (A : Option Addr) (m c : Nat) (l : List Int) (hm : m ≤ 1) (hr : Rd W A m (ivs l)) :
    Calls Try.prog 57 #[.pointer (some ⟨p, 0, none⟩), .slice A m c] W fun e w' => e = .returned (.int .i64 (addV 8 r1 l)) ∧ ShB base lo p mA mN mS mB q pt gv gm (addP 8 r1 l) r2 vals nls P w' ∧ Below base W w' := by
  have hll : l.length ≤ 1 := by rw [hr.len]; exact hm
  obtain ⟨T, al, nl, sl, bl, cv, iv, lv, sls, mk, ls, h, hl⟩ := h
  have hnk : keptB (tr r1) (r1.length : Int) = false := by rw [kept_tr]; exact decide_eq_false (Nat.lt_irrefl _)
  refine (watch_Add2 h.ke.st (Nat.le_trans h.hb h.hl) (by decide) (by omega) (by decide) (find_of_get (h.ke.ka.no hnk)) (find_of_get (h.ke.kn.no hnk)) A m c l (by omega) hr).mono ?_
  rintro e w' (⟨h1, h2, h3, h4⟩ | ⟨h1, h2, fv', s, sw, b, q1, q2, q3, q4, q5, q6, q7, q8, q9, q10, q11, q12⟩)
  · have hf : okF 8 l = false := h1
    rw [addV_no hf, addP_no hf]
    exact ⟨h2, ⟨T, al, nl, sl, bl, cv, iv, lv, sls, mk, ls, h.keep h4, hl⟩, h4.mono (Nat.le_trans h.hb h.hl)⟩
  · have hf : okF 8 l = true := h1
    have hln := normC_len l
    have hlt : (normC l).length < 2 := by omega
    have hfv := q12 hlt
    subst hfv
    rw [if_pos hlt, if_pos hlt] at q1
    rw [addV_yes hf, addP_yes hf]
    obtain ⟨l1, l2, l3, l4, l5⟩ := h.ke.lt
    have hF : Fr (fun g => g < lo) W w' := q9.more (fun g _ e => by
      rcases e with e | e | e | e | e
      · omega
      · omega
      · omega
      · omega
      · exact absurd e (nil_own g))
    have hil : (tr r1).length = r1.length := by simp
    have hpr : ∀ {s : Sl} {row : List Int}, KpS W T s row → KpS w' T s row := fun k => k.fr hF h.ke.tl
    have hka := h.ke.ka.add (.pointer (some ⟨b, 0, none⟩))
    have hkn := h.ke.kn.add s.val
    have hks := h.ks.add (.bool true)
    rw [hil, ← tr_add r1 (normC l)] at hka hkn hks
    refine ⟨h2, ⟨T, _, _, _, bl, cv, iv, lv, sls, mk, ls, ⟨⟨by rw [List.length_append]; exact q1, hka, fun x v hx => ?_, hkn, fun x v hx => ?_, by simp, Nat.zero_le _, h.ke.lt, h.ke.tl, h.ke.tf⟩, hks, fun k row hk => ?_, fun r hr => ?_, h.bn, h.re.fr hF h.ke.tl (fun e => by have := h.re.lq; omega) (fun g hg e => by have := (own_lt h.re.cs hg).1; omega) (fun g hg e => by have := (own_lt h.re.ib hg).1; omega), h.tm.fr hF (fun e => by have := h.tm.bp; omega) (fun e => by have := h.tm.bv; omega) (fun e => by have := h.tm.bm; omega) (fun g hg e => by have := (own_lt h.tm.list hg).1; omega), h.tt, h.tv, fun y hy => hpr (h.pr y hy), fun g hg => Nat.lt_of_lt_of_le (h.hT g hg) q8.size, Nat.le_trans h.hl q8.size, h.hb⟩, hl⟩, q8⟩
    · rw [mget_mput] at hx
      by_cases e : (r1.length : Int) = x
      · rw [if_pos e] at hx; injection hx with hx; exact ⟨b, hx.symm⟩
      · rw [if_neg e] at hx; exact h.ke.va x v hx
    · rw [mget_mput] at hx
      by_cases e : (r1.length : Int) = x
      · rw [if_pos e] at hx
        injection hx with hx
        subst e
        refine ⟨s, hx.symm, ?_, fun hn ad he e => by have h7 := q7 ad he; have h8 := h.hT _ e; omega⟩
        rw [Int.toNat_natCast, List.getD_eq_getElem?_getD, List.getElem?_append_right (Nat.le_refl _), Nat.sub_self]
        exact q6
      · rw [if_neg e] at hx
        obtain ⟨s0, e0, k0⟩ := h.ke.vn x v hx
        have hx2 : keptB (tr r1) x = true := by rw [← h.ke.kn x, hx]; rfl
        obtain ⟨_, hlt2, _⟩ := kept_lt hx2
        rw [hil] at hlt2
        refine ⟨s0, e0, ?_⟩
        rw [List.getD_eq_getElem?_getD, List.getElem?_append_left (by omega), ← List.getD_eq_getElem?_getD]
        exact hpr k0
    · rcases Nat.lt_trichotomy k r1.length with hj | hj | hj
      · rw [List.getElem?_append_left hj] at hk
        obtain ⟨b0, sw0, g1, g2, g3⟩ := h.wt k row hk
        refine ⟨b0, sw0, ?_, q9.blk g2 (fun e => ?_), hpr g3⟩
        · rw [mget_mput, if_neg (by omega)]; exact g1
        · rcases e with e | e | e | e | e
          · exact blk_ne g2 h.ke.st.box (by decide) e
          · exact map_blk h.ke.st.all g2 e
          · exact map_blk h.ke.st.norms g2 e
          · exact map_blk h.ke.st.short g2 e
          · exact absurd e (nil_own b0)
      · subst hj
        rw [List.getElem?_append_right (Nat.le_refl _), Nat.sub_self] at hk
        injection hk with hk
        subst hk
        exact ⟨b, sw, by rw [mget_mput, if_pos rfl], q2, kps_own q4 h.hT⟩
      · rw [List.getElem?_eq_none (by rw [List.length_append]; simp; omega)] at hk
        cases hk
    · rcases List.mem_append.1 hr with hr | hr
      · exact h.sh r hr
      · rw [List.mem_singleton] at hr; subst hr; exact normC_short hll hf
theorem shB_RefAdd (h : ShB base lo p mA mN mS mB q pt gv gm r1 r2 vals nls P W) (hr2 : r2.length ≤ 1000) (A : Option Addr) (m c : Nat) (l : List Int) (hm : m ≤ 1) (hr : Rd W A m (ivs l)) :
    Calls Try.prog 58 #[.pointer (some ⟨q, 0, none⟩), .slice A m c] W fun e w' => e = .returned (.int .i64 (addV 8 r2 l)) ∧ ShB base lo p mA mN mS mB q pt gv gm r1 (addP 8 r2 l) vals nls P w' ∧ Below base W w' := by
  obtain ⟨T, al, nl, sl, bl, cv, iv, lv, sls, mk, ls, h, hl⟩ := h
  refine (ref25_Add h.re h.hT h.hl (by decide) hr2 A m c l (by omega) hr).mono ?_
  rintro e w' (⟨hf, he, hK, hb⟩ | ⟨hf, he, cv', iv', s, hK, hF, hv1, hv2⟩)
  · rw [addV_no hf, addP_no hf]
    have hk := h.keep hb
    exact ⟨he, ⟨T, al, nl, sl, bl, cv, iv, lv, sls, mk, ls, ⟨hk.ke, hk.ks, hk.wt, hk.sh, hk.bn, hK, hk.tm, hk.tt, hk.tv, hk.pr, hk.hT, hk.hl, hk.hb⟩, hl⟩, hb.mono (Nat.le_trans h.hb h.hl)⟩
  · rw [addV_yes hf, addP_yes hf]
    have hb : Below base W w' := hF.below (Nat.le_trans h.hb h.hl) (fun g e => by
      have := h.hb
      rcases e with e | e | e
      · have := h.re.lq; omega
      · have := (own_lt h.re.cs e).1; omega
      · have := (own_lt h.re.ib e).1; omega)
    have h1 : ∀ g, T g → T g ∨ cv'.ownBlock = some g ∨ iv'.ownBlock = some g := fun g hg => .inl hg
    have h2 : ∀ g, (T g ∨ cv'.ownBlock = some g ∨ iv'.ownBlock = some g) → T g ∨ W.heap.size ≤ g := fun g hg => hg.elim .inl (fun e => e.elim (hv1 g) (hv2 g))
    have hS : ∀ g, (g = q ∨ cv.ownBlock = some g ∨ iv.ownBlock = some g) → T g ∨ cv'.ownBlock = some g ∨ iv'.ownBlock = some g := fun g e => .inl (by
      rcases e with e | e | e
      · exact e ▸ h.re.tq
      · exact h.re.tc g e
      · exact h.re.ti g e)
    have h2m : RefM lo (fun g => T g ∨ cv'.ownBlock = some g ∨ iv'.ownBlock = some g) W q 8 cv iv sls r2 (tr r2) := h.re.more h1 h2
    rw [← tr_add r2 (normC l)] at hK
    refine ⟨he, ⟨_, al, nl, sl, bl, cv', iv', lv, _, mk, ls, ⟨(h.ke.more h1 h2).ref h2m hF, h.ks, (h.wt.more h2).frm hF hS (fun b sw hbk e => ?_), h.sh, h.bn, hK, h.tm.fr hF (fun e => ?_) (fun e => ?_) (fun e => ?_) (fun g hg e => ?_), ⟨.inl h.tt.1, .inl h.tt.2.1, .inl h.tt.2.2⟩, fun g hg => .inl (h.tv g hg), fun y hy => ((h.pr y hy).more h2).fr hF hS, fun g hg => ?_, Nat.le_trans h.hl hb.size, h.hb⟩, hl⟩, hb⟩
    · rcases e with e | e | e
      · exact blk_ne hbk h.re.box (by decide) e
      · exact own_blk_ne h.re.cs hbk (by decide) e.symm
      · exact own_blk_ne h.re.ib hbk (by decide) e.symm
    · rcases e with e | e | e
      · exact blk_ne h.tm.box h.re.box (by decide) e
      · exact own_blk_ne h.re.cs h.tm.box (by decide) e.symm
      · exact own_blk_ne h.re.ib h.tm.box (by decide) e.symm
    · rcases e with e | e | e
      · exact blk_ne h.tm.vals_ h.re.box (by decide) e
      · exact own_blk_ne h.re.cs h.tm.vals_ (by decide) e.symm
      · exact own_blk_ne h.re.ib h.tm.vals_ (by decide) e.symm
    · rcases e with e | e | e
      · exact blk_ne h.tm.marks h.re.box (by decide) e
      · exact own_blk_ne h.re.cs h.tm.marks (by decide) e.symm
      · exact own_blk_ne h.re.ib h.tm.marks (by decide) e.symm
    · rcases e with e | e | e
      · exact own_off h.tm.list h.re.box (by decide) g hg e
      · exact own_two h.tm.list h.re.cs (by decide) g hg e
      · exact own_two h.tm.list h.re.ib (by decide) g hg e
    · rcases hg with hg | hg | hg
      · exact Nat.lt_of_lt_of_le (h.hT g hg) hb.size
      · exact (own_lt hK.cs hg).2
      · exact (own_lt hK.ib hg).2
/-- all, new -/
theorem shB_new {w1 w2 : World} {vs : List Int} {mk : List Mk} (h : StM base w1 p mA mN mS mB 8 0 nilv [] [] [] [] []) (hbase : base ≤ w1.heap.size) (ht : TrM w1.heap.size w2 pt gv gm 9 nilv vs mk []) (hb12 : Below w1.heap.size w1 w2) (hb : Below w2.heap.size w2 W) (hq : Blk W q 87 (boxR 8 nilv nilv)) (hql : w2.heap.size ≤ q) :
    ShB base w1.heap.size p mA mN mS mB q pt gv gm [] [] vs 0 [] W := by
  have hb1 : Below w1.heap.size w1 W := hb12.trans (hb.mono hb12.size)
  have hk := (KeM.new h (Nat.le_refl _)).keep hb1
  have htm := ht.keep hb
  have hs2 := hb12.size
  refine ⟨fun g => g < w1.heap.size ∨ g = q ∨ g = pt ∨ g = gv ∨ g = gm, [], [], [], [], nilv, nilv, nilv, [], mk, [], ⟨⟨hk.st, hk.ka, hk.va, hk.kn, fun x v hx => by simp [mget] at hx, hk.il, hk.fl, hk.lt, fun g hg => .inl hg, fun g hg => absurd hg (nil_own g)⟩, KeysAre.nil, fun k row hk => by simp at hk, fun r hr => (by cases hr), fun x v hx => by simp [mget] at hx, ⟨hq, World.ownsRow_nil _ _ _ _, World.ownsRow_nil _ _ _ _, by omega, rfl, fun k s row hs => by simp at hs, .inr (.inl rfl), fun g hg => absurd hg (nil_own g), fun g hg => absurd hg (nil_own g)⟩, htm, ⟨.inr (.inr (.inl rfl)), .inr (.inr (.inr (.inl rfl))), .inr (.inr (.inr (.inr rfl)))⟩, fun g hg => absurd hg (nil_own g), fun y hy => (by cases hy), fun g hg => ?_, hb1.size, hbase⟩, rfl⟩
  rcases hg with hg | hg | hg | hg | hg
  · exact Nat.lt_of_lt_of_le hg hb1.size
  · rw [hg]; exact hq.lt
  · rw [hg]; exact htm.box.lt
  · rw [hg]; exact htm.vals_.lt
  · rw [hg]; exact htm.marks.lt
end
end Go.Proofs.Ytcjoohaagdihlaa.Watch
end
