/- Texts behind a row, one behind the other: Lives25. -/
import Derived.Test.YtcjoohaagdihlaaWK25
import Derived.Test.YtcjoohaagdihlaaWK12
section
/- latchetlaw25's lives. -/
namespace Go.Proofs.Ytcjoohaagdihlaa.Watch
open Go.RowKit Go.Lt Go.Proofs.Ytcjoohaagdihlaa.Lit Go.Proofs.Ytcjoohaagdihlaa.Sorted Go.Proofs.Ytcjoohaagdihlaa.Learn Go.Instr
open Go.Proofs.Ytcjoohaagdihlaa.Kept (Sl Sl.val)
set_option linter.unusedVariables false
set_option linter.unusedSimpArgs false

theorem rd_blk {W : World} {g : Nat} {t : TypeId} {l : List Int} (h : Blk W g t (ivs l).toArray) : Rd W (some ⟨g, 0, none⟩) l.length (ivs l) := by
  refine ⟨by simp [ivs], fun k hk => ?_⟩
  have hkl : k < (ivs l).length := by simpa [ivs] using hk
  refine ⟨_, (ivs l)[k], rfl, h.lt, List.getElem?_eq_getElem hkl, ?_⟩
  have : (⟨g, 0, none⟩ : Addr).add k = ⟨g, k, none⟩ := by unfold Addr.add; split <;> simp_all
  rw [this, blk_list h k, List.getElem?_eq_getElem hkl]
theorem own_blk2 {W : World} {base : Nat} {v : Value} {a b : Value} (h : W.ownsRow base 3 1 v 2 [a, b]) : ∃ g cap rest, v = .slice (some ⟨g, 0, none⟩) 2 cap ∧ base ≤ g ∧ 2 ≤ cap ∧ cap ≤ maxLen ∧ Blk W g 3 (a :: b :: rest).toArray := by
  rcases h.2 with ⟨_, h0⟩ | ⟨g, cap, cur, h1, h2, h3, h4, h5, h6, h7⟩
  · cases h0
  · refine ⟨g, cap, cur.toList.drop 2, h1, h2, h4, h5, ?_⟩
    have : cur = (a :: b :: cur.toList.drop 2).toArray := by
      apply Array.ext'
      have := (List.take_append_drop 2 cur.toList).symm
      rw [this]
      rw [show (2 : Nat) = 2 * 1 from rfl, h7]
      simp
    unfold Blk
    rw [← this]
    exact h3
abbrev vals0 : List Int := [0, 2, 2, 2, 2]
abbrev mk0 : List Mk := [⟨0, -1, -1⟩, zMk, zMk, zMk, zMk]
theorem TrM.low {base base' : Nat} {W : World} {p gv gm N : Nat} {lv : Value} {vals : List Int} {mk : List Mk} {ls : List Int} (h : TrM base W p gv gm N lv vals mk ls) (hb : base' ≤ base) : TrM base' W p gv gm N lv vals mk ls :=
  ⟨h.box, h.vals_, h.marks, h.vl, h.ml, own_base h.list hb, h.ne, Nat.le_trans hb h.bp, Nat.le_trans hb h.bv, Nat.le_trans hb h.bm⟩
theorem norm43 : normC [4, 3] = [3, 4] := by decide
theorem ok43 : (okC [4, 3] && fitC 4 [4, 3]) = true := by decide
/-- behind the example's Add -/
def ReadyIs (base : Nat) (W : World) (p mA mN mS mB pt gv gm : Nat) (w4 : World) : Prop :=
  ∃ (fv : Value) (al : List (Int × Value)) (b gc cap : Nat) (rest : List Value), TrM base w4 pt gv gm 5 (.slice none 0 0) vals0 mk0 [] ∧ ExM base w4 p mA mN mS mB b gc cap fv al [] 3 4 rest ∧ w4.ownsRow base 3 1 fv 1 (ivs [0]) ∧ (∀ g, fv.ownBlock = some g → W.heap.size ≤ g) ∧ W.heap.size ≤ gc ∧ gv < W.heap.size ∧ Below base W w4
theorem ready {base : Nat} {W w4 : World} {p mA mN mS mB pt gv gm : Nat} {e : Ending} (hs : StM base W p mA mN mS mB 4 0 (.slice none 0 0) [] [] [] [] []) (ht : TrM base W pt gv gm 5 (.slice none 0 0) vals0 mk0 [])
    (hA : AddIs base W p mA mN mS mB 4 0 (.slice none 0 0) [] [] [] [] [] [4, 3] e w4) : e = .returned (.int .i64 0) ∧ ReadyIs base W p mA mN mS mB pt gv gm w4 := by
  rcases hA with ⟨h1, _⟩ | ⟨_, rfl, fv, s, sw, b, hS, hb, hbl, how, _, _, _, hbb, hfr, hfv⟩
  · rw [ok43] at h1; cases h1
  · rw [norm43] at hS how
    obtain ⟨gc, cap, rest, hv, hgc, hc2, hcm, hl⟩ := own_blk2 how
    rw [hv] at hb
    have hlo := hS.lo
    refine ⟨rfl, fv, _, b, gc, cap, rest, ht.fr hfr ?_ ?_ ?_ ?_, ⟨hS.box, hS.all, hS.short, hS.by_, hb, hl, rfl, ⟨hS.d1.2.2.1, hS.d1.2.2.2.2.2⟩, ⟨hlo.1, hlo.2.1, hlo.2.2.2.1, hlo.2.2.2.2, Nat.le_trans ?_ hbl, Nat.le_trans ?_ hgc⟩, hc2, hcm⟩, hS.fresh, ?_, hgc, ht.vals_.lt, hbb⟩
    · rintro (e | e | e | e | e)
      · exact blk_ne ht.box hs.box (by decide) e
      · exact map_blk hs.all ht.box e
      · exact map_blk hs.norms ht.box e
      · exact map_blk hs.short ht.box e
      · cases e
    · rintro (e | e | e | e | e)
      · exact blk_ne ht.vals_ hs.box (by decide) e
      · exact map_blk hs.all ht.vals_ e
      · exact map_blk hs.norms ht.vals_ e
      · exact map_blk hs.short ht.vals_ e
      · cases e
    · rintro (e | e | e | e | e)
      · exact blk_ne ht.marks hs.box (by decide) e
      · exact map_blk hs.all ht.marks e
      · exact map_blk hs.norms ht.marks e
      · exact map_blk hs.short ht.marks e
      · cases e
    · intro g hg; cases hg
    · exact Nat.le_trans hs.lo.1 (Nat.le_of_lt hs.box.lt)
    · exact Nat.le_trans hs.lo.1 (Nat.le_of_lt hs.box.lt)
    · intro g hg
      rcases hfv g hg with h | h
      · cases h
      · exact h
/-- behind the example's Set -/
def SetIs (base : Nat) (W : World) (p mA mN mS mB pt gv gm : Nat) (w5 : World) : Prop :=
  ∃ (fv lv : Value) (al : List (Int × Value)) (b gc cap : Nat) (rest : List Value), TrM base w5 pt gv gm 5 lv vals1 mk1 [2] ∧ ExM base w5 p mA mN mS mB b gc cap fv al [] 3 4 rest ∧ w5.ownsRow base 3 1 fv 1 (ivs [0]) ∧ (gc ≠ gv ∧ some gc ≠ lv.ownBlock) ∧ Below base W w5
theorem set_first {base : Nat} {W w4 : World} {p mA mN mS mB pt gv gm : Nat} (hbase : base ≤ W.heap.size) (h : ReadyIs base W p mA mN mS mB pt gv gm w4) :
    Calls Try.prog 109 #[.pointer (some ⟨pt, 0, none⟩), .int .i64 2, .int .i64 (-1)] w4 fun e w5 => e = .returned (.int .i64 0) ∧ SetIs base W p mA mN mS mB pt gv gm w5 := by
  obtain ⟨fv, al, b, gc, cap, rest, hT, hX, hfv, hfl, hgc, hgv, hb⟩ := h
  refine (trail_Set hT (Nat.le_trans hbase hb.size) (by decide) (x := 2) (by rfl) (by rfl) (by decide) (by decide) (-1)).mono ?_
  rintro e w5 ⟨rfl, lv, hT5, hb5, hk⟩
  have hX5 : ExM base w5 p mA mN mS mB b gc cap fv al [] 3 4 rest := hX.far hT ⟨by omega, fun e => by cases e⟩ hk
  have hfr : Fr (fun g => g = pt ∨ g = gv ∨ g = gm) w4 w5 := ⟨hb5.os, hb5.tape, hb5.output, hb5.size, fun k hk1 hn => hk k (fun e => hn (.inl e)) (fun e => hn (.inr (.inl e))) (fun e => hn (.inr (.inr e))) (fun e => by cases e) hk1⟩
  refine ⟨rfl, fv, lv, al, b, gc, cap, rest, hT5, hX5, hfr.own hfv (fun g hg e => ?_), ⟨by omega, fun e => ?_⟩, hb.trans hb5⟩
  · rcases e with e | e | e
    · exact own_blk_ne hfv hT.box (by decide) (by rw [hg, e])
    · have := hfl g hg; omega
    · exact own_blk_ne hfv hT.marks (by decide) (by rw [hg, e])
  · obtain ⟨g, c, h1, _, _⟩ := own_some (n := 0) hT5.list
    rw [h1] at e
    have eg : gc = g := by simpa [Value.ownBlock] using e
    have hl := hT5.list
    rw [h1] at hl
    have c1 := own_cell hl 0 (by decide)
    have c2 : w5.cell? ⟨gc, 0, none⟩ = some (.int .i64 3) := blk_list hX5.lits 0
    rw [eg, c1] at c2
    injection c2 with c2
    injection c2 with _ c2
    exact absurd c2 (by decide)
set_option maxRecDepth 8000 in
theorem lives25 (w : World) : Calls Try.prog 54 #[] w fun e w' => e = .returned (.bool true) ∧ Below w.heap.size w w' := by
  have HN := hide (watch_New 4 (by decide) w)
  go_enter Try.func54, Try.ntmps54
  go_wp2_with fail
  refine HN.out.mono ?_
  rintro e w1 ⟨p, mA, mN, mS, mB, rfl, hs1, hb1⟩
  have HT : Hid _ := hide (trail_New 4 (by decide) w1)
  replace hs1 := hide hs1
  replace hb1 := hide hb1
  go_wp2_with fail
  refine HT.out.mono ?_
  rintro e w2 ⟨pt, gv, gm, rfl, ht2, hb2⟩
  have hbase2 : w.heap.size ≤ w2.heap.size := Nat.le_trans hb1.out.size hb2.size
  obtain ⟨w3, hw3⟩ : ∃ w3, w2.alloc (.cells #[.int .i64 4, .int .i64 3] 3) = w3 := ⟨_, rfl⟩
  have hb3 := (Below.refl w2.heap.size w2).alloc (Nat.le_refl _) (.cells #[.int .i64 4, .int .i64 3] 3)
  have hbk3 := Blk.new w2 3 #[.int .i64 4, .int .i64 3]
  rw [hw3] at hb3 hbk3
  have hs3 := (hs1.out.keep hb2).keep hb3
  have ht3 := (ht2.low hb1.out.size).keep hb3
  have hbase3 : w.heap.size ≤ w3.heap.size := Nat.le_trans hbase2 hb3.size
  have HA := hide (watch_Add hs3 hbase3 (by decide) (by decide) (by decide) (by rfl) (by rfl) (some ⟨w2.heap.size, 0, none⟩) 2 2 [4, 3] (by decide) (rd_blk (l := [4, 3]) hbk3))
  have hb03 := hide ((hb1.out.trans (hb2.mono hb1.out.size)).trans (hb3.mono hbase2))
  replace hs3 := hide hs3
  replace ht3 := hide ht3
  clear hs1 hb1 hb2 hbk3 HN HT ht2
  go_wp2_with fail
  refine HA.out.mono ?_
  rintro e w4 hA
  obtain ⟨rfl, hR⟩ := ready hs3.out ht3.out hA
  have HS := hide (set_first hbase3 hR)
  clear hR hA HA
  go_wp2_with fail
  refine HS.out.mono ?_
  rintro e w5 ⟨rfl, fv, lv, al, b, gc, cap, rest, hT5, hX5, hfv5, hn5, hb5⟩
  have HR := hide (run_ex hX5 hfv5 hT5 hn5)
  have hs5 := hide (Nat.le_trans hbase3 hb5.size)
  replace hb5 := hide hb5
  clear HS hs3 ht3 hX5 hT5 hfv5 hn5
  go_wp2_with fail
  refine HR.out.mono ?_
  rintro e w6 ⟨rfl, lv6, hT6, hb6⟩
  have HV := hide (value_is hT6 (by decide) (x := 4) (v := 1) (by rfl))
  have HW : Hid _ := hide (trail_Why hT6 (by decide) (k := 2) (a := 1) (m := ⟨0, 15, 1⟩) (by rfl) (by decide) (by rfl))
  have hb06 := hide ((hb03.out.trans hb5.out).trans hb6)
  have hs6 := hide (Nat.le_trans hs5.out hb6.size)
  clear HR hT6 hb6 hb5
  go_wp2_with (first | (go_at_call 110; refine HV.out.mono ?_; rintro e w7 ⟨rfl, rfl⟩) | (go_at_call 111; refine HW.out.mono ?_; rintro e w8 ⟨rfl, hb8⟩; replace hb8 := hide hb8))
  go_ret
  exact ⟨rfl, hb06.out.trans (hb8.out.mono hs6.out)⟩
end Go.Proofs.Ytcjoohaagdihlaa.Watch
end
