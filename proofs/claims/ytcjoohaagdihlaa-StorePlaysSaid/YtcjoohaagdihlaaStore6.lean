/- The cubes of a depth, as a row of the call's own. -/
import Derived.Test.YtcjoohaagdihlaaStore5
namespace Go.Proofs.Ytcjoohaagdihlaa.Kept
open Go.RowKit Go.Shelf Go.Lt Go.Proofs.Ytcjoohaagdihlaa.Lit Go.Proofs.Ytcjoohaagdihlaa.CubeHas
set_option linter.unusedVariables false
set_option linter.unusedSimpArgs false
attribute [local go_sem] Oper.semAt_some

def slAt (ss : List Sl) (j : Nat) : Sl := ss.getD j ⟨none, 0, 0⟩
def csAt (cs : List (List Int)) (j : Nat) : List Int := cs.getD j []
def AllI (n : Nat) (w : World) (ss : List Sl) (cs : List (List Int)) : Prop := ss.length = cs.length ∧ ∀ j, j < ss.length → w.ownsRow n 3 1 (slAt ss j).val (ivs (csAt cs j)).length (ivs (csAt cs j))
theorem AllI.step {n : Nat} {w w' : World} {ss : List Sl} {cs : List (List Int)} (h : AllI n w ss cs) (hb : Below w.heap.size w w') : AllI n w' ss cs := ⟨h.1, fun j hj => own_keep (h.2 j hj) hb⟩
theorem AllI.kept {n : Nat} {w w' : World} {ss : List Sl} {cs : List (List Int)} {row : Option Nat} (h : AllI n w ss cs) (hg : w.grownBy w' row) (hr : ∀ g, row = some g → ∃ t c, Blk w g t c ∧ 3 ≠ t) : AllI n w' ss cs := ⟨h.1, fun j hj => own_off (h.2 j hj) hg hr⟩
theorem AllI.snoc {n : Nat} {w : World} {ss : List Sl} {cs : List (List Int)} {x : Sl} {k : List Int} (h : AllI n w ss cs) (hx : w.ownsRow n 3 1 x.val (ivs k).length (ivs k)) : AllI n w (ss ++ [x]) (cs ++ [k]) := by
  refine ⟨by simp [h.1], fun j hj => ?_⟩
  have hl := h.1
  rw [List.length_append, List.length_singleton] at hj
  by_cases h1 : j < ss.length
  · have e1 : slAt (ss ++ [x]) j = slAt ss j := by unfold slAt; simp [List.getD, List.getElem?_append_left h1]
    have e2 : csAt (cs ++ [k]) j = csAt cs j := by unfold csAt; simp [List.getD, List.getElem?_append_left (show j < cs.length by omega)]
    rw [e1, e2]; exact h.2 j h1
  · have h2 : j = ss.length := by omega
    have e1 : slAt (ss ++ [x]) j = x := by unfold slAt; simp [List.getD, h2]
    have e2 : csAt (cs ++ [k]) j = k := by unfold csAt; simp [List.getD, h2, hl]
    rw [e1, e2]; exact hx
/-- a row of the call's own that holds these cubes -/
def RowC (n : Nat) (cs : List (List Int)) (v : Value) (w : World) : Prop := ∃ ss : List Sl, w.ownsRow n 40 1 v ss.length (ss.map Sl.val) ∧ AllI n w ss cs
theorem RowC.step {n : Nat} {cs : List (List Int)} {v : Value} {w w' : World} (h : RowC n cs v w) (hb : Below w.heap.size w w') : RowC n cs v w' := by
  obtain ⟨L, h1, h2⟩ := h
  exact ⟨L, own_keep h1 hb, h2.step hb⟩
theorem RowC.put {n : Nat} {w w' : World} {cs : List (List Int)} {row : Option Nat} {v : Value} (h : RowC n cs v w) (hg : w.grownBy w' row) (hr : ∀ g, row = some g → ∃ t c, Blk w g t c ∧ 40 ≠ t ∧ 3 ≠ t) : RowC n cs v w' := by
  obtain ⟨L, h4, h5⟩ := h
  exact ⟨L, own_off h4 hg (fun g e => by obtain ⟨t, c, a, b, _⟩ := hr g e; exact ⟨t, c, a, b⟩), h5.kept hg (fun g e => by obtain ⟨t, c, a, _, b⟩ := hr g e; exact ⟨t, c, a, b⟩)⟩
theorem RowC.sl {n : Nat} {cs : List (List Int)} {v : Value} {w : World} (h : RowC n cs v w) : ∃ s : Sl, v = s.val ∧ s.n = cs.length := by
  obtain ⟨L, h1, h2⟩ := h
  obtain ⟨s, h3, h4⟩ := own_sl h1
  exact ⟨s, h3, h4.trans h2.1⟩
theorem RowC.own {n : Nat} {w w' : World} {cs : List (List Int)} {row : Option Nat} {v : Value} (h : RowC n cs v w) (hg : w.grownBy w' row) (hr : ∀ r, row = some r → ∃ o : Obj, w.heap[r]? = some o ∧ o.isCells = false) : RowC n cs v w' := by
  have hne : ∀ {e size k : Nat} {x : Value} {xs : List Value}, w.ownsRow n e size x k xs → w'.ownsRow n e size x k xs := fun hx => by
    refine hx.kept hg ?_
    cases hv : Value.ownBlock _ with
    | none => exact .inl rfl
    | some g =>
      right
      intro he
      obtain ⟨ob, ho, hc⟩ := hr g he.symm
      obtain ⟨cs', hb'⟩ := own_blk hx hv
      unfold Blk at hb'
      rw [hb'] at ho
      injection ho with ho
      subst ho
      cases hc
  obtain ⟨L, h1, h2, h3⟩ := h
  exact ⟨L, hne h1, h2, fun j hj => hne (h3 j hj)⟩
theorem blk_rdS1 {w : World} {g : Nat} {t : TypeId} {y : Sl} (h : Blk w g t #[y.val]) : RdS w (some ⟨g, 0, none⟩) 1 1 [y.val] := by
  refine ⟨rfl, .inr ⟨_, rfl, h.lt, fun k u hk => ?_⟩⟩
  have : (⟨g, 0, none⟩ : Addr).add k = ⟨g, k, none⟩ := by unfold Addr.add; split <;> simp_all
  rw [this, h.cell]
  simpa using hk
theorem sl_one {ss : List Sl} : ∀ u ∈ ss.map Sl.val, u.oneCell' = true := by
  intro u hu
  obtain ⟨x, _, rfl⟩ := List.mem_map.1 hu
  rfl
/-- what is known between the rounds -/
structure Ax (w : World) (dep : Int) (cs : List (List Int)) (W : World) : Prop where
  bel : Below w.heap.size w W
  b0 : Blk W w.heap.size 3 #[.int .i64 dep]
  row : ∃ v, Blk W (w.heap.size + 1) 54 #[v] ∧ RowC w.heap.size cs v W
theorem Ax.step {w W W' : World} {dep : Int} {cs : List (List Int)} (h : Ax w dep cs W) (hb : Below W.heap.size W W') : Ax w dep cs W' := by
  obtain ⟨v, h1, h2⟩ := h.row
  exact ⟨h.bel.trans (hb.mono h.bel.size), h.b0.below hb h.b0.lt, v, h1.below hb h1.lt, h2.step hb⟩
theorem Ax.lt {w W : World} {dep : Int} {cs : List (List Int)} (h : Ax w dep cs W) : w.heap.size + 1 < W.heap.size := by
  obtain ⟨v, h1, h2⟩ := h.row
  exact h1.lt
theorem Ax.own {w W W' : World} {dep : Int} {cs : List (List Int)} {row : Option Nat} {n : Nat} (h : Ax w dep cs W) (hn : w.heap.size ≤ n) (hg : W.grownBy W' row) (hr : ∀ r, row = some r → n ≤ r ∧ ∃ o : Obj, W.heap[r]? = some o ∧ o.isCells = false) : Ax w dep cs W' := by
  have hr' : ∀ r, row = some r → ∃ o : Obj, W.heap[r]? = some o ∧ o.isCells = false := fun r e => (hr r e).2
  obtain ⟨v, h1, h2⟩ := h.row
  exact ⟨h.bel.grown hg h.bel.size (fun k e => Nat.le_trans hn (hr k e).1), blk_own h.b0 hg hr', v, blk_own h1 hg hr', h2.own hg hr'⟩
/-- the cubes of a depth -/
def atL (dep : Int) (l : List Kc) : List (List Int) := (l.filter fun k => decide (k.d = dep)).map Kc.c
theorem atL_yes {dep : Int} {l : List Kc} {k : Kc} (h : k.d = dep) : atL dep (l ++ [k]) = atL dep l ++ [k.c] := by simp [atL, h]
theorem atL_no {dep : Int} {l : List Kc} {k : Kc} (h : ¬ k.d = dep) : atL dep (l ++ [k]) = atL dep l := by simp [atL, h]
theorem atL_len (dep : Int) (l : List Kc) : (atL dep l).length ≤ l.length := by unfold atL; rw [List.length_map]; exact List.length_filter_le _ _
def AtIs (cs : List (List Int)) (w : World) (e : Ending) (w' : World) : Prop := ∃ v, e = .returned v ∧ RowC w.heap.size cs v w' ∧ Below w.heap.size w w'
set_option maxRecDepth 8000 in
set_option maxHeartbeats 4000000 in
theorem store_At (q : Option Addr) (L : List Kv) (l : List Kc) (dep : Int) (w : World) (hK : Keeps w.heap.size w q L) (hA : AllK w L l) (hg : GoodL l) (hL : L.length ≤ 1000000) :
    Calls Try.prog 52 #[.pointer q, .int .i64 dep] w (AtIs (atL dep l) w) := by
  refine (callsIn_wide (n := 10)).1 ?_
  refine callsIn_of_wp_marks Try.func52 rfl trivial ?_ rfl
  simp only [Try.ntmps52, List.size_toArray, List.length_cons, List.length_nil, Nat.reduceAdd, Nat.reduceSub, Array.replicate_succ, Array.replicate_zero, List.push_toArray, List.append_toArray, List.nil_append, List.cons_append]
  gi_wp2_with (refine ⟨trivial, ?_⟩; gi_at_call 101; refine (all_in Fence.wide _ trivial rfl _ _).mono ?_; rintro e w' ⟨rfl, rfl⟩)
  obtain ⟨W0, hW0⟩ : ∃ W0, (((w.alloc (.cells #[.int .i64 dep] 3)).alloc (.cells #[.slice none 0 0] 54)).alloc (.cells #[.pointer q] 61)) = W0 := ⟨_, rfl⟩
  have hI0 : Ax w dep [] W0 ∧ Blk W0 (w.heap.size + 1 + 1) 61 #[.pointer q] ∧ W0.heap.size = w.heap.size + 3 := by
    subst hW0
    have e := Blk.new w 3 #[.int .i64 dep]
    have e0 := Blk.new (w.alloc (.cells #[.int .i64 dep] 3)) 54 #[.slice none 0 0]
    have e1 := Blk.new ((w.alloc (.cells #[.int .i64 dep] 3)).alloc (.cells #[.slice none 0 0] 54)) 61 #[.pointer q]
    simp only [World.size_alloc] at e0 e1
    exact ⟨⟨((((Below.refl _ w).alloc (Nat.le_refl _) _).alloc (by simp) _).alloc (by simp; omega) _), (e.alloc _).alloc _, _, e0.alloc _, [], ⟨rfl, .inl ⟨rfl, rfl⟩⟩, rfl, fun j hj => absurd hj (Nat.not_lt_zero _)⟩, e1, by simp⟩
  obtain ⟨hI0, hb4, hsz⟩ := hI0
  simp only [hW0]
  clear hW0
  refine wpIn_rangeFunc_ownH rfl (by omega) (gf := 134) (lb := #[.pointer (some ⟨w.heap.size + 1 + 1, 0, none⟩)]) rfl trivial (enters_of Try.func134 (by kernel_rfl) rfl)
    (all_stops Fence.wide _ trivial rfl (by omega) (w.heap.size + 1 + 1) w.heap.size q L hL W0 (by omega) (by omega) (hb4.cell 0) (hK.below hI0.bel (by omega))) belowK_t (belowK_b (by omega)) (Below.refl _ _) (fun _ => rfl)
    (fun pre W => Ax w dep (atL dep (pre.map fun i : Fin L.length => kcAt l i.1)) W)
    (fun _ _ _ => False)
    (fun pre X Y row hs hg hr => hs.own (by omega) hg hr)
    (fun _ _ _ _ _ hs _ _ => hs)
    hI0
    (fun x a' W => ∃ Bx, w.heap.size + 1 < Bx ∧ Blk W Bx 66 (kvAt L x.1).cells ∧ a' = { tmps := #[.pointer q, .int .i64 dep, undef, .pointer (some ⟨w.heap.size, 0, none⟩), .slice none 0 0, .pointer (some ⟨w.heap.size + 1, 0, none⟩), undef, .pointer (some ⟨Bx, 0, none⟩), .pointer q, .func (.func 134) #[] #[.pointer (some ⟨w.heap.size + 1 + 1, 0, none⟩)], .int .i64 (x.1 : Int), .agg (kvAt L x.1).cells, undef, undef, undef, undef, undef, undef, undef, undef, undef, undef, undef], defers := [] })
    (fun x a' _ X Y row hs hg hr => by obtain ⟨Bx, h1, h2, h3⟩ := hs; exact ⟨Bx, h1, blk_own h2 hg (fun r e => (hr r e).2), h3⟩)
    ?assign ?body ?done ?stop
  case assign =>
    rintro l0 pre x W K hI hK
    have hbs := hI.bel.size
    dsimp only [encsF]
    gi_wp2
    exact hK _ _ ((KeepsOthers.alloc _ _).from _) ((Below.refl _ W).alloc hbs _) (hI.step ((Below.refl _ W).alloc (Nat.le_refl _) _)) ⟨W.heap.size, hI.lt, Blk.new W _ _, rfl⟩
  case body =>
    rintro l0 pre x a' W hl ⟨r, hr⟩ hI ⟨Bx, hBx, bX, rfl⟩ hlt
    have hkv := (hA.2 x.1 x.2).below hI.bel (Nat.le_refl _)
    have hgk := hg.at (j := x.1) (by have := hA.1; have := x.2; omega)
    generalize hxv : kvAt L x.1 = xv at hkv bX ⊢
    have hcl : (kcAt l x.1).c.length = xv.c.n := hkv.c.len
    have hxd := hkv.d
    have hat := atL_len dep (pre.map fun i : Fin L.length => kcAt l i.1)
    rw [List.length_map] at hat
    have hkc := hkv.c
    clear hkv
    obtain ⟨V, hbV, hrV⟩ := hI.row
    have hsl := hI.lt
    have hBl := bX.lt
    have b00 := hI.b0
    have cD : W.cell? ⟨w.heap.size, 0, none⟩ = some (.int .i64 dep) := b00.cell 0
    have cX : W.cell? ⟨Bx, 1, none⟩ = some (.int .i64 xv.d) := bX.cell 1
    have hmap : (pre ++ [x]).map (fun i : Fin L.length => kcAt l i.1) = (pre.map fun i : Fin L.length => kcAt l i.1) ++ [kcAt l x.1] := by rw [List.map_append]; rfl
    by_cases hd : (kcAt l x.1).d = dep
    · have hd2 : xv.d = dep := hxd.trans hd
      have hstep := hide (atL_yes (l := pre.map fun i : Fin L.length => kcAt l i.1) hd)
      clear hd hxd
      generalize hcs : atL dep (pre.map fun i : Fin L.length => kcAt l i.1) = cs at hrV hstep hat
      generalize hkc' : (kcAt l x.1).c = kc at hkc hcl hstep
      have hgc : kc.length ≤ 100000 := by rw [← hkc']; exact hgk.c
      have hd3 : (xv.d == dep) = true := by simp [hd2]
      clear hkc'
      gi_wp2
      clear cD cX hd2 hd3
      refine wpIn_region_inv3 (fun D az wz => ∃ x16 x17 x18 x19 x20 x21 u : Value, az = ⟨#[.pointer q, .int .i64 dep, undef, .pointer (some ⟨w.heap.size, 0, none⟩), .slice none 0 0, .pointer (some ⟨w.heap.size + 1, 0, none⟩), undef, .pointer (some ⟨Bx, 0, none⟩), .pointer q, .func (.func 134) #[] #[.pointer (some ⟨w.heap.size + 1 + 1, 0, none⟩)], .int .i64 (x.1 : Int), .agg xv.cells, .pointer (some ⟨Bx, 1, none⟩), .int .i64 dep, .int .i64 dep, .bool true, x16, x17, x18, x19, x20, x21, undef], []⟩ ∧ (Below w.heap.size W wz ∧ KeepsFrom W0.heap.size W wz ∧ W.heap.size ≤ wz.heap.size ∧ Blk wz (w.heap.size + 1) 54 #[u] ∧ Blk wz w.heap.size 3 #[.int .i64 dep]) ∧ (¬ D 0 → u = V) ∧ (¬ D 2 → Blk wz Bx 66 xv.cells) ∧ (¬ D 3 → Rd wz xv.c.A xv.c.n (ivs kc)) ∧ (¬ D 5 → RowC w.heap.size cs V wz) ∧ (D 0 → x16 = V) ∧ (D 1 → x17 = .pointer (some ⟨Bx, 0, none⟩)) ∧ (D 2 → (D 1 ∧ x18 = xv.c.val)) ∧ (D 3 → (D 2 ∧ ∃ y : Sl, x19 = y.val ∧ wz.ownsRow w.heap.size 3 1 y.val (ivs kc).length (ivs kc))) ∧ (D 4 → (D 3 ∧ ∃ (y : Sl) (g : Nat), x19 = y.val ∧ wz.ownsRow w.heap.size 3 1 y.val (ivs kc).length (ivs kc) ∧ x20 = .slice (some ⟨g, 0, none⟩) 1 1 ∧ (¬ D 5 → Blk wz g 40 #[y.val]))) ∧ (D 5 → (D 4 ∧ D 0 ∧ RowC w.heap.size (cs ++ [kc]) x21 wz)) ∧ (D 6 → (D 5 ∧ u = x21))) (by kernel_rfl) (by kernel_rfl) (by kernel_rfl) (by rintro ⟨_, _, h⟩; exact h) ?h0 ?hstep ?hdone
      case h0 =>
        have hdr := Dr.below (Dr.refl W).drew W.heap.size
        exact ⟨_, _, _, _, _, _, _, rfl, ⟨hdr.mono hI.bel.size, (KeepsOthers.drew W).from _, hdr.size, hbV.below hdr hbV.lt, b00.below hdr b00.lt⟩, fun _ => rfl, fun _ => bX.below hdr bX.lt, fun _ => hkc.below hdr (Nat.le_refl _), fun _ => hrV.step hdr, fun h => absurd h (by decide), fun h => absurd h (by decide), fun h => absurd h (by decide), fun h => absurd h (by decide), fun h => absurd h (by decide), fun h => absurd h (by decide), fun h => absurd h (by decide)⟩
      case hstep =>
        intro D az wz i hi' hn hd' hI2
        obtain ⟨x16, x17, x18, x19, x20, x21, u, rfl, ⟨hbz, hkf, hsz2, b0, b01⟩, g0, g1, g2, g4, f0, f1, f2, f3, f4, f5, f6⟩ := hI2
        have hi' : i < 7 := hi'
        rcases (show i = 0 ∨ i = 1 ∨ i = 2 ∨ i = 3 ∨ i = 4 ∨ i = 5 ∨ i = 6 by omega) with rfl | rfl | rfl | rfl | rfl | rfl | rfl
        · -- 0
          refine wpOp_step rfl (fun K hK => ?_)
          have hK : Shut _ := hK
          obtain rfl := g0 hn
          obtain ⟨sV, hsV, hx⟩ := hrV.sl
          clear hx
          have cz : wz.cell? ⟨w.heap.size + 1, 0, none⟩ = some u := b0.cell 0
          go_simp
          try simp only [Act.put, List.getElem_toArray, List.getElem_cons_succ, List.getElem_cons_zero, List.setIfInBounds_toArray, List.set_cons_zero, List.set_cons_succ]
          refine hK.out _ _ ⟨_, _, _, _, _, _, _, rfl, ⟨hbz, hkf, hsz2, b0, b01⟩, (fun h => (h (by simp)).elim), (fun h => g1 (fun e => h (Or.inr e))), (fun h => g2 (fun e => h (Or.inr e))), (fun h => g4 (fun e => h (Or.inr e))), fun _ => hsV.symm, fun h => h.elim (fun e => absurd e (by decide)) f1, fun h => h.elim (fun e => absurd e (by decide)) (fun h => ⟨Or.inr (f2 h).1, (f2 h).2⟩), fun h => h.elim (fun e => absurd e (by decide)) (fun h => ⟨Or.inr (f3 h).1, (f3 h).2⟩), fun h => h.elim (fun e => absurd e (by decide)) (fun h => by obtain ⟨m2, y, g, a1, a2, a3, a4⟩ := f4 h; exact ⟨Or.inr m2, y, g, a1, a2, a3, fun h => a4 (fun e => h (Or.inr e))⟩), fun h => h.elim (fun e => absurd e (by decide)) (fun h => absurd (f5 h).2.1 hn), fun h => h.elim (fun e => absurd e (by decide)) (fun h => ⟨Or.inr (f6 h).1, (f6 h).2⟩)⟩
        · -- 1
          refine wpOp_step rfl (fun K hK => ?_)
          have hK : Shut _ := hK
          go_simp
          try simp only [Act.put, List.getElem_toArray, List.getElem_cons_succ, List.getElem_cons_zero, List.setIfInBounds_toArray, List.set_cons_zero, List.set_cons_succ]
          refine hK.out _ _ ⟨_, _, _, _, _, _, _, rfl, ⟨hbz, hkf, hsz2, b0, b01⟩, (fun h => g0 (fun e => h (Or.inr e))), (fun h => g1 (fun e => h (Or.inr e))), (fun h => g2 (fun e => h (Or.inr e))), (fun h => g4 (fun e => h (Or.inr e))), fun h => h.elim (fun e => absurd e (by decide)) f0, fun _ => rfl, fun h => h.elim (fun e => absurd e (by decide)) (fun h => absurd (f2 h).1 hn), fun h => h.elim (fun e => absurd e (by decide)) (fun h => ⟨Or.inr (f3 h).1, (f3 h).2⟩), fun h => h.elim (fun e => absurd e (by decide)) (fun h => by obtain ⟨m2, y, g, a1, a2, a3, a4⟩ := f4 h; exact ⟨Or.inr m2, y, g, a1, a2, a3, fun h => a4 (fun e => h (Or.inr e))⟩), fun h => h.elim (fun e => absurd e (by decide)) (fun h => ⟨Or.inr (f5 h).1, Or.inr (f5 h).2.1, (f5 h).2.2⟩), fun h => h.elim (fun e => absurd e (by decide)) (fun h => ⟨Or.inr (f6 h).1, (f6 h).2⟩)⟩
        · -- 2
          have d1 := f1 (hd' 1 (by kernel_rfl))
          refine wpOp_step rfl (fun K hK => ?_)
          have hK : Shut _ := hK
          have m1 : D 1 := hd' 1 (by kernel_rfl)
          have bx := g1 hn
          subst d1
          have c0 : wz.cell? ⟨Bx, 0, none⟩ = some xv.c.val := bx.cell 0
          go_simp
          try simp only [Act.put, List.getElem_toArray, List.getElem_cons_succ, List.getElem_cons_zero, List.setIfInBounds_toArray, List.set_cons_zero, List.set_cons_succ]
          refine hK.out _ _ ⟨_, _, _, _, _, _, _, rfl, ⟨hbz, hkf, hsz2, b0, b01⟩, (fun h => g0 (fun e => h (Or.inr e))), (fun h => (h (by simp)).elim), (fun h => g2 (fun e => h (Or.inr e))), (fun h => g4 (fun e => h (Or.inr e))), fun h => h.elim (fun e => absurd e (by decide)) f0, fun _ => rfl, fun _ => ⟨Or.inr m1, rfl⟩, fun h => h.elim (fun e => absurd e (by decide)) (fun h => absurd (f3 h).1 hn), fun h => h.elim (fun e => absurd e (by decide)) (fun h => by obtain ⟨m2, y, g, a1, a2, a3, a4⟩ := f4 h; exact ⟨Or.inr m2, y, g, a1, a2, a3, fun h => a4 (fun e => h (Or.inr e))⟩), fun h => h.elim (fun e => absurd e (by decide)) (fun h => ⟨Or.inr (f5 h).1, Or.inr (f5 h).2.1, (f5 h).2.2⟩), fun h => h.elim (fun e => absurd e (by decide)) (fun h => ⟨Or.inr (f6 h).1, (f6 h).2⟩)⟩
        · -- 3
          have d2 := f2 (hd' 2 (by kernel_rfl))
          refine wpOp_step rfl (fun K hK => ?_)
          have hK : Shut _ := hK
          have m2 : D 2 := hd' 2 (by kernel_rfl)
          obtain ⟨m1, rfl⟩ := d2
          have hkz := g2 hn
          go_wp2_with (go_at_call 108; refine (clone_ints xv.c.A xv.c.n xv.c.c kc wz hkz (by omega)).mono ?_; rintro e wy ⟨y, rfl, hyc, hbs⟩)
          try simp only [Act.put, List.getElem_toArray, List.getElem_cons_succ, List.getElem_cons_zero, List.setIfInBounds_toArray, List.set_cons_zero, List.set_cons_succ]
          exact ⟨_, _, _, _, _, _, _, rfl, ⟨hbz.trans (hbs.mono (Nat.le_trans hI.bel.size hsz2)), hkf.trans (keeps_below hbs), Nat.le_trans hsz2 hbs.size, b0.below hbs b0.lt, b01.below hbs b01.lt⟩, (fun h => g0 (fun e => h (Or.inr e))), (fun h => (g1 (fun e => h (Or.inr e))).below hbs (g1 (fun e => h (Or.inr e))).lt), (fun h => (h (by simp)).elim), (fun h => (g4 (fun e => h (Or.inr e))).step hbs), fun h => h.elim (fun e => absurd e (by decide)) f0, fun h => h.elim (fun e => absurd e (by decide)) f1, fun _ => ⟨Or.inr m1, rfl⟩, fun _ => by obtain ⟨s, hs, _⟩ := own_sl hyc; subst hs; exact ⟨Or.inr m2, s, rfl, by have := own_low hyc (Nat.le_trans hI.bel.size hsz2); simpa [ivs] using this⟩, fun h => h.elim (fun e => absurd e (by decide)) (fun h => absurd (f4 h).1 hn), fun h => h.elim (fun e => absurd e (by decide)) (fun h => absurd (f4 (f5 h).1).1 hn), fun h => h.elim (fun e => absurd e (by decide)) (fun h => ⟨Or.inr (f6 h).1, (f6 h).2⟩)⟩
        · -- 4
          have d3 := f3 (hd' 3 (by kernel_rfl))
          refine wpOp_step rfl (fun K hK => ?_)
          have hK : Shut _ := hK
          have m3 : D 3 := hd' 3 (by kernel_rfl)
          obtain ⟨m2, y, rfl, hyo⟩ := d3
          have hyd := hide hyo
          clear hyo
          have hbs := (Below.refl wz.heap.size wz).alloc (Nat.le_refl _) (.cells #[y.val] 40)
          go_simp
          try simp only [Act.put, List.getElem_toArray, List.getElem_cons_succ, List.getElem_cons_zero, List.setIfInBounds_toArray, List.set_cons_zero, List.set_cons_succ]
          refine hK.out _ _ ⟨_, _, _, _, _, _, _, rfl, ⟨hbz.trans (hbs.mono (Nat.le_trans hI.bel.size hsz2)), hkf.trans (keeps_below hbs), Nat.le_trans hsz2 hbs.size, b0.below hbs b0.lt, b01.below hbs b01.lt⟩, (fun h => g0 (fun e => h (Or.inr e))), (fun h => (g1 (fun e => h (Or.inr e))).below hbs (g1 (fun e => h (Or.inr e))).lt), (fun h => (g2 (fun e => h (Or.inr e))).below hbs (Nat.le_refl _)), (fun h => (g4 (fun e => h (Or.inr e))).step hbs), fun h => h.elim (fun e => absurd e (by decide)) f0, fun h => h.elim (fun e => absurd e (by decide)) f1, fun h => h.elim (fun e => absurd e (by decide)) (fun h => ⟨Or.inr (f2 h).1, (f2 h).2⟩), fun _ => ⟨Or.inr m2, y, rfl, own_keep hyd.out hbs⟩, fun _ => ⟨Or.inr m3, y, _, rfl, own_keep hyd.out hbs, rfl, fun _ => Blk.new wz _ _⟩, fun h => h.elim (fun e => absurd e (by decide)) (fun h => absurd (f5 h).1 hn), fun h => h.elim (fun e => absurd e (by decide)) (fun h => ⟨Or.inr (f6 h).1, (f6 h).2⟩)⟩
        · -- 5
          have d0 := f0 (hd' 0 (by kernel_rfl))
          have d4 := f4 (hd' 4 (by kernel_rfl))
          refine wpOp_step rfl (fun K hK => ?_)
          have hK : Shut _ := hK
          have m4 : D 4 := hd' 4 (by kernel_rfl)
          have m0 : D 0 := hd' 0 (by kernel_rfl)
          have m3 := d4.1
          have m2 := (f3 m3).1
          obtain ⟨_, y, g, rfl, hyo, rfl, hbg⟩ := d4
          have hbg := hbg hn
          subst d0
          obtain ⟨L0, hro, hra⟩ := g4 hn
          have hlen : L0.length = cs.length := hra.1
          refine step_append_rdS rfl (.tmp 16) (.tmp 20) 54 rfl (by kernel_rfl) k_ints rfl (by decide) rfl rfl hro (Nat.le_trans hI.bel.size hsz2) (blk_rdS1 hbg) (by intro u hu; rw [List.mem_singleton.1 hu]; rfl) (by unfold maxLen; omega) (by omega) ?_
          intro v1 w1 hown hgr
          have hoff : ∀ g, Value.ownBlock x16 = some g → ∃ t c, Blk wz g t c ∧ 3 ≠ t := fun g e => by obtain ⟨cs, hb⟩ := own_blk hro e; exact ⟨40, cs, hb, by decide⟩
          have hnew : RowC w.heap.size (cs ++ [kc]) v1 w1 := ⟨L0 ++ [y], by simpa using hown, (hra.kept hgr hoff).snoc (own_off hyo hgr hoff)⟩
          try simp only [Act.put, List.getElem_toArray, List.getElem_cons_succ, List.getElem_cons_zero, List.setIfInBounds_toArray, List.set_cons_zero, List.set_cons_succ]
          refine hK.out _ _ ⟨_, _, _, _, _, _, _, rfl, ⟨hbz.grown hgr (Nat.le_trans hI.bel.size hsz2) (fun k e => (hro.lt k e).1), hkf.trans (kept_from hgr (fun g e => by obtain ⟨cs, hb⟩ := own_blk hro e; exact ⟨_, cs, hb⟩)), Nat.le_trans hsz2 hgr.size, b0.grown hgr (own_blk_ne hro b0 (by decide)), b01.grown hgr (own_blk_ne hro b01 (by decide))⟩, (fun h => g0 (fun e => h (Or.inr e))), (fun h => (h (by simp [m2])).elim), (fun h => (h (by simp [m3])).elim), (fun h => (h (by simp)).elim), fun _ => rfl, fun h => h.elim (fun e => absurd e (by decide)) f1, fun h => h.elim (fun e => absurd e (by decide)) (fun h => ⟨Or.inr (f2 h).1, (f2 h).2⟩), fun _ => ⟨Or.inr m2, y, rfl, own_off hyo hgr hoff⟩, fun _ => ⟨Or.inr m3, y, g, rfl, own_off hyo hgr hoff, rfl, fun h => (h (by simp)).elim⟩, fun _ => ⟨Or.inr m4, Or.inr m0, hnew⟩, fun h => h.elim (fun e => absurd e (by decide)) (fun h => absurd (f6 h).1 hn)⟩
        · -- 6
          have d5 := f5 (hd' 5 (by kernel_rfl))
          refine wpOp_step rfl (fun K hK => ?_)
          have hK : Shut _ := hK
          have m5 : D 5 := hd' 5 (by kernel_rfl)
          obtain ⟨m4, m0, hrn⟩ := d5
          have m3 := (f4 m4).1
          have m2 := (f3 m3).1
          obtain ⟨_, y, g, rfl, a2, rfl, _⟩ := f4 m4
          have a2 := hide a2
          obtain ⟨sN, rfl, hsn⟩ := hrn.sl
          clear hsn
          have cz : wz.cell? ⟨w.heap.size + 1, 0, none⟩ = some u := b0.cell 0
          have fz := b0.frozen 0
          have hgr := grownBy_setCell' wz (w.heap.size + 1) sN.val
          have hrn2 := hide (hrn.put hgr (fun g e => by cases e; exact ⟨_, _, b0, by decide, by decide⟩))
          clear hrn
          go_simp
          try simp only [Act.put, List.getElem_toArray, List.getElem_cons_succ, List.getElem_cons_zero, List.setIfInBounds_toArray, List.set_cons_zero, List.set_cons_succ]
          refine hK.out _ _ ⟨_, _, _, _, _, _, _, rfl, ⟨hbz.setCell (p := ⟨w.heap.size + 1, 0, none⟩) (by show w.heap.size ≤ w.heap.size + 1; omega) _, hkf.trans ((KeepsOthers.setCell _ _ _).from _), by simpa using hsz2, by simpa using b0.set_ 0 sN.val, b01.far (by simp) _⟩, (fun h => (h (by simp [m0])).elim), (fun h => (h (by simp [m2])).elim), (fun h => (h (by simp [m3])).elim), (fun h => (h (by simp [m5])).elim), fun h => h.elim (fun e => absurd e (by decide)) f0, fun h => h.elim (fun e => absurd e (by decide)) f1, fun h => h.elim (fun e => absurd e (by decide)) (fun h => ⟨Or.inr (f2 h).1, (f2 h).2⟩), fun _ => ⟨Or.inr m2, y, rfl, own_off a2.out hgr (fun g e => by cases e; exact ⟨_, _, b0, by decide⟩)⟩, fun _ => ⟨Or.inr m3, y, g, rfl, own_off a2.out hgr (fun g e => by cases e; exact ⟨_, _, b0, by decide⟩), rfl, fun h => (h (by simp [m5])).elim⟩, fun _ => ⟨Or.inr m4, Or.inr m0, hrn2.out⟩, fun _ => ⟨Or.inr m5, rfl⟩⟩
      case hdone =>
        rintro D az wz hD ⟨x16, x17, x18, x19, x20, x21, u, rfl, ⟨hbz, hkf, hsz2, b0, b01⟩, g0, g1, g2, g4, f0, f1, f2, f3, f4, f5, f6⟩
        obtain ⟨m4, rfl⟩ := f6 (hD 6)
        obtain ⟨_, _, hrn⟩ := f5 (hD 5)
        gi_wp2
        refine ⟨by rw [← hsz]; exact hkf, hbz, ?_⟩
        show Ax w dep (atL dep ((pre ++ [x]).map fun i : Fin L.length => kcAt l i.1)) wz
        rw [hmap, hstep.out]
        exact ⟨hI.bel.trans hbz, b01, u, b0, hrn⟩
    · have hd2 : ¬ xv.d = dep := fun e => hd (hxd.symm.trans e)
      have hd3 : (xv.d == dep) = false := by simp [hd2]
      have hstep := hide (atL_no (l := pre.map fun i : Fin L.length => kcAt l i.1) hd)
      clear hd hxd
      gi_wp2
      refine ⟨KeepsFrom.refl _ _, Below.refl _ _, ?_⟩
      show Ax w dep (atL dep ((pre ++ [x]).map fun i : Fin L.length => kcAt l i.1)) W
      rw [hmap, hstep.out]
      exact hI
  case done =>
    rintro D ys W hD rfl hI hKD
    have hI : Ax w dep (atL dep ((upF L.length L.length).map fun i : Fin L.length => kcAt l i.1)) W := hI
    rw [list_all l L.length hA.1] at hI
    obtain ⟨V, hb, hrV⟩ := hI.row
    obtain ⟨sV, rfl, hx⟩ := hrV.sl
    clear hx
    have hc : W.cell? ⟨w.heap.size + 1, 0, none⟩ = some sV.val := hb.cell 0
    gi_wp2
    refine ⟨by simp, .inl ⟨_, _, rfl, run_takeDeferred hKD, ?_⟩⟩
    exact ⟨_, results_tmp rfl _ _ _, sV.val, rfl, hrV.own (grownBy_putObj' W D (.deferred none)) (fun r e => by cases e; exact ⟨_, hKD, rfl⟩), hI.bel.trans (belowK_b (w := w) (Nat.le_refl _) W D _ _ (by have := hI0.bel.size; omega) hKD rfl rfl)⟩
  case stop =>
    rintro D c pre W _ _ h _
    exact h.elim
end Go.Proofs.Ytcjoohaagdihlaa.Kept
