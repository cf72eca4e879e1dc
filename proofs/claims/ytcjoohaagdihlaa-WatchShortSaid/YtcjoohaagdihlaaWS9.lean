/- Texts behind a row, one behind the other: Store5, Covers, Store7, Store8. -/
import Derived.Test.YtcjoohaagdihlaaWS7
import Derived.Test.YtcjoohaagdihlaaWS8
import Derived.Test.YtcjoohaagdihlaaWS1
import Derived.Laws.CopyRow
section
/- All that a store keeps, as a row of the call's own. -/
namespace Go.Proofs.Ytcjoohaagdihlaa.Kept
open Go.RowKit Go.Shelf Go.Lt Go.Proofs.Ytcjoohaagdihlaa.Lit Go.Proofs.Ytcjoohaagdihlaa.CubeHas
set_option linter.unusedVariables false
set_option linter.unusedSimpArgs false
attribute [local go_sem] Oper.semAt_some

theorem own_blk {w : World} {base e size n : Nat} {v : Value} {xs : List Value} (h : w.ownsRow base e size v n xs) {g : Nat} (hg : v.ownBlock = some g) : ∃ cs, Blk w g e cs := by
  rcases h.2 with ⟨rfl, _⟩ | ⟨g', cap, cur, rfl, _, hh, _⟩
  · cases hg
  · injection hg with hg
    subst hg
    exact ⟨_, hh⟩
/-- a row whose blocks are of none of these types -/
def OffRow (w : World) (row : Option Nat) : Prop := ∀ g, row = some g → ∃ t cs, Blk w g t cs ∧ 3 ≠ t ∧ 4 ≠ t
theorem own_off {w w' : World} {base e size n : Nat} {v : Value} {xs : List Value} {row : Option Nat} (h : w.ownsRow base e size v n xs) (hg : w.grownBy w' row) (hr : ∀ g, row = some g → ∃ t cs, Blk w g t cs ∧ e ≠ t) : w'.ownsRow base e size v n xs := by
  refine h.kept hg ?_
  cases hv : v.ownBlock with
  | none => exact .inl rfl
  | some g =>
    right
    intro he
    obtain ⟨t, cs, hb, ht⟩ := hr g he.symm
    obtain ⟨cs', hb'⟩ := own_blk h hv
    unfold Blk at hb hb'
    rw [hb'] at hb
    injection hb with hb
    injection hb with _ hb
    exact ht hb
/-- one that is kept, in rows of the call's own -/
structure KvO (n : Nat) (w : World) (x : Kv) (k : Kc) : Prop where
  d : x.d = k.d
  c : w.ownsRow n 3 1 x.c.val (ivs k.c).length (ivs k.c)
  i : w.ownsRow n 4 1 x.i.val (bvs k.i).length (bvs k.i)
theorem KvO.step {n : Nat} {w w' : World} {x : Kv} {k : Kc} (h : KvO n w x k) (hb : Below w.heap.size w w') : KvO n w' x k := ⟨h.d, own_keep h.c hb, own_keep h.i hb⟩
theorem KvO.kept {n : Nat} {w w' : World} {x : Kv} {k : Kc} {row : Option Nat} (h : KvO n w x k) (hg : w.grownBy w' row) (hr : OffRow w row) : KvO n w' x k :=
  ⟨h.d, own_off h.c hg (fun g e => by obtain ⟨t, cs, h1, h2, _⟩ := hr g e; exact ⟨t, cs, h1, h2⟩), own_off h.i hg (fun g e => by obtain ⟨t, cs, h1, _, h2⟩ := hr g e; exact ⟨t, cs, h1, h2⟩)⟩
theorem rd_own {w : World} {base e : Nat} {s : Sl} {xs : List Value} {n : Nat} (h : w.ownsRow base e 1 s.val n xs) : Rd w s.A s.n xs := by
  obtain ⟨A, c, hv, _, _, hr⟩ := Rd.of_own h
  injection hv with e1 e2 e3
  rw [e1, e2]; exact hr
theorem KvO.rd {n : Nat} {w : World} {x : Kv} {k : Kc} (h : KvO n w x k) : KvR w x k := ⟨h.d, rd_own h.c, rd_own h.i⟩
def AllO (n : Nat) (w : World) (L : List Kv) (l : List Kc) : Prop := L.length = l.length ∧ ∀ j, j < L.length → KvO n w (kvAt L j) (kcAt l j)
theorem AllO.step {n : Nat} {w w' : World} {L : List Kv} {l : List Kc} (h : AllO n w L l) (hb : Below w.heap.size w w') : AllO n w' L l := ⟨h.1, fun j hj => (h.2 j hj).step hb⟩
theorem AllO.kept {n : Nat} {w w' : World} {L : List Kv} {l : List Kc} {row : Option Nat} (h : AllO n w L l) (hg : w.grownBy w' row) (hr : OffRow w row) : AllO n w' L l := ⟨h.1, fun j hj => (h.2 j hj).kept hg hr⟩
theorem AllO.rd {n : Nat} {w : World} {L : List Kv} {l : List Kc} (h : AllO n w L l) : AllK w L l := ⟨h.1, fun j hj => (h.2 j hj).rd⟩
theorem AllO.snoc {n : Nat} {w : World} {L : List Kv} {l : List Kc} {x : Kv} {k : Kc} (h : AllO n w L l) (hx : KvO n w x k) : AllO n w (L ++ [x]) (l ++ [k]) := by
  refine ⟨by simp [h.1], fun j hj => ?_⟩
  have hl := h.1
  rw [List.length_append, List.length_singleton] at hj
  by_cases h1 : j < L.length
  · have e1 : kvAt (L ++ [x]) j = kvAt L j := by unfold kvAt; simp [List.getD, List.getElem?_append_left h1]
    have e2 : kcAt (l ++ [k]) j = kcAt l j := by unfold kcAt; simp [List.getD, List.getElem?_append_left (show j < l.length by omega)]
    rw [e1, e2]; exact h.2 j h1
  · have h2 : j = L.length := by omega
    have e1 : kvAt (L ++ [x]) j = x := by unfold kvAt; simp [List.getD, h2]
    have e2 : kcAt (l ++ [k]) j = k := by unfold kcAt; simp [List.getD, h2, hl]
    rw [e1, e2]; exact hx
theorem AllO.nil (n : Nat) (w : World) : AllO n w [] [] := ⟨rfl, fun j hj => absurd hj (Nat.not_lt_zero _)⟩
/-- a row of the call's own that holds these -/
def RowAt (n : Nat) (l : List Kc) (v : Value) (w : World) : Prop := ∃ L : List Kv, w.ownsRow n 66 3 v L.length (encK L) ∧ AllO n w L l
theorem RowAt.step {n : Nat} {l : List Kc} {v : Value} {w w' : World} (h : RowAt n l v w) (hb : Below w.heap.size w w') : RowAt n l v w' := by
  obtain ⟨L, h1, h2⟩ := h
  exact ⟨L, own_keep h1 hb, h2.step hb⟩
theorem RowAt.far {n g : Nat} {l : List Kc} {v u : Value} {w : World} {t : TypeId} {cs : Array Value} (h : RowAt n l v w) (hb : Blk w g t cs) (h1 : 66 ≠ t) (h2 : 3 ≠ t) (h3 : 4 ≠ t) : RowAt n l v (w.setCell ⟨g, 0, none⟩ u) := by
  obtain ⟨L, h4, h5⟩ := h
  exact ⟨L, own_off h4 (grownBy_setCell' w g u) (fun g' e => by cases e; exact ⟨t, cs, hb, h1⟩), h5.kept (grownBy_setCell' w g u) (fun g' e => by cases e; exact ⟨t, cs, hb, h2, h3⟩)⟩
theorem RowAt.sl {n : Nat} {l : List Kc} {v : Value} {w : World} (h : RowAt n l v w) : ∃ s : Sl, v = s.val ∧ s.n = l.length := by
  obtain ⟨L, h1, h2⟩ := h
  obtain ⟨s, h3, h4⟩ := own_sl h1
  exact ⟨s, h3, h4.trans h2.1⟩
theorem RowAt.put {n : Nat} {w w' : World} {W : World} {l : List Kc} {row : Option Nat} {v : Value} (h : RowAt n l v w) (hg : w.grownBy w' row) (hr : ∀ g, row = some g → ∃ t cs, Blk w g t cs ∧ 66 ≠ t ∧ 3 ≠ t ∧ 4 ≠ t) : RowAt n l v w' := by
  obtain ⟨L, h4, h5⟩ := h
  exact ⟨L, own_off h4 hg (fun g e => by obtain ⟨t, cs, a, b, _⟩ := hr g e; exact ⟨t, cs, a, b⟩), h5.kept hg (fun g e => by obtain ⟨t, cs, a, _, b, c⟩ := hr g e; exact ⟨t, cs, a, b, c⟩)⟩
theorem RowAt.own {n : Nat} {w w' : World} {l : List Kc} {row : Option Nat} {v : Value} (h : RowAt n l v w) (hg : w.grownBy w' row) (hr : ∀ r, row = some r → ∃ o : Obj, w.heap[r]? = some o ∧ o.isCells = false) : RowAt n l v w' := by
  have hne : ∀ {e size k : Nat} {x : Value} {xs : List Value}, w.ownsRow n e size x k xs → w'.ownsRow n e size x k xs := fun hx => by
    refine hx.kept hg ?_
    cases hv : Value.ownBlock _ with
    | none => exact .inl rfl
    | some g =>
      right
      intro he
      obtain ⟨ob, ho, hc⟩ := hr g he.symm
      obtain ⟨cs', hb'⟩ := own_blk hx hv
      unfold Blk at hb'
      rw [hb'] at ho
      injection ho with ho
      subst ho
      cases hc
  obtain ⟨L, h1, h2, h3⟩ := h
  exact ⟨L, hne h1, h2, fun j hj => ⟨(h3 j hj).d, hne (h3 j hj).c, hne (h3 j hj).i⟩⟩
theorem encK_one1 (y : Kv) : encK [y] = [y.c.val, .int .i64 y.d, y.i.val] := rfl
theorem blk_rdS {w : World} {g : Nat} {y : Kv} (h : Blk w g 66 y.cells) : RdS w (some ⟨g, 0, none⟩) 1 3 (encK [y]) := by
  refine ⟨rfl, .inr ⟨_, rfl, h.lt, fun k u hk => ?_⟩⟩
  have : (⟨g, 0, none⟩ : Addr).add k = ⟨g, k, none⟩ := by unfold Addr.add; split <;> simp_all
  rw [this, h.cell]
  simpa [encK] using hk
/-- what is known between the rounds -/
structure Lx (w : World) (ks : List Kc) (W : World) : Prop where
  bel : Below w.heap.size w W
  row : ∃ v, Blk W w.heap.size 58 #[v] ∧ RowAt w.heap.size ks v W
theorem Lx.step {w W W' : World} {ks : List Kc} (h : Lx w ks W) (hb : Below W.heap.size W W') : Lx w ks W' := by
  obtain ⟨v, h1, h2⟩ := h.row
  exact ⟨h.bel.trans (hb.mono h.bel.size), v, h1.below hb h1.lt, h2.step hb⟩
theorem Lx.lt {w W : World} {ks : List Kc} (h : Lx w ks W) : w.heap.size < W.heap.size := by
  obtain ⟨v, h1, h2⟩ := h.row
  exact h1.lt
theorem Lx.own {w W W' : World} {ks : List Kc} {row : Option Nat} {n : Nat} (h : Lx w ks W) (hn : w.heap.size ≤ n) (hg : W.grownBy W' row) (hr : ∀ r, row = some r → n ≤ r ∧ ∃ o : Obj, W.heap[r]? = some o ∧ o.isCells = false) : Lx w ks W' := by
  have hr' : ∀ r, row = some r → ∃ o : Obj, W.heap[r]? = some o ∧ o.isCells = false := fun r e => (hr r e).2
  obtain ⟨v, h1, h2⟩ := h.row
  exact ⟨h.bel.grown hg h.bel.size (fun k e => Nat.le_trans hn (hr k e).1), v, blk_own h1 hg hr', h2.own hg hr'⟩
def ListIs (l : List Kc) (w : World) (e : Ending) (w' : World) : Prop := ∃ v, e = .returned v ∧ RowAt w.heap.size l v w' ∧ Below w.heap.size w w'
theorem kept_from {B : Nat} {W W' : World} {row : Option Nat} (hg : W.grownBy W' row) (hr : ∀ g, row = some g → ∃ t cs, Blk W g t cs) : KeepsFrom B W W' :=
  ⟨hg.size, fun k ob _ hk hc => (hg.block k (Array.getElem?_eq_some_iff.1 hk).1 (fun e => by
    obtain ⟨t, cs, hb⟩ := hr k e.symm
    unfold Blk at hb
    rw [hb] at hk
    injection hk with hk
    subst hk
    cases hc)).trans hk⟩
theorem list_all (l : List Kc) (n : Nat) (h : n = l.length) : (upF n n).map (fun i => kcAt l i.1) = l := by
  subst h
  rw [upF_all]
  refine List.ext_getElem (by simp) (fun i h1 h2 => ?_)
  simp [kcAt, List.getD, h2]
set_option maxRecDepth 8000 in
set_option maxHeartbeats 4000000 in
theorem store_List (q : Option Addr) (L : List Kv) (l : List Kc) (w : World) (hK : Keeps w.heap.size w q L) (hA : AllK w L l) (hg : GoodL l) (hL : L.length ≤ 1000000) :
    Calls Try.prog 44 #[.pointer q] w (ListIs l w) := by
  refine (callsIn_wide (n := 10)).1 ?_
  refine callsIn_of_wp_marks Try.func44 rfl trivial ?_ rfl
  simp only [Try.ntmps44, List.size_toArray, List.length_cons, List.length_nil, Nat.reduceAdd, Nat.reduceSub, Array.replicate_succ, Array.replicate_zero, List.push_toArray, List.append_toArray, List.nil_append, List.cons_append]
  gi_wp2_with (refine ⟨trivial, ?_⟩; gi_at_call 101; refine (all_in Fence.wide _ trivial rfl _ _).mono ?_; rintro e w' ⟨rfl, rfl⟩)
  obtain ⟨W0, hW0⟩ : ∃ W0, ((w.alloc (.cells #[.slice none 0 0] 58)).alloc (.cells #[.pointer q] 61)) = W0 := ⟨_, rfl⟩
  have hI0 : Lx w [] W0 ∧ Blk W0 (w.heap.size + 1) 61 #[.pointer q] ∧ W0.heap.size = w.heap.size + 2 := by
    subst hW0
    have e0 := Blk.new w 58 #[.slice none 0 0]
    have e1 := Blk.new (w.alloc (.cells #[.slice none 0 0] 58)) 61 #[.pointer q]
    simp only [World.size_alloc] at e1
    exact ⟨⟨((Below.refl _ w).alloc (Nat.le_refl _) _).alloc (by simp) _, _, e0.alloc _, [], ⟨rfl, .inl ⟨rfl, rfl⟩⟩, AllO.nil _ _⟩, e1, by simp⟩
  obtain ⟨hI0, hb4, hsz⟩ := hI0
  simp only [hW0]
  clear hW0
  refine wpIn_rangeFunc_ownH rfl (by omega) (gf := 134) (lb := #[.pointer (some ⟨w.heap.size + 1, 0, none⟩)]) rfl trivial (enters_of Try.func134 (by kernel_rfl) rfl)
    (all_stops Fence.wide _ trivial rfl (by omega) (w.heap.size + 1) w.heap.size q L hL W0 (by omega) (by omega) (hb4.cell 0) (hK.below hI0.bel (by omega))) belowK_t (belowK_b (by omega)) (Below.refl _ _) (fun _ => rfl)
    (fun pre W => Lx w (pre.map fun i : Fin L.length => kcAt l i.1) W)
    (fun _ _ _ => False)
    (fun pre X Y row hs hg hr => hs.own (by omega) hg hr)
    (fun _ _ _ _ _ hs _ _ => hs)
    hI0
    (fun x a' W => ∃ Bx, w.heap.size < Bx ∧ Blk W Bx 66 (kvAt L x.1).cells ∧ a' = { tmps := #[.pointer q, undef, .slice none 0 0, .pointer (some ⟨w.heap.size, 0, none⟩), undef, .pointer (some ⟨Bx, 0, none⟩), .pointer q, .func (.func 134) #[] #[.pointer (some ⟨w.heap.size + 1, 0, none⟩)], .int .i64 (x.1 : Int), .agg (kvAt L x.1).cells, undef, undef, undef, undef, undef, undef], defers := [] })
    (fun x a' _ X Y row hs hg hr => by obtain ⟨Bx, h1, h2, h3⟩ := hs; exact ⟨Bx, h1, blk_own h2 hg (fun r e => (hr r e).2), h3⟩)
    ?assign ?body ?done ?stop
  case assign =>
    rintro l0 pre x W K hI hK
    have hbs := hI.bel.size
    dsimp only [encsF]
    gi_wp2
    exact hK _ _ ((KeepsOthers.alloc _ _).from _) ((Below.refl _ W).alloc hbs _) (hI.step ((Below.refl _ W).alloc (Nat.le_refl _) _)) ⟨W.heap.size, hI.lt, Blk.new W _ _, rfl⟩
  case body =>
    rintro l0 pre x a' W hl ⟨r, hr⟩ hI ⟨Bx, hBx, bX, rfl⟩ hlt
    have hkv := (hA.2 x.1 x.2).below hI.bel (Nat.le_refl _)
    have hgk := hg.at (j := x.1) (by have := hA.1; have := x.2; omega)
    generalize hxv : kvAt L x.1 = xv at hkv bX ⊢
    have hcl := hkv.c.len
    have hil : (kcAt l x.1).i.length = xv.i.n := hkv.i.len
    obtain ⟨V, hbV, hrV⟩ := hI.row
    have hsl := hI.lt
    have hBl := bX.lt
    gi_wp2
    refine wpIn_region_inv3 (fun D az wz => ∃ x10 x11 x12 x13 x14 u : Value, az = ⟨#[.pointer q, undef, .slice none 0 0, .pointer (some ⟨w.heap.size, 0, none⟩), undef, .pointer (some ⟨Bx, 0, none⟩), .pointer q, .func (.func 134) #[] #[.pointer (some ⟨w.heap.size + 1, 0, none⟩)], .int .i64 (x.1 : Int), .agg xv.cells, x10, x11, x12, x13, x14, undef], []⟩ ∧ (Below w.heap.size W wz ∧ KeepsFrom W0.heap.size W wz ∧ W.heap.size ≤ wz.heap.size ∧ Blk wz w.heap.size 58 #[u]) ∧ (¬ D 0 → u = V) ∧ (¬ D 1 → Blk wz Bx 66 xv.cells) ∧ (¬ D 2 → KvR wz xv (kcAt l x.1)) ∧ (¬ D 4 → RowAt w.heap.size (pre.map fun i : Fin L.length => kcAt l i.1) V wz) ∧ (D 0 → x10 = V) ∧ (D 1 → x11 = .agg xv.cells) ∧ (D 2 → (D 1 ∧ ∃ y : Kv, x12 = .agg y.cells ∧ KvO w.heap.size wz y (kcAt l x.1))) ∧ (D 3 → (D 2 ∧ ∃ (y : Kv) (g : Nat), x12 = .agg y.cells ∧ KvO w.heap.size wz y (kcAt l x.1) ∧ x13 = .slice (some ⟨g, 0, none⟩) 1 1 ∧ (¬ D 4 → Blk wz g 66 y.cells))) ∧ (D 4 → (D 3 ∧ D 0 ∧ RowAt w.heap.size ((pre.map fun i : Fin L.length => kcAt l i.1) ++ [kcAt l x.1]) x14 wz)) ∧ (D 5 → (D 4 ∧ u = x14))) (by kernel_rfl) (by kernel_rfl) (by kernel_rfl) (by rintro ⟨_, _, h⟩; exact h) ?h0 ?hstep ?hdone
    case h0 =>
      have hdr := Dr.below (Dr.refl W).drew W.heap.size
      exact ⟨_, _, _, _, _, _, rfl, ⟨hdr.mono hI.bel.size, (KeepsOthers.drew W).from _, hdr.size, hbV.below hdr hbV.lt⟩, fun _ => rfl, fun _ => bX.below hdr bX.lt, fun _ => hkv.below hdr (Nat.le_refl _), fun _ => hrV.step hdr, fun h => absurd h (by decide), fun h => absurd h (by decide), fun h => absurd h (by decide), fun h => absurd h (by decide), fun h => absurd h (by decide), fun h => absurd h (by decide)⟩
    case hstep =>
      intro D az wz i hi' hn hd' hI2
      obtain ⟨x10, x11, x12, x13, x14, u, rfl, ⟨hbz, hkf, hsz2, b0⟩, g0, g1, g2, g4, f0, f1, f2, f3, f4, f5⟩ := hI2
      have hi' : i < 6 := hi'
      rcases (show i = 0 ∨ i = 1 ∨ i = 2 ∨ i = 3 ∨ i = 4 ∨ i = 5 by omega) with rfl | rfl | rfl | rfl | rfl | rfl
      · -- 0
        refine wpOp_step rfl (fun K hK => ?_)
        have hK : Shut _ := hK
        obtain rfl := g0 hn
        obtain ⟨sV, hsV, _⟩ := hrV.sl
        have cz : wz.cell? ⟨w.heap.size, 0, none⟩ = some u := b0.cell 0
        go_simp
        try simp only [Act.put, List.getElem_toArray, List.getElem_cons_succ, List.getElem_cons_zero, List.setIfInBounds_toArray, List.set_cons_zero, List.set_cons_succ]
        refine hK.out _ _ ⟨_, _, _, _, _, _, rfl, ⟨hbz, hkf, hsz2, b0⟩, (fun h => (h (by simp)).elim), (fun h => g1 (fun e => h (Or.inr e))), (fun h => g2 (fun e => h (Or.inr e))), (fun h => g4 (fun e => h (Or.inr e))), fun _ => hsV.symm, fun h => h.elim (fun e => absurd e (by decide)) f1, fun h => h.elim (fun e => absurd e (by decide)) (fun h => ⟨Or.inr (f2 h).1, (f2 h).2⟩), fun h => h.elim (fun e => absurd e (by decide)) (fun h => by obtain ⟨m2, y, g, a1, a2, a3, a4⟩ := f3 h; exact ⟨Or.inr m2, y, g, a1, a2, a3, fun h => a4 (fun e => h (Or.inr e))⟩), fun h => h.elim (fun e => absurd e (by decide)) (fun h => absurd (f4 h).2.1 hn), fun h => h.elim (fun e => absurd e (by decide)) (fun h => ⟨Or.inr (f5 h).1, (f5 h).2⟩)⟩
      · -- 1
        refine wpOp_step rfl (fun K hK => ?_)
        have hK : Shut _ := hK
        have bx := g1 hn
        have c0 : wz.cell? ⟨Bx, 0, none⟩ = some (xv.c.val) := bx.cell 0
        have c1 : wz.cell? ⟨Bx, 1, none⟩ = some (.int .i64 xv.d) := bx.cell 1
        have c2 : wz.cell? ⟨Bx, 2, none⟩ = some (xv.i.val) := bx.cell 2
        go_simp
        try simp only [Act.put, List.getElem_toArray, List.getElem_cons_succ, List.getElem_cons_zero, List.setIfInBounds_toArray, List.set_cons_zero, List.set_cons_succ]
        refine hK.out _ _ ⟨_, _, _, _, _, _, rfl, ⟨hbz, hkf, hsz2, b0⟩, (fun h => g0 (fun e => h (Or.inr e))), (fun h => (h (by simp)).elim), (fun h => g2 (fun e => h (Or.inr e))), (fun h => g4 (fun e => h (Or.inr e))), fun h => h.elim (fun e => absurd e (by decide)) f0, fun _ => rfl, fun h => h.elim (fun e => absurd e (by decide)) (fun h => absurd (f2 h).1 hn), fun h => h.elim (fun e => absurd e (by decide)) (fun h => absurd (f2 (f3 h).1).1 hn), fun h => h.elim (fun e => absurd e (by decide)) (fun h => ⟨Or.inr (f4 h).1, Or.inr (f4 h).2.1, (f4 h).2.2⟩), fun h => h.elim (fun e => absurd e (by decide)) (fun h => ⟨Or.inr (f5 h).1, (f5 h).2⟩)⟩
      · -- 2
        have d1 := f1 (hd' 1 (by kernel_rfl))
        refine wpOp_step rfl (fun K hK => ?_)
        have hK : Shut _ := hK
        have m1 : D 1 := hd' 1 (by kernel_rfl)
        have hkz := g2 hn
        subst d1
        go_wp2_with (go_at_call 105; refine (store_own xv (kcAt l x.1).c (kcAt l x.1).i wz hkz.c hkz.i (by have := hgk.c; omega) (by have := hgk.i; omega)).mono ?_; rintro e wy ⟨y, rfl, hyd, hyc, hyi, hbs⟩)
        try simp only [Act.put, List.getElem_toArray, List.getElem_cons_succ, List.getElem_cons_zero, List.setIfInBounds_toArray, List.set_cons_zero, List.set_cons_succ]
        exact ⟨_, _, _, _, _, _, rfl, ⟨hbz.trans (hbs.mono (Nat.le_trans hI.bel.size hsz2)), hkf.trans (keeps_below hbs), Nat.le_trans hsz2 hbs.size, b0.below hbs b0.lt⟩, (fun h => g0 (fun e => h (Or.inr e))), (fun h => (g1 (fun e => h (Or.inr e))).below hbs (g1 (fun e => h (Or.inr e))).lt), (fun h => (h (by simp)).elim), (fun h => (g4 (fun e => h (Or.inr e))).step hbs), fun h => h.elim (fun e => absurd e (by decide)) f0, fun _ => rfl, fun _ => ⟨Or.inr m1, y, rfl, hyd.trans hkz.d, own_low hyc (Nat.le_trans hI.bel.size hsz2), own_low hyi (Nat.le_trans hI.bel.size hsz2)⟩, fun h => h.elim (fun e => absurd e (by decide)) (fun h => absurd (f3 h).1 hn), fun h => h.elim (fun e => absurd e (by decide)) (fun h => absurd (f3 (f4 h).1).1 hn), fun h => h.elim (fun e => absurd e (by decide)) (fun h => ⟨Or.inr (f5 h).1, (f5 h).2⟩)⟩
      · -- 3
        have d2 := f2 (hd' 2 (by kernel_rfl))
        refine wpOp_step rfl (fun K hK => ?_)
        have hK : Shut _ := hK
        have m2 : D 2 := hd' 2 (by kernel_rfl)
        obtain ⟨m1, y, rfl, hyo⟩ := d2
        have hyd := hide hyo
        clear hyo
        have hbs := (Below.refl wz.heap.size wz).alloc (Nat.le_refl _) (.cells y.cells 66)
        go_simp
        try simp only [Act.put, List.getElem_toArray, List.getElem_cons_succ, List.getElem_cons_zero, List.setIfInBounds_toArray, List.set_cons_zero, List.set_cons_succ]
        refine hK.out _ _ ⟨_, _, _, _, _, _, rfl, ⟨hbz.trans (hbs.mono (Nat.le_trans hI.bel.size hsz2)), hkf.trans (keeps_below hbs), Nat.le_trans hsz2 hbs.size, b0.below hbs b0.lt⟩, (fun h => g0 (fun e => h (Or.inr e))), (fun h => (g1 (fun e => h (Or.inr e))).below hbs (g1 (fun e => h (Or.inr e))).lt), (fun h => (g2 (fun e => h (Or.inr e))).below hbs (Nat.le_refl _)), (fun h => (g4 (fun e => h (Or.inr e))).step hbs), fun h => h.elim (fun e => absurd e (by decide)) f0, fun h => h.elim (fun e => absurd e (by decide)) f1, fun _ => ⟨Or.inr m1, y, rfl, hyd.out.step hbs⟩, fun _ => ⟨Or.inr m2, y, _, rfl, hyd.out.step hbs, rfl, fun _ => Blk.new wz 66 y.cells⟩, fun h => h.elim (fun e => absurd e (by decide)) (fun h => absurd (f4 h).1 hn), fun h => h.elim (fun e => absurd e (by decide)) (fun h => ⟨Or.inr (f5 h).1, (f5 h).2⟩)⟩
      · -- 4
        have d0 := f0 (hd' 0 (by kernel_rfl))
        have d3 := f3 (hd' 3 (by kernel_rfl))
        refine wpOp_step rfl (fun K hK => ?_)
        have hK : Shut _ := hK
        have m3 : D 3 := hd' 3 (by kernel_rfl)
        have m0 : D 0 := hd' 0 (by kernel_rfl)
        have m2 := d3.1
        have m1 := (f2 m2).1
        obtain ⟨_, y, g, rfl, hyo, rfl, hbg⟩ := d3
        have hbg := hbg hn
        subst d0
        obtain ⟨L0, hro, hra⟩ := g4 hn
        have hlen : L0.length = pre.length := by have := hra.1; simpa using this
        refine step_append_rdS rfl (.tmp 10) (.tmp 13) 58 rfl (by kernel_rfl) k_kept rfl (by decide) rfl rfl hro (Nat.le_trans hI.bel.size hsz2) (blk_rdS hbg) encK_one (by unfold maxLen; omega) (by omega) ?_
        intro v1 w1 hown hgr
        have hoff : OffRow wz (Value.ownBlock x10) := fun g e => by obtain ⟨cs, hb⟩ := own_blk hro e; exact ⟨66, cs, hb, by decide, by decide⟩
        rw [← encK_app] at hown
        have hnew : RowAt w.heap.size ((pre.map fun i : Fin L.length => kcAt l i.1) ++ [kcAt l x.1]) v1 w1 := ⟨L0 ++ [y], by simpa using hown, (hra.kept hgr hoff).snoc (hyo.kept hgr hoff)⟩
        try simp only [Act.put, List.getElem_toArray, List.getElem_cons_succ, List.getElem_cons_zero, List.setIfInBounds_toArray, List.set_cons_zero, List.set_cons_succ]
        refine hK.out _ _ ⟨_, _, _, _, _, _, rfl, ⟨hbz.grown hgr (Nat.le_trans hI.bel.size hsz2) (fun k e => (hro.lt k e).1), hkf.trans (kept_from hgr (fun g e => by obtain ⟨cs, hb⟩ := own_blk hro e; exact ⟨_, cs, hb⟩)), Nat.le_trans hsz2 hgr.size, b0.grown hgr (own_blk_ne hro b0 (by decide))⟩, (fun h => g0 (fun e => h (Or.inr e))), (fun h => (h (by simp [m1])).elim), (fun h => (h (by simp [m2])).elim), (fun h => (h (by simp)).elim), fun _ => rfl, fun h => h.elim (fun e => absurd e (by decide)) f1, fun _ => ⟨Or.inr m1, y, rfl, hyo.kept hgr hoff⟩, fun _ => ⟨Or.inr m2, y, g, rfl, hyo.kept hgr hoff, rfl, fun h => (h (by simp)).elim⟩, fun _ => ⟨Or.inr m3, Or.inr m0, hnew⟩, fun h => h.elim (fun e => absurd e (by decide)) (fun h => absurd (f5 h).1 hn)⟩
      · -- 5
        have d4 := f4 (hd' 4 (by kernel_rfl))
        refine wpOp_step rfl (fun K hK => ?_)
        have hK : Shut _ := hK
        have m4 : D 4 := hd' 4 (by kernel_rfl)
        obtain ⟨m3, m0, hrn⟩ := d4
        have m1 := (f2 (f3 m3).1).1
        obtain ⟨m2, y, g, rfl, a2, rfl, _⟩ := f3 m3
        have a2 := hide a2
        obtain ⟨sN, rfl, hsn⟩ := hrn.sl
        clear hsn
        have cz : wz.cell? ⟨w.heap.size, 0, none⟩ = some u := b0.cell 0
        have fz := b0.frozen 0
        have hgr := grownBy_setCell' wz w.heap.size sN.val
        have hrn2 := hide (hrn.far (u := sN.val) b0 (by decide) (by decide) (by decide))
        clear hrn
        go_simp
        try simp only [Act.put, List.getElem_toArray, List.getElem_cons_succ, List.getElem_cons_zero, List.setIfInBounds_toArray, List.set_cons_zero, List.set_cons_succ]
        refine hK.out _ _ ⟨_, _, _, _, _, _, rfl, ⟨hbz.setCell (p := ⟨w.heap.size, 0, none⟩) (Nat.le_refl _) _, hkf.trans ((KeepsOthers.setCell _ _ _).from _), by simpa using hsz2, by simpa using b0.set_ 0 sN.val⟩, (fun h => (h (by simp [m0])).elim), (fun h => (h (by simp [m1])).elim), (fun h => (h (by simp [m2])).elim), (fun h => (h (by simp [m4])).elim), fun h => h.elim (fun e => absurd e (by decide)) f0, fun h => h.elim (fun e => absurd e (by decide)) f1, fun _ => ⟨Or.inr m1, y, rfl, a2.out.kept hgr (fun g e => by cases e; exact ⟨_, _, b0, by decide, by decide⟩)⟩, fun _ => ⟨Or.inr m2, y, g, rfl, a2.out.kept hgr (fun g e => by cases e; exact ⟨_, _, b0, by decide, by decide⟩), rfl, fun h => (h (by simp [m4])).elim⟩, fun _ => ⟨Or.inr m3, Or.inr m0, hrn2.out⟩, fun _ => ⟨Or.inr m4, rfl⟩⟩
    case hdone =>
      rintro D az wz hD ⟨x10, x11, x12, x13, x14, u, rfl, ⟨hbz, hkf, hsz2, b0⟩, g0, g1, g2, g4, f0, f1, f2, f3, f4, f5⟩
      obtain ⟨m4, rfl⟩ := f5 (hD 5)
      obtain ⟨_, _, hrn⟩ := f4 (hD 4)
      gi_wp2
      exact ⟨by rw [← hsz]; exact hkf, hbz, hI.bel.trans hbz, u, b0, by rw [List.map_append]; exact hrn⟩
  case done =>
    rintro D ys W hD rfl hI hKD
    have hI : Lx w ((upF L.length L.length).map fun i : Fin L.length => kcAt l i.1) W := hI
    rw [list_all l L.length hA.1] at hI
    obtain ⟨V, hb, hrV⟩ := hI.row
    obtain ⟨sV, rfl, hx⟩ := hrV.sl
    clear hx
    have hc : W.cell? ⟨w.heap.size, 0, none⟩ = some sV.val := hb.cell 0
    gi_wp2
    refine ⟨by simp, .inl ⟨_, _, rfl, run_takeDeferred hKD, ?_⟩⟩
    exact ⟨_, results_tmp rfl _ _ _, sV.val, rfl, hrV.own (grownBy_putObj' W D (.deferred none)) (fun r e => by cases e; exact ⟨_, hKD, rfl⟩), hI.bel.trans (belowK_b (w := w) (Nat.le_refl _) W D _ _ (by have := hI0.bel.size; omega) hKD rfl rfl)⟩
  case stop =>
    rintro D c pre W _ _ h _
    exact h.elim
end Go.Proofs.Ytcjoohaagdihlaa.Kept
end

section
/- Contracts on cubes: whether one covers another one, and the cube of a state alone. -/
namespace Go.Proofs.Ytcjoohaagdihlaa.Cube
open Go.RowKit Go.Lt Go.Proofs.Ytcjoohaagdihlaa.Lit
set_option linter.unusedVariables false
set_option linter.unusedSimpArgs false

theorem info_c : (Try.prog.info? 3).map (fun i => (i.zero, i.size, i.bytes)) = some (some (.int .i64 0), 1, 8) := by kernel_rfl
/-- whether a cube says no more than another one -/
def covB (a b : List Int) : Bool := a.all (hasB b)
theorem cov_no {a b : List Int} {k : Nat} {x : Int} (hx : a[k]? = some x) (h : hasB b x = false) : covB a b = false := by
  unfold covB; rw [List.all_eq_false]; exact ⟨x, List.mem_of_getElem? hx, by rw [h]; simp⟩
theorem cov_yes {a b : List Int} (h : ∀ k : Nat, k < a.length → ∀ x, a[k]? = some x → hasB b x = true) : covB a b = true := by
  unfold covB; rw [List.all_eq_true]
  intro x hx
  obtain ⟨i, hi⟩ := List.getElem?_of_mem hx
  exact h i (List.getElem?_eq_some_iff.1 hi).1 x hi
theorem has_is {A : Option Addr} {n c : Nat} {l : List Int} {x : Int} {b : Bool} (h : hasB l x = b) (hn : n ≤ 1000000) : ∀ W : World, Rd W A n (ivs l) →
    Calls Try.prog 92 #[.slice A n c, .int .i64 x] W fun e w' => e = .returned (.bool b) ∧ W = w' := by
  subst h; exact fun W hr => lit_Has A n c l x W hn hr
theorem rhas_is {A : Option Addr} {n c : Nat} {l : List Int} {x : Int} {b : Bool} (h : hasB l x = b) (hn : n ≤ 1000000) : ∀ W : World, Rd W A n (ivs l) →
    Calls Try.prog 95 #[.slice A n c, .int .i64 x] W fun e w' => e = .returned (.bool b) ∧ W = w' := by
  subst h; exact fun W hr => ref_Has A n c l x W hn hr

theorem cube_Covers (A B : Option Addr) (n m ca cb : Nat) (a b : List Int) (w : World) (hn : n ≤ 1000000) (hm : m ≤ 1000000) (hra : Rd w A n (ivs a)) (hrb : Rd w B m (ivs b)) :
    Calls Try.prog 102 #[.slice A n ca, .slice B m cb] w fun e w' => e = .returned (.bool (covB a b)) ∧ w = w' := by
  have hl := hide hra.len
  go_enter Try.func102, Try.ntmps102
  go_wp2
  go_loop [9] (fun i => ∃ k : Nat, k ≤ n ∧ i = .int .i64 k ∧ Hid (∀ j : Nat, j < k → ∀ x, a[j]? = some x → hasB b x = true)) (fun i => n - (intOf i).toNat)
  case atStart => exact ⟨0, Nat.zero_le _, rfl, fun j hj => absurd hj (Nat.not_lt_zero _)⟩
  case round =>
    obtain ⟨k, hk, rfl, hno⟩ := hrel
    by_cases hlt : k < n
    · obtain ⟨ad, x, rfl, hB, hx, hc⟩ := hra.get hlt
      cases hh : hasB b x
      · have hF := hide (cov_no hx hh)
        have H := hide (has_is (A := B) (n := m) (c := cb) hh hm _ hrb)
        clear hx hh
        go_wp2_with fail
        refine H.out.mono ?_
        rintro e w1 ⟨rfl, rfl⟩
        go_wp2
        go_ret
        exact ⟨ret_bool hF.out.symm, rfl⟩
      · have hN := hide (show ∀ j : Nat, j < k + 1 → ∀ x, a[j]? = some x → hasB b x = true from fun j hj y hy => by
          by_cases h1 : j < k
          · exact hno.out j h1 y hy
          · have : j = k := by omega
            subst this
            rw [hx] at hy; injection hy with hy; subst hy; exact hh)
        have H := hide (has_is (A := B) (n := m) (c := cb) hh hm _ hrb)
        clear hx hh
        go_wp2_with fail
        refine H.out.mono ?_
        rintro e w1 ⟨rfl, rfl⟩
        go_wp2
        go_round
        case rel => exact ⟨k + 1, hlt, by go_num, hN.out⟩
        case measure => simp [intOf]; omega
    · have hkn : n = k := by omega
      subst hkn
      have HF := hide (cov_yes (fun j hj => hno.out j (by have := hl.out; omega)))
      clear hno
      go_wp2
      go_ret
      exact ⟨ret_bool HF.out.symm, rfl⟩

theorem ref_Covers (A B : Option Addr) (n m ca cb : Nat) (a b : List Int) (w : World) (hn : n ≤ 1000000) (hm : m ≤ 1000000) (hra : Rd w A n (ivs a)) (hrb : Rd w B m (ivs b)) :
    Calls Try.prog 45 #[.slice A n ca, .slice B m cb] w fun e w' => e = .returned (.bool (covB a b)) ∧ w = w' := by
  have hl := hide hra.len
  go_enter Try.func45, Try.ntmps45
  go_wp2
  go_loop [5] (fun i => ∃ k : Nat, k ≤ n ∧ i = .int .i64 k ∧ Hid (∀ j : Nat, j < k → ∀ x, a[j]? = some x → hasB b x = true)) (fun i => n - (intOf i).toNat)
  case atStart => exact ⟨0, Nat.zero_le _, rfl, fun j hj => absurd hj (Nat.not_lt_zero _)⟩
  case round =>
    obtain ⟨k, hk, rfl, hno⟩ := hrel
    by_cases hlt : k < n
    · obtain ⟨ad, x, rfl, hB, hx, hc⟩ := hra.get hlt
      cases hh : hasB b x
      · have hF := hide (cov_no hx hh)
        have H := hide (rhas_is (A := B) (n := m) (c := cb) hh hm _ hrb)
        clear hx hh
        go_wp2_with fail
        refine H.out.mono ?_
        rintro e w1 ⟨rfl, rfl⟩
        go_wp2
        go_ret
        exact ⟨ret_bool hF.out.symm, rfl⟩
      · have hN := hide (show ∀ j : Nat, j < k + 1 → ∀ x, a[j]? = some x → hasB b x = true from fun j hj y hy => by
          by_cases h1 : j < k
          · exact hno.out j h1 y hy
          · have : j = k := by omega
            subst this
            rw [hx] at hy; injection hy with hy; subst hy; exact hh)
        have H := hide (rhas_is (A := B) (n := m) (c := cb) hh hm _ hrb)
        clear hx hh
        go_wp2_with fail
        refine H.out.mono ?_
        rintro e w1 ⟨rfl, rfl⟩
        go_wp2
        go_round
        case rel => exact ⟨k + 1, hlt, by go_num, hN.out⟩
        case measure => simp [intOf]; omega
    · have hkn : n = k := by omega
      subst hkn
      have HF := hide (cov_yes (fun j hj => hno.out j (by have := hl.out; omega)))
      clear hno
      go_wp2
      go_ret
      exact ⟨ret_bool HF.out.symm, rfl⟩

end Go.Proofs.Ytcjoohaagdihlaa.Cube
end

section
/- Deleting from a row of kept cubes, in place, by a function. -/
namespace Go.Proofs.Ytcjoohaagdihlaa.Kept
open Go.RowKit Go.Shelf Go.Lt Go.Proofs.Ytcjoohaagdihlaa.Lit Go.Proofs.Ytcjoohaagdihlaa.CubeHas Go.Proofs.Ytcjoohaagdihlaa.Cube
set_option linter.unusedVariables false
set_option linter.unusedSimpArgs false

/-- what the closure tells: no lesser depth, and covered -/
def strikes (dep : Int) (n : List Int) (k : Kc) : Bool := decide (k.d ≥ dep) && covB n k.c
set_option maxRecDepth 8000 in
set_option maxHeartbeats 2000000 in
theorem store_strikes (x : Kv) (k : Kc) (dep : Int) (a b : Nat) (s : Sl) (n : List Int) (w : World) (ha : w.cell? ⟨a, 0, none⟩ = some (.int .i64 dep)) (hb : w.cell? ⟨b, 0, none⟩ = some s.val) (hs : Rd w s.A s.n (ivs n)) (hsn : n.length ≤ 1000000) (hk : KvR w x k) (hkn : k.c.length ≤ 1000000) :
    Calls Try.prog 104 #[.agg x.cells, .pointer (some ⟨a, 0, none⟩), .pointer (some ⟨b, 0, none⟩)] w fun e w' => e = .returned (.bool (strikes dep n k)) ∧ Below w.heap.size w w' := by
  have hd := hk.d
  have hkl : k.c.length = x.c.n := hk.c.len
  have hnl : n.length = s.n := hs.len
  have hla := World.block_lt_of_cell? _ _ ha
  have hlb := World.block_lt_of_cell? _ _ hb
  have hbs := (Below.refl w.heap.size w).alloc (Nat.le_refl _) (.cells x.cells 66)
  have hcv := cube_Covers s.A x.c.A s.n x.c.n s.c x.c.c n k.c (w.alloc (.cells x.cells 66)) (by omega) (by omega) (hs.below hbs (Nat.le_refl _)) (hk.c.below hbs (Nat.le_refl _))
  have bX := Blk.new w 66 x.cells
  have c0 : (w.alloc (.cells x.cells 66)).cell? ⟨w.heap.size, 0, none⟩ = some (.slice x.c.A x.c.n x.c.c) := bX.cell 0
  have c1 : (w.alloc (.cells x.cells 66)).cell? ⟨w.heap.size, 1, none⟩ = some (.int .i64 x.d) := bX.cell 1
  have ha := keepCell hbs ha
  have hb := keepCell hbs hb
  unfold strikes
  rw [← hd]
  clear hd hk bX hs
  obtain ⟨W1, hW1⟩ : ∃ W1, (w.alloc (.cells x.cells 66)) = W1 := ⟨_, rfl⟩
  rw [hW1] at hbs hcv c0 c1 ha hb
  by_cases hge : x.d ≥ dep
  · have hd1 : decide (x.d ≥ dep) = true := decide_eq_true hge
    rw [hd1]
    have hge2 : dep ≤ x.d := hge
    cases hc : covB n k.c <;> rw [hc] at hcv
    all_goals
      clear hc
      go_enter Try.func104, Try.ntmps104
      go_wp2_with (go_at_call 102; refine hcv.mono ?_; rintro e w' ⟨rfl, rfl⟩)
      go_ret
      exact ⟨rfl, hbs⟩
  · have hd1 : decide (x.d ≥ dep) = false := decide_eq_false hge
    rw [hd1]
    have hge2 : ¬ dep ≤ x.d := hge
    clear hcv
    go_enter Try.func104, Try.ntmps104
    go_wp2
    go_ret
    exact ⟨rfl, hbs⟩
def IdxIs (p : Nat → Bool) (m : Nat) (w : World) (e : Ending) (w' : World) : Prop :=
  (e = .returned (.int .i64 (-1)) ∧ (∀ j, j < m → p j = false) ∧ Below w.heap.size w w') ∨ (∃ k : Nat, k < m ∧ e = .returned (.int .i64 k) ∧ p k = true ∧ (∀ j, j < k → p j = false) ∧ Below w.heap.size w w')
set_option maxRecDepth 8000 in
set_option maxHeartbeats 2000000 in
theorem idx_fn (A : Option Addr) (c : Nat) (L : List Kv) (p : Nat → Bool) (f1 f2 : Value) (w : World) (hr : RdK w A L.length L) (hm : L.length ≤ 1000000)
    (hp : ∀ W, Below w.heap.size w W → ∀ j, j < L.length → Calls Try.prog 104 #[.agg (kvAt L j).cells, f1, f2] W fun e W' => e = .returned (.bool (p j)) ∧ Below W.heap.size W W') :
    Calls Try.prog 135 #[.slice A L.length c, .func (.func 104) #[] #[f1, f2]] w (IdxIs p L.length w) := by
  have hmI : (L.length : Int) ≤ 1000000 := by omega
  go_enter Try.func135, Try.ntmps135
  go_wp2
  go_loopw [8] (fun i wr => ∃ k : Nat, k ≤ L.length ∧ i = .int .i64 k ∧ Below w.heap.size w wr ∧ Hid (∀ j, j < k → p j = false)) (fun i _ => L.length - (intOf i).toNat)
  case atStart => exact ⟨0, Nat.zero_le _, rfl, Below.refl _ _, hide (fun j hj => absurd hj (Nat.not_lt_zero _))⟩
  case round =>
    obtain ⟨k, hk, rfl, hb, hno⟩ := hrel
    by_cases hlt : k < L.length
    · have hltI : (k : Int) < L.length := by omega
      obtain ⟨ad, x, rfl, hB, hx, c0, c1, c2⟩ := hr.get hlt
      have hx' : kvAt L k = x := by unfold kvAt; rw [List.getD_eq_getElem?_getD, hx]; rfl
      have c0 := (hb.cell (p := ad.add (k * 3)) (by rw [add_block]; exact hB)).trans c0
      have c1 := (hb.cell (p := ⟨(ad.add (k * 3)).block, (ad.add (k * 3)).off + 1, none⟩) (by rw [add_block]; exact hB)).trans c1
      have c2 := (hb.cell (p := ⟨(ad.add (k * 3)).block, (ad.add (k * 3)).off + 2, none⟩) (by rw [add_block]; exact hB)).trans c2
      have hcall := hp wr hb k hlt
      rw [hx'] at hcall
      clear hx hx'
      cases hpk : p k with
      | true =>
        have HP := hide hpk
        rw [hpk] at hcall
        clear hpk
        go_wp2_with (go_at_call 104; refine hcall.mono ?_; rintro e w2 ⟨rfl, hb2⟩)
        go_ret
        exact .inr ⟨k, hlt, rfl, HP.out, hno.out, hb.trans (hb2.mono hb.size)⟩
      | false =>
        have HP := hide hpk
        rw [hpk] at hcall
        clear hpk
        go_wp2_with (go_at_call 104; refine hcall.mono ?_; rintro e w2 ⟨rfl, hb2⟩)
        go_roundw
        case rel => exact ⟨k + 1, by omega, by simp, hb.trans (hb2.mono hb.size), hide (fun j hj => by
          by_cases h1 : j = k
          · rw [h1]; exact HP.out
          · exact hno.out j (by omega))⟩
        case measure => simp [intOf]; omega
    · obtain rfl : k = L.length := by omega
      go_wp2
      go_ret
      exact .inl ⟨rfl, hno.out, hb⟩
end Go.Proofs.Ytcjoohaagdihlaa.Kept
end

section
/- Deleting from a row of kept cubes, in place, by a function: the row is cut to those that are not struck. -/
namespace Go.Lt
open Go.RowKit
/-- all lies as it lay, but for these blocks -/
structure Fr (S : Nat → Prop) (w w' : World) : Prop where
  os : w'.os = w.os
  tape : w'.tape = w.tape
  output : w'.output = w.output
  size : w.heap.size ≤ w'.heap.size
  block : ∀ k, k < w.heap.size → ¬ S k → w'.heap[k]? = w.heap[k]?
theorem Fr.refl (S : Nat → Prop) (w : World) : Fr S w w := ⟨rfl, rfl, rfl, Nat.le_refl _, fun _ _ _ => rfl⟩
theorem Fr.of_below {S : Nat → Prop} {w w' : World} (h : Below w.heap.size w w') : Fr S w w' := ⟨h.os, h.tape, h.output, h.size, fun k hk _ => h.block k hk⟩
theorem Fr.of_grown {S : Nat → Prop} {w w' : World} {row : Option Nat} (h : w.grownBy w' row) (hr : ∀ k, row = some k → S k ∨ w.heap.size ≤ k) : Fr S w w' :=
  ⟨h.os, h.tape, h.output, h.size, fun k hk hS => h.block k hk (fun e => by rcases hr k e.symm with h1 | h1; exact hS h1; omega)⟩
theorem Fr.trans {S : Nat → Prop} {a b c : World} (h : Fr S a b) (k : Fr S b c) : Fr S a c :=
  ⟨k.os.trans h.os, k.tape.trans h.tape, k.output.trans h.output, Nat.le_trans h.size k.size, fun i hi hS => (k.block i (Nat.lt_of_lt_of_le hi h.size) hS).trans (h.block i hi hS)⟩
theorem Fr.more {S S' : Nat → Prop} {a b : World} (h : Fr S a b) (hs : ∀ k, k < a.heap.size → S k → S' k) : Fr S' a b := ⟨h.os, h.tape, h.output, h.size, fun k hk hn => h.block k hk (fun e => hn (hs k hk e))⟩
/-- behind: what is turned may have been new -/
theorem Fr.then {S S' : Nat → Prop} {a b c : World} (h : Fr S a b) (k : Fr S' b c) (hs : ∀ i, i < a.heap.size → S' i → S i) : Fr S a c :=
  ⟨k.os.trans h.os, k.tape.trans h.tape, k.output.trans h.output, Nat.le_trans h.size k.size, fun i hi hS => (k.block i (Nat.lt_of_lt_of_le hi h.size) (fun e => hS (hs i hi e))).trans (h.block i hi hS)⟩
theorem Fr.below {S : Nat → Prop} {a b : World} {B : Nat} (h : Fr S a b) (hB : B ≤ a.heap.size) (hS : ∀ k, S k → B ≤ k) : Below B a b :=
  ⟨h.os, h.tape, h.output, h.size, fun k hk => h.block k (by omega) (fun e => by have := hS k e; omega)⟩
theorem Fr.cell {S : Nat → Prop} {a b : World} (h : Fr S a b) {p : Addr} {v : Value} (hp : a.cell? p = some v) (hS : ¬ S p.block) : b.cell? p = some v := by
  rw [World.cell?_of_block (h.block p.block (World.block_lt_of_cell? _ _ hp) hS)]; exact hp
theorem Fr.blk {S : Nat → Prop} {a b : World} (h : Fr S a b) {g : Nat} {t : TypeId} {cs : Array Value} (hp : Blk a g t cs) (hS : ¬ S g) : Blk b g t cs := (h.block g hp.lt hS).trans hp
theorem Fr.own {S : Nat → Prop} {a b : World} (h : Fr S a b) {base e size n : Nat} {v : Value} {xs : List Value} (ho : a.ownsRow base e size v n xs) (hS : ∀ g, v.ownBlock = some g → ¬ S g) : b.ownsRow base e size v n xs := by
  obtain ⟨h1, h2⟩ := ho
  refine ⟨h1, ?_⟩
  rcases h2 with h2 | ⟨g, cap, cur, rfl, h3, h4, h5⟩
  · exact .inl h2
  · exact .inr ⟨g, cap, cur, rfl, h3, (h.block g (Array.getElem?_eq_some_iff.1 h4).1 (hS g rfl)).trans h4, h5⟩
theorem Fr.rd {S : Nat → Prop} {a b : World} (h : Fr S a b) {A : Option Addr} {n : Nat} {xs : List Value} (hr : Rd a A n xs) (hS : ∀ ad, A = some ad → ¬ S ad.block) : Rd b A n xs :=
  ⟨hr.1, fun k hk => by
    obtain ⟨ad, u, h1, h2, h3, h4⟩ := hr.2 k hk
    exact ⟨ad, u, h1, Nat.lt_of_lt_of_le h2 h.size, h3, h.cell h4 (by rw [add_block]; exact hS ad h1)⟩⟩
end Go.Lt
namespace Go.Proofs.Ytcjoohaagdihlaa.Kept
open Go.RowKit Go.Shelf Go.Lt Go.Proofs.Ytcjoohaagdihlaa.Lit Go.Proofs.Ytcjoohaagdihlaa.CubeHas Go.Proofs.Ytcjoohaagdihlaa.Cube
set_option linter.unusedVariables false
set_option linter.unusedSimpArgs false

theorem add0 (g k : Nat) : (⟨g, 0, none⟩ : Addr).add k = ⟨g, k, none⟩ := by unfold Addr.add; split <;> simp_all
theorem encK_set : ∀ (M : List Kv) (i : Nat) (x : Kv), i < M.length → (((encK M).set (i * 3) x.c.val).set (i * 3 + 1) (.int .i64 x.d)).set (i * 3 + 2) x.i.val = encK (M.set i x)
  | [], i, x, h => absurd h (Nat.not_lt_zero _)
  | y :: M, 0, x, h => rfl
  | y :: M, i + 1, x, h => by
    have ih := encK_set M i x (by simpa using h)
    rw [show (i + 1) * 3 = i * 3 + 1 + 1 + 1 by omega]
    rw [show encK (y :: M) = y.c.val :: .int .i64 y.d :: y.i.val :: encK M from rfl]
    simp only [List.set_cons_succ]
    rw [show encK (y :: M.set i x) = y.c.val :: .int .i64 y.d :: y.i.val :: encK (M.set i x) from rfl, ← ih]
/-- those that are not struck, of the first j -/
def kept (p : Nat → Bool) (L : List Kv) (j : Nat) : List Kv := ((List.range j).filter fun q => !p q).map (kvAt L)
theorem kept_yes {p : Nat → Bool} {L : List Kv} {j : Nat} (h : p j = false) : kept p L (j + 1) = kept p L j ++ [kvAt L j] := by
  unfold kept; rw [List.range_succ, List.filter_append, List.map_append]; simp [h]
theorem kept_no {p : Nat → Bool} {L : List Kv} {j : Nat} (h : p j = true) : kept p L (j + 1) = kept p L j := by
  unfold kept; rw [List.range_succ, List.filter_append, List.map_append]; simp [h]
theorem kept_len (p : Nat → Bool) (L : List Kv) (j : Nat) : (kept p L j).length ≤ j := by
  unfold kept; rw [List.length_map]; exact Nat.le_trans (List.length_filter_le _ _) (by simp)
theorem kept_all {p : Nat → Bool} {L : List Kv} : ∀ {j : Nat}, j ≤ L.length → (∀ q, q < j → p q = false) → kept p L j = L.take j
  | 0, _, _ => rfl
  | j + 1, hj, h => by
    rw [kept_yes (h j (by omega)), kept_all (by omega) (fun q hq => h q (by omega)), List.take_add_one, List.getElem?_eq_getElem (by omega)]
    simp [kvAt, List.getD, show j < L.length by omega]
theorem kept_mem {p : Nat → Bool} {L : List Kv} {j : Nat} (hj : j ≤ L.length) {x : Kv} (h : x ∈ kept p L j) : x ∈ L := by
  obtain ⟨q, hq, rfl⟩ := List.mem_map.1 h
  have : q < j := List.mem_range.1 (List.mem_filter.1 hq).1
  unfold kvAt
  rw [List.getD_eq_getElem?_getD, List.getElem?_eq_getElem (show q < L.length by omega)]
  exact List.getElem_mem _
theorem take_set_end (M : List Kv) (i : Nat) (x : Kv) (h : i < M.length) : (M.set i x).take (i + 1) = M.take i ++ [x] := by
  rw [List.take_add_one, List.getElem?_set_self h, List.take_set_of_le (Nat.le_refl _)]; rfl
/-- the rest of a row is cleared -/
theorem run_clear_own {w : World} {base g cap m i ty c : Nat} {M : List Kv} (h : w.ownsRow base 66 3 (.slice (some ⟨g, 0, none⟩) m cap) m (encK M)) (hi : i ≤ m) :
    ∃ w', (Builtin.clear_ #[58] ty #[.slice (some ⟨g, i * 3, none⟩) (m - i) c]).run Try.prog w = .ok (.tuple #[]) w' ∧ w'.ownsRow base 66 3 (.slice (some ⟨g, 0, none⟩) i cap) i (encK (M.take i)) ∧ w.grownBy w' (some g) := by
  have hpre : (encK M).take (i * 3) = encK (M.take i) := by
    have h1 : encK M = encK (M.take i) ++ encK (M.drop i) := by rw [← encK_app, List.take_append_drop]
    have hl : M.length = m := by have := h.1; rw [encK_len] at this; omega
    rw [h1, List.take_append_of_le_length (by rw [encK_len, List.length_take]; omega), List.take_of_length_le (by rw [encK_len, List.length_take]; omega)]
  have hl : M.length = m := by have := h.1; rw [encK_len] at this; omega
  obtain ⟨h1, h2⟩ := h
  rcases h2 with ⟨h3, _⟩ | ⟨g', cap', cur, hv, hbg, hg, hn, hm, hs, ht⟩
  · cases h3
  · injection hv with e1 _ e3
    injection e1 with e1
    injection e1 with e1 _ _
    subst e1 e3
    have hz : ∀ w : World, (zeroValue 66).run Try.prog w = .ok (.agg #[.slice none 0 0, .int .i64 0, .slice none 0 0]) w := fun w => by
      simp
    have hht : cur.toList.take (i * 3) = encK (M.take i) := by
      rw [← hpre, ← ht, List.take_take, Nat.min_eq_left (by omega)]
    rcases Nat.eq_zero_or_pos (m - i) with h0 | h0
    · have hu := run_underlying (P := Try.prog) (t := 58) (d := .slice 66) (by kernel_rfl)
      refine ⟨w, ?_, ⟨by rw [encK_len, List.length_take]; omega, .inr ⟨g, cap, cur, rfl, hbg, hg, by omega, hm, hs, hht⟩⟩, World.grownBy.refl _ _⟩
      rw [h0]
      simp [Builtin.clear_, hu]
    · have hu := run_underlying (P := Try.prog) (t := 58) (d := .slice 66) (by kernel_rfl)
      obtain ⟨zs, hzs⟩ : ∃ zs, (Builtin.zeroCells (Value.cells (.agg #[.slice none 0 0, .int .i64 0, .slice none 0 0])) (m - i)).toList = zs := ⟨_, rfl⟩
      have hzl : zs.length = (m - i) * 3 := by rw [← hzs]; simp [Builtin.zeroCells, Value.cells]
      have hz1 : ∀ v ∈ zs, v.oneCell' = true := by
        intro v hv
        rw [← hzs] at hv
        simp only [Builtin.zeroCells, Value.cells] at hv
        simp at hv
        obtain ⟨a, ha⟩ := hv
        have h3 : a % 3 = 0 ∨ a % 3 = 1 ∨ a % 3 = 2 := by omega
        rcases h3 with h3 | h3 | h3 <;> simp [h3] at ha <;> obtain ⟨_, rfl⟩ := ha <;> rfl
      have hst := run_storeCells_at Try.prog g (i * 3) 66 zs 0 cur w hg (by rw [hzl]; omega) hz1
      obtain ⟨new, hnew⟩ : ∃ new, (cur.toList.take (i * 3 + 0) ++ zs ++ cur.toList.drop (i * 3 + 0 + zs.length)).toArray = new := ⟨_, rfl⟩
      rw [hnew] at hst
      obtain ⟨q, hq⟩ : ∃ q, m - i = q + 1 := ⟨m - i - 1, by omega⟩
      refine ⟨w.setRow g new, ?_, ⟨by rw [encK_len, List.length_take]; omega, .inr ⟨g, cap, new, rfl, hbg, setRow_heap w g cur _ _ _ hg, by omega, hm, ?_, ?_⟩⟩, ⟨rfl, rfl, rfl, by simp, fun k _ hk => setRow_other w g k _ (fun e => hk (by simp [e]))⟩⟩
      · rw [hq] at hzs ⊢
        simp [Builtin.clear_, hu, hz, hzs, hst]
      · rw [← hnew]; simp [hzl]; omega
      · rw [← hnew]
        simp only [List.append_assoc, Nat.add_zero]
        rw [List.take_append_of_le_length (by simp; omega), List.take_take, Nat.min_self]
        exact hht
end Go.Proofs.Ytcjoohaagdihlaa.Kept
end
