/- Texts behind a row, one behind the other: Store3, CubeHas. -/
import Derived.Test.YtcjoohaagdihlaaWS5
import Derived.Test.YtcjoohaagdihlaaWS2
import Derived.Test.YtcjoohaagdihlaaWS1
section
/- What is kept, in memory of its own. -/
namespace Go.Proofs.Ytcjoohaagdihlaa.Kept
open Go.RowKit Go.Lt Go.Proofs.Ytcjoohaagdihlaa.Lit
set_option linter.unusedVariables false
set_option linter.unusedSimpArgs false

theorem own_low {w : World} {b b' e size n : Nat} {v : Value} {xs : List Value} (h : w.ownsRow b' e size v n xs) (hb : b ≤ b') : w.ownsRow b e size v n xs := by
  obtain ⟨h1, h2⟩ := h
  refine ⟨h1, ?_⟩
  rcases h2 with h2 | ⟨g, cap, cur, h3, h4, h5⟩
  · exact .inl h2
  · exact .inr ⟨g, cap, cur, h3, Nat.le_trans hb h4, h5⟩
theorem own_sl {w : World} {base e size n : Nat} {v : Value} {xs : List Value} (h : w.ownsRow base e size v n xs) : ∃ s : Sl, v = s.val ∧ s.n = n := by
  rcases own_cases h with ⟨rfl, rfl⟩ | ⟨g, c, rfl, _⟩
  · exact ⟨⟨none, 0, 0⟩, rfl, rfl⟩
  · exact ⟨⟨_, _, _⟩, rfl, rfl⟩
/-- a row of the call's own, that holds these -/
def OwnV (base : Nat) (e : TypeId) (x : Value) (xs : List Value) (w : World) : Prop := ∃ s : Sl, x = s.val ∧ w.ownsRow base e 1 s.val xs.length xs
theorem OwnV.of {base : Nat} {e : TypeId} {x : Value} {xs : List Value} {w : World} {n : Nat} (h : w.ownsRow base e 1 x n xs) : OwnV base e x xs w := by
  obtain ⟨s, rfl, _⟩ := own_sl h
  have hl := h.1
  rw [Nat.mul_one] at hl
  exact ⟨s, rfl, by rw [hl]; exact h⟩
theorem OwnV.step {base : Nat} {e : TypeId} {x : Value} {xs : List Value} {w w' : World} (h : OwnV base e x xs w) (hb : Below w.heap.size w w') : OwnV base e x xs w' := by
  obtain ⟨s, h1, h2⟩ := h
  exact ⟨s, h1, own_keep h2 hb⟩
theorem OwnV.far {base : Nat} {e : TypeId} {x : Value} {xs : List Value} {w : World} (h : OwnV base e x xs w) {b i : Nat} (hb : b < base) (u : Value) : OwnV base e x xs (w.setCell ⟨b, i, none⟩ u) := by
  obtain ⟨s, h1, h2⟩ := h
  refine ⟨s, h1, ownsRow_setCell_other h2 ?_ u⟩
  intro he
  exact own_low_ne h2 hb he.symm
/-- what is known between the steps: the box, the result's cells -/
structure Kw (w W : World) (d : Int) (u0 u2 : Value) : Prop where
  bel : Below w.heap.size w W
  size : w.heap.size + 2 ≤ W.heap.size
  b1 : Blk W w.heap.size 66 #[u0, .int .i64 d, u2]
  b2 : Blk W (w.heap.size + 1) 66 #[.slice none 0 0, .int .i64 0, .slice none 0 0]
theorem Kw.step {w W W' : World} {d : Int} {u0 u2 : Value} (h : Kw w W d u0 u2) (hb : Below W.heap.size W W') : Kw w W' d u0 u2 :=
  ⟨h.bel.trans (hb.mono h.bel.size), Nat.le_trans h.size hb.size, h.b1.below hb h.b1.lt, h.b2.below hb h.b2.lt⟩
theorem Kw.put0 {w W : World} {d : Int} {u0 u2 : Value} (h : Kw w W d u0 u2) (v : Value) : Kw w (W.setCell ⟨w.heap.size, 0, none⟩ v) d v u2 :=
  ⟨h.bel.setCell (p := ⟨w.heap.size, 0, none⟩) (Nat.le_refl _) _, by simpa using h.size, by simpa using h.b1.set_ 0 v, h.b2.far (by simp) _⟩
theorem Kw.put2 {w W : World} {d : Int} {u0 u2 : Value} (h : Kw w W d u0 u2) (v : Value) : Kw w (W.setCell ⟨w.heap.size, 2, none⟩ v) d u0 v :=
  ⟨h.bel.setCell (p := ⟨w.heap.size, 2, none⟩) (Nat.le_refl _) _, by simpa using h.size, by simpa using h.b1.set_ 2 v, h.b2.far (by simp) _⟩
/-- a copy in memory of its own -/
def OwnIs (d : Int) (c : List Int) (i : List Bool) (w : World) (e : Ending) (w' : World) : Prop := ∃ x : Kv, e = .returned (.agg x.cells) ∧ x.d = d ∧ w'.ownsRow w.heap.size 3 1 x.c.val (ivs c).length (ivs c) ∧ w'.ownsRow w.heap.size 4 1 x.i.val (bvs i).length (bvs i) ∧ Below w.heap.size w w'
set_option maxRecDepth 8000 in
set_option maxHeartbeats 4000000 in
theorem store_own (x : Kv) (kc : List Int) (ki : List Bool) (w : World) (hc : Rd w x.c.A x.c.n (ivs kc)) (hi : Rd w x.i.A x.i.n (bvs ki)) (hcn : x.c.n ≤ 1000000) (hin : x.i.n ≤ 1000000) :
    Calls Try.prog 105 #[.agg x.cells] w (OwnIs x.d kc ki w) := by
  have hc := hide hc
  have hi := hide hi
  have e1 := (Blk.new w 66 x.cells).alloc (.cells #[.slice none 0 0, .int .i64 0, .slice none 0 0] 66)
  have e2 := Blk.new (w.alloc (.cells x.cells 66)) 66 #[.slice none 0 0, .int .i64 0, .slice none 0 0]
  have hk : Kw w ((w.alloc (.cells x.cells 66)).alloc (.cells #[.slice none 0 0, .int .i64 0, .slice none 0 0] 66)) x.d x.c.val x.i.val :=
    ⟨((Below.refl _ _).alloc (Nat.le_refl _) _).alloc (by simp) _, by simp, e1, by simpa using e2⟩
  clear e1 e2
  go_enter Try.func105, Try.ntmps105
  go_wp2
  have hk := hk.step (Dr.below (Dr.refl _).drew _)
  refine wp_region_inv3 (fun D az wz => ∃ x3 x4 x5 x6 x7 x8 x9 x10 u0 u2 : Value, az = ⟨#[.agg x.cells, .pointer (some ⟨w.heap.size, 0, none⟩), .pointer (some ⟨w.heap.size + 1, 0, none⟩), x3, x4, x5, x6, x7, x8, x9, x10, undef], []⟩ ∧ Kw w wz x.d u0 u2 ∧ (¬ D 1 → u0 = x.c.val) ∧ (¬ D 4 → u2 = x.i.val) ∧ (D 0 → x3 = .pointer (some ⟨w.heap.size, 0, none⟩)) ∧ (D 1 → x4 = x.c.val) ∧ (D 2 → (D 1 ∧ OwnV (w.heap.size + 2) 3 x5 (ivs kc) wz)) ∧ (D 3 → x6 = .pointer (some ⟨w.heap.size, 2, none⟩)) ∧ (D 4 → x7 = x.i.val) ∧ (D 5 → (D 4 ∧ OwnV (w.heap.size + 2) 4 x8 (bvs ki) wz)) ∧ (D 6 → x9 = .pointer (some ⟨w.heap.size, 0, none⟩)) ∧ (D 7 → (D 2 ∧ u0 = x5)) ∧ (D 8 → x10 = .pointer (some ⟨w.heap.size, 2, none⟩)) ∧ (D 9 → (D 5 ∧ u2 = x8))) (by kernel_rfl) (by kernel_rfl) ?h0 ?hstep ?hdone
  case h0 =>
    refine ⟨_, _, _, _, _, _, _, _, _, _, rfl, hk, fun _ => rfl, fun _ => rfl, fun h => absurd h (by decide), fun h => absurd h (by decide), fun h => absurd h (by decide), fun h => absurd h (by decide), fun h => absurd h (by decide), fun h => absurd h (by decide), fun h => absurd h (by decide), fun h => absurd h (by decide), fun h => absurd h (by decide), fun h => absurd h (by decide)⟩
  case hstep =>
    intro D az wz i hi' hn hd' hI
    obtain ⟨x3, x4, x5, x6, x7, x8, x9, x10, u0, u2, rfl, hbz, g1, g4, f0, f1, f2, f3, f4, f5, f6, f7, f8, f9⟩ := hI
    have hi' : i < 10 := hi'
    rcases (show i = 0 ∨ i = 1 ∨ i = 2 ∨ i = 3 ∨ i = 4 ∨ i = 5 ∨ i = 6 ∨ i = 7 ∨ i = 8 ∨ i = 9 by omega) with rfl | rfl | rfl | rfl | rfl | rfl | rfl | rfl | rfl | rfl
    · -- 0
      refine wpOp_step rfl (fun K hK => ?_)
      have hK : Shut _ := hK
      go_simp
      try simp only [Act.put, List.getElem_toArray, List.getElem_cons_succ, List.getElem_cons_zero, List.setIfInBounds_toArray, List.set_cons_zero, List.set_cons_succ]
      refine hK.out _ _ ⟨_, _, _, _, _, _, _, _, _, _, rfl, hbz, (fun h => g1 (fun e => h (Or.inr e))), (fun h => g4 (fun e => h (Or.inr e))), fun _ => rfl, fun h => h.elim (fun e => absurd e (by decide)) f1, fun h => h.elim (fun e => absurd e (by decide)) (fun h => ⟨Or.inr (f2 h).1, (f2 h).2⟩), fun h => h.elim (fun e => absurd e (by decide)) f3, fun h => h.elim (fun e => absurd e (by decide)) f4, fun h => h.elim (fun e => absurd e (by decide)) (fun h => ⟨Or.inr (f5 h).1, (f5 h).2⟩), fun h => h.elim (fun e => absurd e (by decide)) f6, fun h => h.elim (fun e => absurd e (by decide)) (fun h => ⟨Or.inr (f7 h).1, (f7 h).2⟩), fun h => h.elim (fun e => absurd e (by decide)) f8, fun h => h.elim (fun e => absurd e (by decide)) (fun h => ⟨Or.inr (f9 h).1, (f9 h).2⟩)⟩
    · -- 1
      have d0 := f0 (hd' 0 (by kernel_rfl))
      refine wpOp_step rfl (fun K hK => ?_)
      have hK : Shut _ := hK
      subst d0
      obtain rfl := g1 hn
      have cz : wz.cell? ⟨w.heap.size, 0, none⟩ = some x.c.val := hbz.b1.cell 0
      go_simp
      try simp only [Act.put, List.getElem_toArray, List.getElem_cons_succ, List.getElem_cons_zero, List.setIfInBounds_toArray, List.set_cons_zero, List.set_cons_succ]
      refine hK.out _ _ ⟨_, _, _, _, _, _, _, _, _, _, rfl, hbz, (fun h => absurd (Or.inl rfl) h), (fun h => g4 (fun e => h (Or.inr e))), fun h => h.elim (fun e => absurd e (by decide)) f0, fun _ => rfl, fun h => h.elim (fun e => absurd e (by decide)) (fun h => ⟨Or.inr (f2 h).1, (f2 h).2⟩), fun h => h.elim (fun e => absurd e (by decide)) f3, fun h => h.elim (fun e => absurd e (by decide)) f4, fun h => h.elim (fun e => absurd e (by decide)) (fun h => ⟨Or.inr (f5 h).1, (f5 h).2⟩), fun h => h.elim (fun e => absurd e (by decide)) f6, fun h => h.elim (fun e => absurd e (by decide)) (fun h => ⟨Or.inr (f7 h).1, (f7 h).2⟩), fun h => h.elim (fun e => absurd e (by decide)) f8, fun h => h.elim (fun e => absurd e (by decide)) (fun h => ⟨Or.inr (f9 h).1, (f9 h).2⟩)⟩
    · -- 2
      have d1 := f1 (hd' 1 (by kernel_rfl))
      refine wpOp_step rfl (fun K hK => ?_)
      have hK : Shut _ := hK
      subst d1
      go_wp2_with (go_at_call 108; refine (clone_ints _ _ _ kc wz (hc.out.below hbz.bel (Nat.le_refl _)) hcn).mono ?_; rintro e wy ⟨v, rfl, hown, hbs⟩)
      try simp only [Act.put, List.getElem_toArray, List.getElem_cons_succ, List.getElem_cons_zero, List.setIfInBounds_toArray, List.set_cons_zero, List.set_cons_succ]
      exact ⟨_, _, _, _, _, _, _, _, _, _, rfl, hbz.step hbs, (fun h => g1 (fun e => h (Or.inr e))), (fun h => g4 (fun e => h (Or.inr e))), fun h => h.elim (fun e => absurd e (by decide)) f0, fun h => h.elim (fun e => absurd e (by decide)) (fun _ => rfl), fun _ => ⟨Or.inr (hd' 1 (by kernel_rfl)), OwnV.of (own_low hown hbz.size)⟩, fun h => h.elim (fun e => absurd e (by decide)) f3, fun h => h.elim (fun e => absurd e (by decide)) f4, fun h => h.elim (fun e => absurd e (by decide)) (fun h => ⟨Or.inr (f5 h).1, (f5 h).2.step hbs⟩), fun h => h.elim (fun e => absurd e (by decide)) f6, fun h => h.elim (fun e => absurd e (by decide)) (fun h => absurd (f7 h).1 hn), fun h => h.elim (fun e => absurd e (by decide)) f8, fun h => h.elim (fun e => absurd e (by decide)) (fun h => ⟨Or.inr (f9 h).1, (f9 h).2⟩)⟩
    · -- 3
      refine wpOp_step rfl (fun K hK => ?_)
      have hK : Shut _ := hK
      go_simp
      try simp only [Act.put, List.getElem_toArray, List.getElem_cons_succ, List.getElem_cons_zero, List.setIfInBounds_toArray, List.set_cons_zero, List.set_cons_succ]
      refine hK.out _ _ ⟨_, _, _, _, _, _, _, _, _, _, rfl, hbz, (fun h => g1 (fun e => h (Or.inr e))), (fun h => g4 (fun e => h (Or.inr e))), fun h => h.elim (fun e => absurd e (by decide)) f0, fun h => h.elim (fun e => absurd e (by decide)) f1, fun h => h.elim (fun e => absurd e (by decide)) (fun h => ⟨Or.inr (f2 h).1, (f2 h).2⟩), fun _ => rfl, fun h => h.elim (fun e => absurd e (by decide)) f4, fun h => h.elim (fun e => absurd e (by decide)) (fun h => ⟨Or.inr (f5 h).1, (f5 h).2⟩), fun h => h.elim (fun e => absurd e (by decide)) f6, fun h => h.elim (fun e => absurd e (by decide)) (fun h => ⟨Or.inr (f7 h).1, (f7 h).2⟩), fun h => h.elim (fun e => absurd e (by decide)) f8, fun h => h.elim (fun e => absurd e (by decide)) (fun h => ⟨Or.inr (f9 h).1, (f9 h).2⟩)⟩
    · -- 4
      have d3 := f3 (hd' 3 (by kernel_rfl))
      refine wpOp_step rfl (fun K hK => ?_)
      have hK : Shut _ := hK
      subst d3
      obtain rfl := g4 hn
      have cz : wz.cell? ⟨w.heap.size, 2, none⟩ = some x.i.val := hbz.b1.cell 2
      go_simp
      try simp only [Act.put, List.getElem_toArray, List.getElem_cons_succ, List.getElem_cons_zero, List.setIfInBounds_toArray, List.set_cons_zero, List.set_cons_succ]
      refine hK.out _ _ ⟨_, _, _, _, _, _, _, _, _, _, rfl, hbz, (fun h => g1 (fun e => h (Or.inr e))), (fun h => absurd (Or.inl rfl) h), fun h => h.elim (fun e => absurd e (by decide)) f0, fun h => h.elim (fun e => absurd e (by decide)) f1, fun h => h.elim (fun e => absurd e (by decide)) (fun h => ⟨Or.inr (f2 h).1, (f2 h).2⟩), fun h => h.elim (fun e => absurd e (by decide)) f3, fun _ => rfl, fun h => h.elim (fun e => absurd e (by decide)) (fun h => ⟨Or.inr (f5 h).1, (f5 h).2⟩), fun h => h.elim (fun e => absurd e (by decide)) f6, fun h => h.elim (fun e => absurd e (by decide)) (fun h => ⟨Or.inr (f7 h).1, (f7 h).2⟩), fun h => h.elim (fun e => absurd e (by decide)) f8, fun h => h.elim (fun e => absurd e (by decide)) (fun h => ⟨Or.inr (f9 h).1, (f9 h).2⟩)⟩
    · -- 5
      have d4 := f4 (hd' 4 (by kernel_rfl))
      refine wpOp_step rfl (fun K hK => ?_)
      have hK : Shut _ := hK
      subst d4
      go_wp2_with (go_at_call 136; refine (clone_bools _ _ _ ki wz (hi.out.below hbz.bel (Nat.le_refl _)) hin).mono ?_; rintro e wy ⟨v, rfl, hown, hbs⟩)
      try simp only [Act.put, List.getElem_toArray, List.getElem_cons_succ, List.getElem_cons_zero, List.setIfInBounds_toArray, List.set_cons_zero, List.set_cons_succ]
      exact ⟨_, _, _, _, _, _, _, _, _, _, rfl, hbz.step hbs, (fun h => g1 (fun e => h (Or.inr e))), (fun h => g4 (fun e => h (Or.inr e))), fun h => h.elim (fun e => absurd e (by decide)) f0, fun h => h.elim (fun e => absurd e (by decide)) f1, fun h => h.elim (fun e => absurd e (by decide)) (fun h => ⟨Or.inr (f2 h).1, (f2 h).2.step hbs⟩), fun h => h.elim (fun e => absurd e (by decide)) f3, fun h => h.elim (fun e => absurd e (by decide)) (fun _ => rfl), fun _ => ⟨Or.inr (hd' 4 (by kernel_rfl)), OwnV.of (own_low hown hbz.size)⟩, fun h => h.elim (fun e => absurd e (by decide)) f6, fun h => h.elim (fun e => absurd e (by decide)) (fun h => ⟨Or.inr (f7 h).1, (f7 h).2⟩), fun h => h.elim (fun e => absurd e (by decide)) f8, fun h => h.elim (fun e => absurd e (by decide)) (fun h => absurd (f9 h).1 hn)⟩
    · -- 6
      refine wpOp_step rfl (fun K hK => ?_)
      have hK : Shut _ := hK
      go_simp
      try simp only [Act.put, List.getElem_toArray, List.getElem_cons_succ, List.getElem_cons_zero, List.setIfInBounds_toArray, List.set_cons_zero, List.set_cons_succ]
      refine hK.out _ _ ⟨_, _, _, _, _, _, _, _, _, _, rfl, hbz, (fun h => g1 (fun e => h (Or.inr e))), (fun h => g4 (fun e => h (Or.inr e))), fun h => h.elim (fun e => absurd e (by decide)) f0, fun h => h.elim (fun e => absurd e (by decide)) f1, fun h => h.elim (fun e => absurd e (by decide)) (fun h => ⟨Or.inr (f2 h).1, (f2 h).2⟩), fun h => h.elim (fun e => absurd e (by decide)) f3, fun h => h.elim (fun e => absurd e (by decide)) f4, fun h => h.elim (fun e => absurd e (by decide)) (fun h => ⟨Or.inr (f5 h).1, (f5 h).2⟩), fun _ => rfl, fun h => h.elim (fun e => absurd e (by decide)) (fun h => ⟨Or.inr (f7 h).1, (f7 h).2⟩), fun h => h.elim (fun e => absurd e (by decide)) f8, fun h => h.elim (fun e => absurd e (by decide)) (fun h => ⟨Or.inr (f9 h).1, (f9 h).2⟩)⟩
    · -- 7
      have d2 := f2 (hd' 2 (by kernel_rfl))
      have d6 := f6 (hd' 6 (by kernel_rfl))
      refine wpOp_step rfl (fun K hK => ?_)
      have hK : Shut _ := hK
      subst d6
      obtain ⟨m1, s, rfl, hs⟩ := d2
      have cz : wz.cell? ⟨w.heap.size, 0, none⟩ = some u0 := hbz.b1.cell 0
      have fz := hbz.b1.frozen 0
      go_simp
      try simp only [Act.put, List.getElem_toArray, List.getElem_cons_succ, List.getElem_cons_zero, List.setIfInBounds_toArray, List.set_cons_zero, List.set_cons_succ]
      refine hK.out _ _ ⟨_, _, _, _, _, _, _, _, _, _, rfl, hbz.put0 _, (fun h => absurd (Or.inr m1) h), (fun h => g4 (fun e => h (Or.inr e))), fun h => h.elim (fun e => absurd e (by decide)) f0, fun h => h.elim (fun e => absurd e (by decide)) f1, fun h => h.elim (fun e => absurd e (by decide)) (fun h => ⟨Or.inr (f2 h).1, (f2 h).2.far (by omega) _⟩), fun h => h.elim (fun e => absurd e (by decide)) f3, fun h => h.elim (fun e => absurd e (by decide)) f4, fun h => h.elim (fun e => absurd e (by decide)) (fun h => ⟨Or.inr (f5 h).1, (f5 h).2.far (by omega) _⟩), fun h => h.elim (fun e => absurd e (by decide)) f6, fun _ => ⟨Or.inr (hd' 2 (by kernel_rfl)), rfl⟩, fun h => h.elim (fun e => absurd e (by decide)) f8, fun h => h.elim (fun e => absurd e (by decide)) (fun h => ⟨Or.inr (f9 h).1, (f9 h).2⟩)⟩
    · -- 8
      refine wpOp_step rfl (fun K hK => ?_)
      have hK : Shut _ := hK
      go_simp
      try simp only [Act.put, List.getElem_toArray, List.getElem_cons_succ, List.getElem_cons_zero, List.setIfInBounds_toArray, List.set_cons_zero, List.set_cons_succ]
      refine hK.out _ _ ⟨_, _, _, _, _, _, _, _, _, _, rfl, hbz, (fun h => g1 (fun e => h (Or.inr e))), (fun h => g4 (fun e => h (Or.inr e))), fun h => h.elim (fun e => absurd e (by decide)) f0, fun h => h.elim (fun e => absurd e (by decide)) f1, fun h => h.elim (fun e => absurd e (by decide)) (fun h => ⟨Or.inr (f2 h).1, (f2 h).2⟩), fun h => h.elim (fun e => absurd e (by decide)) f3, fun h => h.elim (fun e => absurd e (by decide)) f4, fun h => h.elim (fun e => absurd e (by decide)) (fun h => ⟨Or.inr (f5 h).1, (f5 h).2⟩), fun h => h.elim (fun e => absurd e (by decide)) f6, fun h => h.elim (fun e => absurd e (by decide)) (fun h => ⟨Or.inr (f7 h).1, (f7 h).2⟩), fun _ => rfl, fun h => h.elim (fun e => absurd e (by decide)) (fun h => ⟨Or.inr (f9 h).1, (f9 h).2⟩)⟩
    · -- 9
      have d5 := f5 (hd' 5 (by kernel_rfl))
      have d8 := f8 (hd' 8 (by kernel_rfl))
      refine wpOp_step rfl (fun K hK => ?_)
      have hK : Shut _ := hK
      subst d8
      obtain ⟨m4, s, rfl, hs⟩ := d5
      have cz : wz.cell? ⟨w.heap.size, 2, none⟩ = some u2 := hbz.b1.cell 2
      have fz := hbz.b1.frozen 2
      go_simp
      try simp only [Act.put, List.getElem_toArray, List.getElem_cons_succ, List.getElem_cons_zero, List.setIfInBounds_toArray, List.set_cons_zero, List.set_cons_succ]
      refine hK.out _ _ ⟨_, _, _, _, _, _, _, _, _, _, rfl, hbz.put2 _, (fun h => g1 (fun e => h (Or.inr e))), (fun h => absurd (Or.inr m4) h), fun h => h.elim (fun e => absurd e (by decide)) f0, fun h => h.elim (fun e => absurd e (by decide)) f1, fun h => h.elim (fun e => absurd e (by decide)) (fun h => ⟨Or.inr (f2 h).1, (f2 h).2.far (by omega) _⟩), fun h => h.elim (fun e => absurd e (by decide)) f3, fun h => h.elim (fun e => absurd e (by decide)) f4, fun h => h.elim (fun e => absurd e (by decide)) (fun h => ⟨Or.inr (f5 h).1, (f5 h).2.far (by omega) _⟩), fun h => h.elim (fun e => absurd e (by decide)) f6, fun h => h.elim (fun e => absurd e (by decide)) (fun h => ⟨Or.inr (f7 h).1, (f7 h).2⟩), fun h => h.elim (fun e => absurd e (by decide)) f8, fun _ => ⟨Or.inr (hd' 5 (by kernel_rfl)), rfl⟩⟩
  case hdone =>
    rintro D az wz hD ⟨x3, x4, x5, x6, x7, x8, x9, x10, u0, u2, rfl, hbz, g1, g4, f0, f1, f2, f3, f4, f5, f6, f7, f8, f9⟩
    have d0 := f0 (hD 0)
    have d1 := f1 (hD 1)
    have d2 := f2 (hD 2)
    have d3 := f3 (hD 3)
    have d4 := f4 (hD 4)
    have d5 := f5 (hD 5)
    have d6 := f6 (hD 6)
    have d7 := f7 (hD 7)
    have d8 := f8 (hD 8)
    have d9 := f9 (hD 9)
    clear g1 g4 f0 f1 f2 f3 f4 f5 f6 f7 f8 f9
    obtain ⟨_, rfl⟩ := d7
    obtain ⟨_, rfl⟩ := d9
    obtain ⟨_, sc, rfl, hsc⟩ := d2
    obtain ⟨_, si, rfl, hsi⟩ := d5
    have s0 : wz.cell? ⟨w.heap.size, 0, none⟩ = some sc.val := hbz.b1.cell 0
    have s1 : wz.cell? ⟨w.heap.size, 1, none⟩ = some (.int .i64 x.d) := hbz.b1.cell 1
    have s2 : wz.cell? ⟨w.heap.size, 2, none⟩ = some si.val := hbz.b1.cell 2
    have z0 : wz.cell? ⟨w.heap.size + 1, 0, none⟩ = some (.slice none 0 0) := hbz.b2.cell 0
    have y0 : wz.frozen? ⟨w.heap.size + 1, 0, none⟩ = false := hbz.b2.frozen 0
    have z1 : wz.cell? ⟨w.heap.size + 1, 1, none⟩ = some (.int .i64 0) := hbz.b2.cell 1
    have y1 : wz.frozen? ⟨w.heap.size + 1, 1, none⟩ = false := hbz.b2.frozen 1
    have z2 : wz.cell? ⟨w.heap.size + 1, 2, none⟩ = some (.slice none 0 0) := hbz.b2.cell 2
    have y2 : wz.frozen? ⟨w.heap.size + 1, 2, none⟩ = false := hbz.b2.frozen 2
    have hl1 : w.heap.size ≤ w.heap.size + 1 := by omega
    have hl2 : w.heap.size + 1 < w.heap.size + 2 := by omega
    have hcF := hide (ownsRow_setCell_below (ownsRow_setCell_below (ownsRow_setCell_below hsc (a := ⟨w.heap.size + 1, 0, none⟩) hl2 (sc.val)) (a := ⟨w.heap.size + 1, 1, none⟩) hl2 (.int .i64 x.d)) (a := ⟨w.heap.size + 1, 2, none⟩) hl2 (si.val))
    have hiF := hide (ownsRow_setCell_below (ownsRow_setCell_below (ownsRow_setCell_below hsi (a := ⟨w.heap.size + 1, 0, none⟩) hl2 (sc.val)) (a := ⟨w.heap.size + 1, 1, none⟩) hl2 (.int .i64 x.d)) (a := ⟨w.heap.size + 1, 2, none⟩) hl2 (si.val))
    have hBF := hide (((hbz.b2.set_ 0 (sc.val)).set_ 1 (.int .i64 x.d)).set_ 2 (si.val))
    have hbF := hide (((hbz.bel.setCell (p := ⟨w.heap.size + 1, 0, none⟩) hl1 (sc.val)).setCell (p := ⟨w.heap.size + 1, 1, none⟩) hl1 (.int .i64 x.d)).setCell (p := ⟨w.heap.size + 1, 2, none⟩) hl1 (si.val))
    clear hsc hsi
    go_wp2
    generalize hWf : (((wz.setCell ⟨w.heap.size + 1, 0, none⟩ (sc.val)).setCell ⟨w.heap.size + 1, 1, none⟩ (.int .i64 x.d)).setCell ⟨w.heap.size + 1, 2, none⟩ (si.val)) = Wf at *
    clear hWf
    have hB9 : Blk Wf (w.heap.size + 1) 66 #[sc.val, .int .i64 x.d, si.val] := hBF.out
    have k0 : Wf.cell? ⟨w.heap.size + 1, 0, none⟩ = some (sc.val) := hB9.cell 0
    have k1 : Wf.cell? ⟨w.heap.size + 1, 1, none⟩ = some (.int .i64 x.d) := hB9.cell 1
    have k2 : Wf.cell? ⟨w.heap.size + 1, 2, none⟩ = some (si.val) := hB9.cell 2
    refine bodyPost_ret (v := .agg (Kv.cells ⟨sc, x.d, si⟩)) (by simp [results, Try.results105, go_sem, k0, k1, k2]) rfl ?_
    exact ⟨⟨sc, x.d, si⟩, rfl, rfl, own_low hcF.out (by omega), own_low hiF.out (by omega), hbF.out⟩
end Go.Proofs.Ytcjoohaagdihlaa.Kept
end

section
/- Contracts on whether a state is in a cube, the program's and the document's. -/
namespace Go.Proofs.Ytcjoohaagdihlaa.CubeHas
open Go.RowKit Go.Lt Go.Proofs.Ytcjoohaagdihlaa.Lit
set_option linter.unusedVariables false
set_option linter.unusedSimpArgs false

/-- whether a literal is so in a state -/
def inS (s : List Bool) (x : Int) : Bool := decide (0 ≤ x) && decide (s[(x / 2).toNat]? = some (decide (x % 2 = 0)))
def hasS (c : List Int) (s : List Bool) : Bool := c.all (inS s)
theorem all_take {α : Type} (f : α → Bool) (l : List α) (k : Nat) (x : α) (h : (l.take k).all f = true) (hx : l[k]? = some x) : (l.take (k + 1)).all f = f x := by
  rw [List.take_add_one, hx, List.all_append, h]; simp
theorem hasS_no {c : List Int} {s : List Bool} {k : Nat} {x : Int} (hx : c[k]? = some x) (h : inS s x = false) : hasS c s = false := by
  unfold hasS
  rw [List.all_eq_false]
  exact ⟨x, List.mem_of_getElem? hx, by rw [h]; simp⟩
theorem inS_neg {s : List Bool} {x : Int} (h : x < 0) : inS s x = false := by
  unfold inS; rw [show decide (0 ≤ x) = false by rw [decide_eq_false_iff_not]; omega]; rfl
theorem inS_nat (s : List Bool) (q : Nat) : inS s (q : Int) = decide (s[q / 2]? = some (decide (q % 2 = 0))) := by
  unfold inS
  rw [show decide (0 ≤ (q : Int)) = true by rw [decide_eq_true_iff]; omega, show ((q : Int) / 2).toNat = q / 2 by omega,
    show decide ((q : Int) % 2 = 0) = decide (q % 2 = 0) by rw [Bool.eq_iff_iff, decide_eq_true_iff, decide_eq_true_iff]; omega]
  rfl
/-- numbers of 64 bits -/
def Wfs (c : List Int) : Prop := ∀ x ∈ c, x ≤ 9223372036854775807
theorem tdiv_two (q : Nat) : (q : Int).tdiv 2 = ((q / 2 : Nat) : Int) := by
  rw [Int.tdiv_eq_ediv_of_nonneg (by omega)]; omega

set_option maxHeartbeats 800000 in
theorem cube_Has (A B : Option Addr) (n m cc cd : Nat) (c : List Int) (s : List Bool) (w : World) (hn : n ≤ 1000000) (hm : m ≤ 1000000) (hrc : Rd w A n (ivs c)) (hrs : Rd w B m (bvs s)) (hw : Wfs c) :
    Calls Try.prog 106 #[.slice A n cc, .slice B m cd] w fun e w' => e = .returned (.bool (hasS c s)) ∧ w = w' := by
  have hlc := hide hrc.len
  have hls := hide hrs.len
  have hnI : (n : Int) ≤ 1000000 := by omega
  have hmI : (m : Int) ≤ 1000000 := by omega
  clear hn hm
  go_enter Try.func106, Try.ntmps106
  go_wp2
  go_loop [9] (fun i => ∃ k : Nat, k ≤ n ∧ i = .int .i64 k ∧ Hid ((c.take k).all (inS s) = true)) (fun i => n - (intOf i).toNat)
  case atStart => exact ⟨0, Nat.zero_le _, rfl, by simp [hide]⟩
  case round =>
    obtain ⟨k, hk, rfl, hall⟩ := hrel
    by_cases hlt : k < n
    · obtain ⟨ad, x, rfl, hB, hx, hc⟩ := hrc.get hlt
      have HT := hide (all_take _ _ _ _ hall.out hx)
      have HF := hide (fun h : inS s x = false => hasS_no hx h)
      have HW := hide (hw x (List.mem_of_getElem? hx))
      clear hx hall
      by_cases h0 : x < 0
      · have HR := hide (show false = hasS c s from (HF.out (inS_neg h0)).symm)
        go_wp2
        go_ret
        exact ⟨ret_bool HR.out, rfl⟩
      · obtain ⟨q, rfl⟩ := Int.eq_ofNat_of_zero_le (show 0 ≤ x by omega)
        have hq := tdiv_two q
        have HI := hide (inS_nat s q)
        have hwj : IntKind.i64.wrap ((q / 2 : Nat) : Int) = ((q / 2 : Nat) : Int) := IntWalk.i64_in _ (by have := HW.out; omega)
        clear h0
        by_cases h1 : q / 2 < m
        · have h1I : ((q / 2 : Nat) : Int) < m := by omega
          obtain ⟨ad2, b, rfl, hB2, hx2, hc2⟩ := hrs.get h1
          have hq0 : (0 : Int) ≤ q := by omega
          have h1n : ¬ m ≤ q / 2 := by omega
          have ha : bits .and .i64 (q : Int) 1 = ((q % 2 : Nat) : Int) := by rw [and_one _ (by omega) (by omega)]; omega
          rw [hx2] at HI
          clear hx2
          generalize q / 2 = j at *
          rcases Nat.mod_two_eq_zero_or_one q with hz | hz
          all_goals
            rw [hz] at ha HI
            clear hz
            cases b
            all_goals
              have HI := HI.out
              simp at HI
              have HI := hide HI
              go_wp2
              first
                | (go_ret
                   exact ⟨ret_bool (HF.out HI.out).symm, rfl⟩)
                | (go_round
                   case rel => exact ⟨k + 1, hlt, by go_num, hide (HT.out.trans HI.out)⟩
                   case measure => simp [intOf]; omega)
        · have h1' : m ≤ q / 2 := by omega
          have hno := hide (show inS s (q : Int) = false by
            rw [HI.out, List.getElem?_eq_none (by rw [hls.out]; exact h1')]; rfl)
          have hq0 : (0 : Int) ≤ q := by omega
          have hd1 : True → decide ((m : Int) ≤ ((q / 2 : Nat) : Int)) = true := fun _ => by rw [decide_eq_true_iff]; omega
          have hd2 : True → decide (m ≤ q / 2) = true := fun _ => by rw [decide_eq_true_iff]; omega
          clear HI h1 h1'
          generalize q / 2 = j at *
          go_wp2
          go_ret
          exact ⟨ret_bool (HF.out hno.out).symm, rfl⟩
    · have hkn : n = k := by omega
      subst hkn
      have HR := hide (show true = hasS c s by unfold hasS; rw [← hall.out, ← hlc.out, List.take_length])
      clear hall
      go_wp2
      go_ret
      exact ⟨ret_bool HR.out, rfl⟩

set_option maxHeartbeats 800000 in
theorem ref_HasS (A B : Option Addr) (n m cc cd : Nat) (c : List Int) (s : List Bool) (w : World) (hn : n ≤ 1000000) (hm : m ≤ 1000000) (hrc : Rd w A n (ivs c)) (hrs : Rd w B m (bvs s)) (hw : Wfs c) :
    Calls Try.prog 43 #[.slice A n cc, .slice B m cd] w fun e w' => e = .returned (.bool (hasS c s)) ∧ Dr w w' := by
  have hlc := hide hrc.len
  have hls := hide hrs.len
  have hnI : (n : Int) ≤ 1000000 := by omega
  have hmI : (m : Int) ≤ 1000000 := by omega
  clear hn hm
  go_enter Try.func43, Try.ntmps43
  go_wp2
  go_loopw [5] (fun i wr => ∃ k : Nat, k ≤ n ∧ i = .int .i64 k ∧ Dr w wr ∧ Hid ((c.take k).all (inS s) = true)) (fun i _ => n - (intOf i).toNat)
  case atStart => exact ⟨0, Nat.zero_le _, rfl, Dr.refl _, by simp [hide]⟩
  case round =>
    obtain ⟨k, hk, rfl, hd, hall⟩ := hrel
    by_cases hlt : k < n
    · obtain ⟨ad, x, rfl, hB, hx, hc⟩ := (Dr.rd hd hrc).get hlt
      have HT := hide (all_take _ _ _ _ hall.out hx)
      have HF := hide (fun h : inS s x = false => hasS_no hx h)
      have HW := hide (hw x (List.mem_of_getElem? hx))
      clear hx hall
      by_cases h0 : x < 0
      · have HR := hide (show false = hasS c s from (HF.out (inS_neg h0)).symm)
        have hd0 : decide (x < 0) = true := by simp [h0]
        go_wp2
        go_quiet (fail)
        go_wp2
        go_ret
        exact ⟨ret_bool HR.out, hd.more _⟩
      · obtain ⟨q, rfl⟩ := Int.eq_ofNat_of_zero_le (show 0 ≤ x by omega)
        have hq := tdiv_two q
        have HI := hide (inS_nat s q)
        have hwj : IntKind.i64.wrap ((q / 2 : Nat) : Int) = ((q / 2 : Nat) : Int) := IntWalk.i64_in _ (by have := HW.out; omega)
        clear h0
        have hd0 : decide ((q : Int) < 0) = false := by rw [decide_eq_false_iff_not]; omega
        have hq0 : (0 : Int) ≤ q := by omega
        by_cases h1 : q / 2 < m
        · have h1I : ((q / 2 : Nat) : Int) < m := by omega
          have h1n : ¬ m ≤ q / 2 := by omega
          have hd1 : decide ((m : Int) ≤ ((q / 2 : Nat) : Int)) = false := by rw [decide_eq_false_iff_not]; omega
          obtain ⟨ad2, b, rfl, hB2, hx2, hc2⟩ := (Dr.rd hd hrs).get h1
          have ha : (q : Int).tmod 2 = ((q % 2 : Nat) : Int) := by rw [Int.tmod_eq_emod_of_nonneg (by omega)]; omega
          rw [hx2] at HI
          clear hx2
          generalize q / 2 = j at *
          rcases Nat.mod_two_eq_zero_or_one q with hz | hz
          all_goals
            rw [hz] at ha HI
            clear hz
            cases b
            all_goals
              have HI := HI.out
              simp at HI
              have HI := hide HI
              go_wp2
              go_quiet (fail)
              go_wp2
              first
                | (go_ret
                   exact ⟨ret_bool (HF.out HI.out).symm, hd.more _⟩)
                | (go_roundw
                   case rel => exact ⟨k + 1, hlt, by go_num, hd.more _, hide (HT.out.trans HI.out)⟩
                   case measure => simp [intOf]; omega)
        · have h1' : m ≤ q / 2 := by omega
          have hd1 : decide ((m : Int) ≤ ((q / 2 : Nat) : Int)) = true := by rw [decide_eq_true_iff]; omega
          have hno := hide (show inS s (q : Int) = false by
            rw [HI.out, List.getElem?_eq_none (by rw [hls.out]; exact h1')]; rfl)
          have hd2 : decide (m ≤ q / 2) = true := by rw [decide_eq_true_iff]; omega
          clear HI h1 h1'
          generalize q / 2 = j at *
          go_wp2
          go_quiet (fail)
          go_wp2
          go_ret
          exact ⟨ret_bool (HF.out hno.out).symm, hd.more _⟩
    · have hkn : n = k := by omega
      subst hkn
      have HR := hide (show true = hasS c s by unfold hasS; rw [← hall.out, ← hlc.out, List.take_length])
      clear hall
      go_wp2
      go_ret
      exact ⟨ret_bool HR.out, hd⟩
end Go.Proofs.Ytcjoohaagdihlaa.CubeHas
end
