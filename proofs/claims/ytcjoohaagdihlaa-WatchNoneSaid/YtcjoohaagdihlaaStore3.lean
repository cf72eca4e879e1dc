/- What is kept, in memory of its own. -/
import Derived.Test.YtcjoohaagdihlaaStore2
import Derived.Test.YtcjoohaagdihlaaRegInv2
import Derived.Test.YtcjoohaagdihlaaKept0
import Derived.Test.YtcjoohaagdihlaaLit2
namespace Go.Proofs.Ytcjoohaagdihlaa.Kept
open Go.RowKit Go.Lt Go.Proofs.Ytcjoohaagdihlaa.Lit
set_option linter.unusedVariables false
set_option linter.unusedSimpArgs false

theorem own_low {w : World} {b b' e size n : Nat} {v : Value} {xs : List Value} (h : w.ownsRow b' e size v n xs) (hb : b ≤ b') : w.ownsRow b e size v n xs := by
  obtain ⟨h1, h2⟩ := h
  refine ⟨h1, ?_⟩
  rcases h2 with h2 | ⟨g, cap, cur, h3, h4, h5⟩
  · exact .inl h2
  · exact .inr ⟨g, cap, cur, h3, Nat.le_trans hb h4, h5⟩
theorem own_sl {w : World} {base e size n : Nat} {v : Value} {xs : List Value} (h : w.ownsRow base e size v n xs) : ∃ s : Sl, v = s.val ∧ s.n = n := by
  rcases own_cases h with ⟨rfl, rfl⟩ | ⟨g, c, rfl, _⟩
  · exact ⟨⟨none, 0, 0⟩, rfl, rfl⟩
  · exact ⟨⟨_, _, _⟩, rfl, rfl⟩
/-- a row of the call's own, that holds these -/
def OwnV (base : Nat) (e : TypeId) (x : Value) (xs : List Value) (w : World) : Prop := ∃ s : Sl, x = s.val ∧ w.ownsRow base e 1 s.val xs.length xs
theorem OwnV.of {base : Nat} {e : TypeId} {x : Value} {xs : List Value} {w : World} {n : Nat} (h : w.ownsRow base e 1 x n xs) : OwnV base e x xs w := by
  obtain ⟨s, rfl, _⟩ := own_sl h
  have hl := h.1
  rw [Nat.mul_one] at hl
  exact ⟨s, rfl, by rw [hl]; exact h⟩
theorem OwnV.step {base : Nat} {e : TypeId} {x : Value} {xs : List Value} {w w' : World} (h : OwnV base e x xs w) (hb : Below w.heap.size w w') : OwnV base e x xs w' := by
  obtain ⟨s, h1, h2⟩ := h
  exact ⟨s, h1, own_keep h2 hb⟩
theorem OwnV.far {base : Nat} {e : TypeId} {x : Value} {xs : List Value} {w : World} (h : OwnV base e x xs w) {b i : Nat} (hb : b < base) (u : Value) : OwnV base e x xs (w.setCell ⟨b, i, none⟩ u) := by
  obtain ⟨s, h1, h2⟩ := h
  refine ⟨s, h1, ownsRow_setCell_other h2 ?_ u⟩
  intro he
  exact own_low_ne h2 hb he.symm
/-- what is known between the steps: the box, the result's cells -/
structure Kw (w W : World) (d : Int) (u0 u2 : Value) : Prop where
  bel : Below w.heap.size w W
  size : w.heap.size + 2 ≤ W.heap.size
  b1 : Blk W w.heap.size 66 #[u0, .int .i64 d, u2]
  b2 : Blk W (w.heap.size + 1) 66 #[.slice none 0 0, .int .i64 0, .slice none 0 0]
theorem Kw.step {w W W' : World} {d : Int} {u0 u2 : Value} (h : Kw w W d u0 u2) (hb : Below W.heap.size W W') : Kw w W' d u0 u2 :=
  ⟨h.bel.trans (hb.mono h.bel.size), Nat.le_trans h.size hb.size, h.b1.below hb h.b1.lt, h.b2.below hb h.b2.lt⟩
theorem Kw.put0 {w W : World} {d : Int} {u0 u2 : Value} (h : Kw w W d u0 u2) (v : Value) : Kw w (W.setCell ⟨w.heap.size, 0, none⟩ v) d v u2 :=
  ⟨h.bel.setCell (p := ⟨w.heap.size, 0, none⟩) (Nat.le_refl _) _, by simpa using h.size, by simpa using h.b1.set_ 0 v, h.b2.far (by simp) _⟩
theorem Kw.put2 {w W : World} {d : Int} {u0 u2 : Value} (h : Kw w W d u0 u2) (v : Value) : Kw w (W.setCell ⟨w.heap.size, 2, none⟩ v) d u0 v :=
  ⟨h.bel.setCell (p := ⟨w.heap.size, 2, none⟩) (Nat.le_refl _) _, by simpa using h.size, by simpa using h.b1.set_ 2 v, h.b2.far (by simp) _⟩
/-- a copy in memory of its own -/
def OwnIs (d : Int) (c : List Int) (i : List Bool) (w : World) (e : Ending) (w' : World) : Prop := ∃ x : Kv, e = .returned (.agg x.cells) ∧ x.d = d ∧ w'.ownsRow w.heap.size 3 1 x.c.val (ivs c).length (ivs c) ∧ w'.ownsRow w.heap.size 4 1 x.i.val (bvs i).length (bvs i) ∧ Below w.heap.size w w'
set_option maxRecDepth 8000 in
set_option maxHeartbeats 4000000 in
theorem store_own (x : Kv) (kc : List Int) (ki : List Bool) (w : World) (hc : Rd w x.c.A x.c.n (ivs kc)) (hi : Rd w x.i.A x.i.n (bvs ki)) (hcn : x.c.n ≤ 1000000) (hin : x.i.n ≤ 1000000) :
    Calls Try.prog 105 #[.agg x.cells] w (OwnIs x.d kc ki w) := by
  have hc := hide hc
  have hi := hide hi
  have e1 := (Blk.new w 66 x.cells).alloc (.cells #[.slice none 0 0, .int .i64 0, .slice none 0 0] 66)
  have e2 := Blk.new (w.alloc (.cells x.cells 66)) 66 #[.slice none 0 0, .int .i64 0, .slice none 0 0]
  have hk : Kw w ((w.alloc (.cells x.cells 66)).alloc (.cells #[.slice none 0 0, .int .i64 0, .slice none 0 0] 66)) x.d x.c.val x.i.val :=
    ⟨((Below.refl _ _).alloc (Nat.le_refl _) _).alloc (by simp) _, by simp, e1, by simpa using e2⟩
  clear e1 e2
  go_enter Try.func105, Try.ntmps105
  go_wp2
  have hk := hk.step (Dr.below (Dr.refl _).drew _)
  refine wp_region_inv3 (fun D az wz => ∃ x3 x4 x5 x6 x7 x8 x9 x10 u0 u2 : Value, az = ⟨#[.agg x.cells, .pointer (some ⟨w.heap.size, 0, none⟩), .pointer (some ⟨w.heap.size + 1, 0, none⟩), x3, x4, x5, x6, x7, x8, x9, x10, undef], []⟩ ∧ Kw w wz x.d u0 u2 ∧ (¬ D 1 → u0 = x.c.val) ∧ (¬ D 4 → u2 = x.i.val) ∧ (D 0 → x3 = .pointer (some ⟨w.heap.size, 0, none⟩)) ∧ (D 1 → x4 = x.c.val) ∧ (D 2 → (D 1 ∧ OwnV (w.heap.size + 2) 3 x5 (ivs kc) wz)) ∧ (D 3 → x6 = .pointer (some ⟨w.heap.size, 2, none⟩)) ∧ (D 4 → x7 = x.i.val) ∧ (D 5 → (D 4 ∧ OwnV (w.heap.size + 2) 4 x8 (bvs ki) wz)) ∧ (D 6 → x9 = .pointer (some ⟨w.heap.size, 0, none⟩)) ∧ (D 7 → (D 2 ∧ u0 = x5)) ∧ (D 8 → x10 = .pointer (some ⟨w.heap.size, 2, none⟩)) ∧ (D 9 → (D 5 ∧ u2 = x8))) (by kernel_rfl) (by kernel_rfl) ?h0 ?hstep ?hdone
  case h0 =>
    refine ⟨_, _, _, _, _, _, _, _, _, _, rfl, hk, fun _ => rfl, fun _ => rfl, fun h => absurd h (by decide), fun h => absurd h (by decide), fun h => absurd h (by decide), fun h => absurd h (by decide), fun h => absurd h (by decide), fun h => absurd h (by decide), fun h => absurd h (by decide), fun h => absurd h (by decide), fun h => absurd h (by decide), fun h => absurd h (by decide)⟩
  case hstep =>
    intro D az wz i hi' hn hd' hI
    obtain ⟨x3, x4, x5, x6, x7, x8, x9, x10, u0, u2, rfl, hbz, g1, g4, f0, f1, f2, f3, f4, f5, f6, f7, f8, f9⟩ := hI
    have hi' : i < 10 := hi'
    rcases (show i = 0 ∨ i = 1 ∨ i = 2 ∨ i = 3 ∨ i = 4 ∨ i = 5 ∨ i = 6 ∨ i = 7 ∨ i = 8 ∨ i = 9 by omega) with rfl | rfl | rfl | rfl | rfl | rfl | rfl | rfl | rfl | rfl
    · -- 0
      refine wpOp_step rfl (fun K hK => ?_)
      have hK : Shut _ := hK
      go_simp
      try simp only [Act.put, List.getElem_toArray, List.getElem_cons_succ, List.getElem_cons_zero, List.setIfInBounds_toArray, List.set_cons_zero, List.set_cons_succ]
      refine hK.out _ _ ⟨_, _, _, _, _, _, _, _, _, _, rfl, hbz, (fun h => g1 (fun e => h (Or.inr e))), (fun h => g4 (fun e => h (Or.inr e))), fun _ => rfl, fun h => h.elim (fun e => absurd e (by decide)) f1, fun h => h.elim (fun e => absurd e (by decide)) (fun h => ⟨Or.inr (f2 h).1, (f2 h).2⟩), fun h => h.elim (fun e => absurd e (by decide)) f3, fun h => h.elim (fun e => absurd e (by decide)) f4, fun h => h.elim (fun e => absurd e (by decide)) (fun h => ⟨Or.inr (f5 h).1, (f5 h).2⟩), fun h => h.elim (fun e => absurd e (by decide)) f6, fun h => h.elim (fun e => absurd e (by decide)) (fun h => ⟨Or.inr (f7 h).1, (f7 h).2⟩), fun h => h.elim (fun e => absurd e (by decide)) f8, fun h => h.elim (fun e => absurd e (by decide)) (fun h => ⟨Or.inr (f9 h).1, (f9 h).2⟩)⟩
    · -- 1
      have d0 := f0 (hd' 0 (by kernel_rfl))
      refine wpOp_step rfl (fun K hK => ?_)
      have hK : Shut _ := hK
      subst d0
      obtain rfl := g1 hn
      have cz : wz.cell? ⟨w.heap.size, 0, none⟩ = some x.c.val := hbz.b1.cell 0
      go_simp
      try simp only [Act.put, List.getElem_toArray, List.getElem_cons_succ, List.getElem_cons_zero, List.setIfInBounds_toArray, List.set_cons_zero, List.set_cons_succ]
      refine hK.out _ _ ⟨_, _, _, _, _, _, _, _, _, _, rfl, hbz, (fun h => absurd (Or.inl rfl) h), (fun h => g4 (fun e => h (Or.inr e))), fun h => h.elim (fun e => absurd e (by decide)) f0, fun _ => rfl, fun h => h.elim (fun e => absurd e (by decide)) (fun h => ⟨Or.inr (f2 h).1, (f2 h).2⟩), fun h => h.elim (fun e => absurd e (by decide)) f3, fun h => h.elim (fun e => absurd e (by decide)) f4, fun h => h.elim (fun e => absurd e (by decide)) (fun h => ⟨Or.inr (f5 h).1, (f5 h).2⟩), fun h => h.elim (fun e => absurd e (by decide)) f6, fun h => h.elim (fun e => absurd e (by decide)) (fun h => ⟨Or.inr (f7 h).1, (f7 h).2⟩), fun h => h.elim (fun e => absurd e (by decide)) f8, fun h => h.elim (fun e => absurd e (by decide)) (fun h => ⟨Or.inr (f9 h).1, (f9 h).2⟩)⟩
    · -- 2
      have d1 := f1 (hd' 1 (by kernel_rfl))
      refine wpOp_step rfl (fun K hK => ?_)
      have hK : Shut _ := hK
      subst d1
      go_wp2_with (go_at_call 108; refine (clone_ints _ _ _ kc wz (hc.out.below hbz.bel (Nat.le_refl _)) hcn).mono ?_; rintro e wy ⟨v, rfl, hown, hbs⟩)
      try simp only [Act.put, List.getElem_toArray, List.getElem_cons_succ, List.getElem_cons_zero, List.setIfInBounds_toArray, List.set_cons_zero, List.set_cons_succ]
      exact ⟨_, _, _, _, _, _, _, _, _, _, rfl, hbz.step hbs, (fun h => g1 (fun e => h (Or.inr e))), (fun h => g4 (fun e => h (Or.inr e))), fun h => h.elim (fun e => absurd e (by decide)) f0, fun h => h.elim (fun e => absurd e (by decide)) (fun _ => rfl), fun _ => ⟨Or.inr (hd' 1 (by kernel_rfl)), OwnV.of (own_low hown hbz.size)⟩, fun h => h.elim (fun e => absurd e (by decide)) f3, fun h => h.elim (fun e => absurd e (by decide)) f4, fun h => h.elim (fun e => absurd e (by decide)) (fun h => ⟨Or.inr (f5 h).1, (f5 h).2.step hbs⟩), fun h => h.elim (fun e => absurd e (by decide)) f6, fun h => h.elim (fun e => absurd e (by decide)) (fun h => absurd (f7 h).1 hn), fun h => h.elim (fun e => absurd e (by decide)) f8, fun h => h.elim (fun e => absurd e (by decide)) (fun h => ⟨Or.inr (f9 h).1, (f9 h).2⟩)⟩
    · -- 3
      refine wpOp_step rfl (fun K hK => ?_)
      have hK : Shut _ := hK
      go_simp
      try simp only [Act.put, List.getElem_toArray, List.getElem_cons_succ, List.getElem_cons_zero, List.setIfInBounds_toArray, List.set_cons_zero, List.set_cons_succ]
      refine hK.out _ _ ⟨_, _, _, _, _, _, _, _, _, _, rfl, hbz, (fun h => g1 (fun e => h (Or.inr e))), (fun h => g4 (fun e => h (Or.inr e))), fun h => h.elim (fun e => absurd e (by decide)) f0, fun h => h.elim (fun e => absurd e (by decide)) f1, fun h => h.elim (fun e => absurd e (by decide)) (fun h => ⟨Or.inr (f2 h).1, (f2 h).2⟩), fun _ => rfl, fun h => h.elim (fun e => absurd e (by decide)) f4, fun h => h.elim (fun e => absurd e (by decide)) (fun h => ⟨Or.inr (f5 h).1, (f5 h).2⟩), fun h => h.elim (fun e => absurd e (by decide)) f6, fun h => h.elim (fun e => absurd e (by decide)) (fun h => ⟨Or.inr (f7 h).1, (f7 h).2⟩), fun h => h.elim (fun e => absurd e (by decide)) f8, fun h => h.elim (fun e => absurd e (by decide)) (fun h => ⟨Or.inr (f9 h).1, (f9 h).2⟩)⟩
    · -- 4
      have d3 := f3 (hd' 3 (by kernel_rfl))
      refine wpOp_step rfl (fun K hK => ?_)
      have hK : Shut _ := hK
      subst d3
      obtain rfl := g4 hn
      have cz : wz.cell? ⟨w.heap.size, 2, none⟩ = some x.i.val := hbz.b1.cell 2
      go_simp
      try simp only [Act.put, List.getElem_toArray, List.getElem_cons_succ, List.getElem_cons_zero, List.setIfInBounds_toArray, List.set_cons_zero, List.set_cons_succ]
      refine hK.out _ _ ⟨_, _, _, _, _, _, _, _, _, _, rfl, hbz, (fun h => g1 (fun e => h (Or.inr e))), (fun h => absurd (Or.inl rfl) h), fun h => h.elim (fun e => absurd e (by decide)) f0, fun h => h.elim (fun e => absurd e (by decide)) f1, fun h => h.elim (fun e => absurd e (by decide)) (fun h => ⟨Or.inr (f2 h).1, (f2 h).2⟩), fun h => h.elim (fun e => absurd e (by decide)) f3, fun _ => rfl, fun h => h.elim (fun e => absurd e (by decide)) (fun h => ⟨Or.inr (f5 h).1, (f5 h).2⟩), fun h => h.elim (fun e => absurd e (by decide)) f6, fun h => h.elim (fun e => absurd e (by decide)) (fun h => ⟨Or.inr (f7 h).1, (f7 h).2⟩), fun h => h.elim (fun e => absurd e (by decide)) f8, fun h => h.elim (fun e => absurd e (by decide)) (fun h => ⟨Or.inr (f9 h).1, (f9 h).2⟩)⟩
    · -- 5
      have d4 := f4 (hd' 4 (by kernel_rfl))
      refine wpOp_step rfl (fun K hK => ?_)
      have hK : Shut _ := hK
      subst d4
      go_wp2_with (go_at_call 136; refine (clone_bools _ _ _ ki wz (hi.out.below hbz.bel (Nat.le_refl _)) hin).mono ?_; rintro e wy ⟨v, rfl, hown, hbs⟩)
      try simp only [Act.put, List.getElem_toArray, List.getElem_cons_succ, List.getElem_cons_zero, List.setIfInBounds_toArray, List.set_cons_zero, List.set_cons_succ]
      exact ⟨_, _, _, _, _, _, _, _, _, _, rfl, hbz.step hbs, (fun h => g1 (fun e => h (Or.inr e))), (fun h => g4 (fun e => h (Or.inr e))), fun h => h.elim (fun e => absurd e (by decide)) f0, fun h => h.elim (fun e => absurd e (by decide)) f1, fun h => h.elim (fun e => absurd e (by decide)) (fun h => ⟨Or.inr (f2 h).1, (f2 h).2.step hbs⟩), fun h => h.elim (fun e => absurd e (by decide)) f3, fun h => h.elim (fun e => absurd e (by decide)) (fun _ => rfl), fun _ => ⟨Or.inr (hd' 4 (by kernel_rfl)), OwnV.of (own_low hown hbz.size)⟩, fun h => h.elim (fun e => absurd e (by decide)) f6, fun h => h.elim (fun e => absurd e (by decide)) (fun h => ⟨Or.inr (f7 h).1, (f7 h).2⟩), fun h => h.elim (fun e => absurd e (by decide)) f8, fun h => h.elim (fun e => absurd e (by decide)) (fun h => absurd (f9 h).1 hn)⟩
    · -- 6
      refine wpOp_step rfl (fun K hK => ?_)
      have hK : Shut _ := hK
      go_simp
      try simp only [Act.put, List.getElem_toArray, List.getElem_cons_succ, List.getElem_cons_zero, List.setIfInBounds_toArray, List.set_cons_zero, List.set_cons_succ]
      refine hK.out _ _ ⟨_, _, _, _, _, _, _, _, _, _, rfl, hbz, (fun h => g1 (fun e => h (Or.inr e))), (fun h => g4 (fun e => h (Or.inr e))), fun h => h.elim (fun e => absurd e (by decide)) f0, fun h => h.elim (fun e => absurd e (by decide)) f1, fun h => h.elim (fun e => absurd e (by decide)) (fun h => ⟨Or.inr (f2 h).1, (f2 h).2⟩), fun h => h.elim (fun e => absurd e (by decide)) f3, fun h => h.elim (fun e => absurd e (by decide)) f4, fun h => h.elim (fun e => absurd e (by decide)) (fun h => ⟨Or.inr (f5 h).1, (f5 h).2⟩), fun _ => rfl, fun h => h.elim (fun e => absurd e (by decide)) (fun h => ⟨Or.inr (f7 h).1, (f7 h).2⟩), fun h => h.elim (fun e => absurd e (by decide)) f8, fun h => h.elim (fun e => absurd e (by decide)) (fun h => ⟨Or.inr (f9 h).1, (f9 h).2⟩)⟩
    · -- 7
      have d2 := f2 (hd' 2 (by kernel_rfl))
      have d6 := f6 (hd' 6 (by kernel_rfl))
      refine wpOp_step rfl (fun K hK => ?_)
      have hK : Shut _ := hK
      subst d6
      obtain ⟨m1, s, rfl, hs⟩ := d2
      have cz : wz.cell? ⟨w.heap.size, 0, none⟩ = some u0 := hbz.b1.cell 0
      have fz := hbz.b1.frozen 0
      go_simp
      try simp only [Act.put, List.getElem_toArray, List.getElem_cons_succ, List.getElem_cons_zero, List.setIfInBounds_toArray, List.set_cons_zero, List.set_cons_succ]
      refine hK.out _ _ ⟨_, _, _, _, _, _, _, _, _, _, rfl, hbz.put0 _, (fun h => absurd (Or.inr m1) h), (fun h => g4 (fun e => h (Or.inr e))), fun h => h.elim (fun e => absurd e (by decide)) f0, fun h => h.elim (fun e => absurd e (by decide)) f1, fun h => h.elim (fun e => absurd e (by decide)) (fun h => ⟨Or.inr (f2 h).1, (f2 h).2.far (by omega) _⟩), fun h => h.elim (fun e => absurd e (by decide)) f3, fun h => h.elim (fun e => absurd e (by decide)) f4, fun h => h.elim (fun e => absurd e (by decide)) (fun h => ⟨Or.inr (f5 h).1, (f5 h).2.far (by omega) _⟩), fun h => h.elim (fun e => absurd e (by decide)) f6, fun _ => ⟨Or.inr (hd' 2 (by kernel_rfl)), rfl⟩, fun h => h.elim (fun e => absurd e (by decide)) f8, fun h => h.elim (fun e => absurd e (by decide)) (fun h => ⟨Or.inr (f9 h).1, (f9 h).2⟩)⟩
    · -- 8
      refine wpOp_step rfl (fun K hK => ?_)
      have hK : Shut _ := hK
      go_simp
      try simp only [Act.put, List.getElem_toArray, List.getElem_cons_succ, List.getElem_cons_zero, List.setIfInBounds_toArray, List.set_cons_zero, List.set_cons_succ]
      refine hK.out _ _ ⟨_, _, _, _, _, _, _, _, _, _, rfl, hbz, (fun h => g1 (fun e => h (Or.inr e))), (fun h => g4 (fun e => h (Or.inr e))), fun h => h.elim (fun e => absurd e (by decide)) f0, fun h => h.elim (fun e => absurd e (by decide)) f1, fun h => h.elim (fun e => absurd e (by decide)) (fun h => ⟨Or.inr (f2 h).1, (f2 h).2⟩), fun h => h.elim (fun e => absurd e (by decide)) f3, fun h => h.elim (fun e => absurd e (by decide)) f4, fun h => h.elim (fun e => absurd e (by decide)) (fun h => ⟨Or.inr (f5 h).1, (f5 h).2⟩), fun h => h.elim (fun e => absurd e (by decide)) f6, fun h => h.elim (fun e => absurd e (by decide)) (fun h => ⟨Or.inr (f7 h).1, (f7 h).2⟩), fun _ => rfl, fun h => h.elim (fun e => absurd e (by decide)) (fun h => ⟨Or.inr (f9 h).1, (f9 h).2⟩)⟩
    · -- 9
      have d5 := f5 (hd' 5 (by kernel_rfl))
      have d8 := f8 (hd' 8 (by kernel_rfl))
      refine wpOp_step rfl (fun K hK => ?_)
      have hK : Shut _ := hK
      subst d8
      obtain ⟨m4, s, rfl, hs⟩ := d5
      have cz : wz.cell? ⟨w.heap.size, 2, none⟩ = some u2 := hbz.b1.cell 2
      have fz := hbz.b1.frozen 2
      go_simp
      try simp only [Act.put, List.getElem_toArray, List.getElem_cons_succ, List.getElem_cons_zero, List.setIfInBounds_toArray, List.set_cons_zero, List.set_cons_succ]
      refine hK.out _ _ ⟨_, _, _, _, _, _, _, _, _, _, rfl, hbz.put2 _, (fun h => g1 (fun e => h (Or.inr e))), (fun h => absurd (Or.inr m4) h), fun h => h.elim (fun e => absurd e (by decide)) f0, fun h => h.elim (fun e => absurd e (by decide)) f1, fun h => h.elim (fun e => absurd e (by decide)) (fun h => ⟨Or.inr (f2 h).1, (f2 h).2.far (by omega) _⟩), fun h => h.elim (fun e => absurd e (by decide)) f3, fun h => h.elim (fun e => absurd e (by decide)) f4, fun h => h.elim (fun e => absurd e (by decide)) (fun h => ⟨Or.inr (f5 h).1, (f5 h).2.far (by omega) _⟩), fun h => h.elim (fun e => absurd e (by decide)) f6, fun h => h.elim (fun e => absurd e (by decide)) (fun h => ⟨Or.inr (f7 h).1, (f7 h).2⟩), fun h => h.elim (fun e => absurd e (by decide)) f8, fun _ => ⟨Or.inr (hd' 5 (by kernel_rfl)), rfl⟩⟩
  case hdone =>
    rintro D az wz hD ⟨x3, x4, x5, x6, x7, x8, x9, x10, u0, u2, rfl, hbz, g1, g4, f0, f1, f2, f3, f4, f5, f6, f7, f8, f9⟩
    have d0 := f0 (hD 0)
    have d1 := f1 (hD 1)
    have d2 := f2 (hD 2)
    have d3 := f3 (hD 3)
    have d4 := f4 (hD 4)
    have d5 := f5 (hD 5)
    have d6 := f6 (hD 6)
    have d7 := f7 (hD 7)
    have d8 := f8 (hD 8)
    have d9 := f9 (hD 9)
    clear g1 g4 f0 f1 f2 f3 f4 f5 f6 f7 f8 f9
    obtain ⟨_, rfl⟩ := d7
    obtain ⟨_, rfl⟩ := d9
    obtain ⟨_, sc, rfl, hsc⟩ := d2
    obtain ⟨_, si, rfl, hsi⟩ := d5
    have s0 : wz.cell? ⟨w.heap.size, 0, none⟩ = some sc.val := hbz.b1.cell 0
    have s1 : wz.cell? ⟨w.heap.size, 1, none⟩ = some (.int .i64 x.d) := hbz.b1.cell 1
    have s2 : wz.cell? ⟨w.heap.size, 2, none⟩ = some si.val := hbz.b1.cell 2
    have z0 : wz.cell? ⟨w.heap.size + 1, 0, none⟩ = some (.slice none 0 0) := hbz.b2.cell 0
    have y0 : wz.frozen? ⟨w.heap.size + 1, 0, none⟩ = false := hbz.b2.frozen 0
    have z1 : wz.cell? ⟨w.heap.size + 1, 1, none⟩ = some (.int .i64 0) := hbz.b2.cell 1
    have y1 : wz.frozen? ⟨w.heap.size + 1, 1, none⟩ = false := hbz.b2.frozen 1
    have z2 : wz.cell? ⟨w.heap.size + 1, 2, none⟩ = some (.slice none 0 0) := hbz.b2.cell 2
    have y2 : wz.frozen? ⟨w.heap.size + 1, 2, none⟩ = false := hbz.b2.frozen 2
    have hl1 : w.heap.size ≤ w.heap.size + 1 := by omega
    have hl2 : w.heap.size + 1 < w.heap.size + 2 := by omega
    have hcF := hide (ownsRow_setCell_below (ownsRow_setCell_below (ownsRow_setCell_below hsc (a := ⟨w.heap.size + 1, 0, none⟩) hl2 (sc.val)) (a := ⟨w.heap.size + 1, 1, none⟩) hl2 (.int .i64 x.d)) (a := ⟨w.heap.size + 1, 2, none⟩) hl2 (si.val))
    have hiF := hide (ownsRow_setCell_below (ownsRow_setCell_below (ownsRow_setCell_below hsi (a := ⟨w.heap.size + 1, 0, none⟩) hl2 (sc.val)) (a := ⟨w.heap.size + 1, 1, none⟩) hl2 (.int .i64 x.d)) (a := ⟨w.heap.size + 1, 2, none⟩) hl2 (si.val))
    have hBF := hide (((hbz.b2.set_ 0 (sc.val)).set_ 1 (.int .i64 x.d)).set_ 2 (si.val))
    have hbF := hide (((hbz.bel.setCell (p := ⟨w.heap.size + 1, 0, none⟩) hl1 (sc.val)).setCell (p := ⟨w.heap.size + 1, 1, none⟩) hl1 (.int .i64 x.d)).setCell (p := ⟨w.heap.size + 1, 2, none⟩) hl1 (si.val))
    clear hsc hsi
    go_wp2
    generalize hWf : (((wz.setCell ⟨w.heap.size + 1, 0, none⟩ (sc.val)).setCell ⟨w.heap.size + 1, 1, none⟩ (.int .i64 x.d)).setCell ⟨w.heap.size + 1, 2, none⟩ (si.val)) = Wf at *
    clear hWf
    have hB9 : Blk Wf (w.heap.size + 1) 66 #[sc.val, .int .i64 x.d, si.val] := hBF.out
    have k0 : Wf.cell? ⟨w.heap.size + 1, 0, none⟩ = some (sc.val) := hB9.cell 0
    have k1 : Wf.cell? ⟨w.heap.size + 1, 1, none⟩ = some (.int .i64 x.d) := hB9.cell 1
    have k2 : Wf.cell? ⟨w.heap.size + 1, 2, none⟩ = some (si.val) := hB9.cell 2
    refine bodyPost_ret (v := .agg (Kv.cells ⟨sc, x.d, si⟩)) (by simp [results, Try.results105, go_sem, k0, k1, k2]) rfl ?_
    exact ⟨⟨sc, x.d, si⟩, rfl, rfl, own_low hcF.out (by omega), own_low hiF.out (by omega), hbF.out⟩
end Go.Proofs.Ytcjoohaagdihlaa.Kept
