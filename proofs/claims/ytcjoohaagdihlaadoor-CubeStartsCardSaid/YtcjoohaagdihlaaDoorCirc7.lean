/- A circuit in memory of its own bears the same latches. -/
import Derived.Test.YtcjoohaagdihlaaDoorCirc4
namespace Go.Lt
open Go.RowKit
theorem LitAt.far {base b i : Nat} {e : TypeId} {x u : Value} {w : World} (h : LitAt base e x w) (hb : b < base) : LitAt base e x (w.setCell ⟨b, i, none⟩ u) := by
  obtain ⟨g, h1, h2, h3⟩ := h
  exact ⟨g, h1, h2, h3.far (by simp; omega) _⟩
end Go.Lt
namespace Go.Proofs.YtcjoohaagdihlaaDoor.Circ
open Go.RowKit Go.Lt Go.Proofs.YtcjoohaagdihlaaDoor.Lit Go.Proofs.YtcjoohaagdihlaaDoor.CubeHas Go.Proofs.YtcjoohaagdihlaaDoor.CubeStart
set_option linter.unusedVariables false
set_option linter.unusedSimpArgs false

theorem info_l : (Tryd.prog.info? 103).map (fun i => (i.zero, i.size, i.bytes)) = some (some (.agg #[.int .i64 0, .int .i64 0, .int .i64 0]), 3, 24) := by kernel_rfl
theorem info_g : (Tryd.prog.info? 149).map (fun i => (i.zero, i.size, i.bytes)) = some (some (.agg #[.int .i64 0, .int .i64 0, .int .i64 0]), 3, 24) := by kernel_rfl
theorem info_s : (Tryd.prog.info? 245).map (fun i => (i.zero, i.size, i.bytes)) = some (some (.agg #[.int .u8 0, .int .i64 0, .string .empty]), 3, 32) := by kernel_rfl
theorem ivs_one {l : List Int} : ∀ u ∈ ivs l, u.oneCell' = true := by
  intro u hu
  obtain ⟨x, _, rfl⟩ := List.mem_map.1 hu
  rfl
theorem own_sl {w : World} {base e size n : Nat} {v : Value} {xs : List Value} (h : w.ownsRow base e size v n xs) : ∃ s : Sl, v = .slice s.A s.n s.c ∧ s.n = n := by
  rcases own_cases h with ⟨rfl, rfl⟩ | ⟨g, c, rfl, _⟩
  · exact ⟨⟨none, 0, 0⟩, rfl, rfl⟩
  · exact ⟨⟨_, _, _⟩, rfl, rfl⟩
/-- a row of the call's own that bears such latches -/
def LatAt (base : Nat) (l : List T3) (x : Value) (w : World) : Prop := ∃ s : Sl, x = .slice s.A s.n s.c ∧ w.ownsRow base 103 3 (.slice s.A s.n s.c) s.n (enc3 l)
theorem LatAt.step {base : Nat} {l : List T3} {x : Value} {w w' : World} (h : LatAt base l x w) (hb : Below w.heap.size w w') : LatAt base l x w' := by
  obtain ⟨s, h1, h2⟩ := h
  exact ⟨s, h1, own_keep h2 hb⟩
theorem LatAt.far {base b i : Nat} {l : List T3} {x u : Value} {w : World} (h : LatAt base l x w) (hb : b < base) : LatAt base l x (w.setCell ⟨b, i, none⟩ u) := by
  obtain ⟨s, h1, h2⟩ := h
  refine ⟨s, h1, ownsRow_setCell_other h2 ?_ u⟩
  intro he
  have := own_low_ne h2 hb
  exact this he.symm
/-- what is known between the steps -/
structure Kx (w : World) (m : Int) (v : Cv) (W : World) : Prop where
  bel : Below w.heap.size w W
  size : w.heap.size + 3 ≤ W.heap.size
  b1 : Blk W w.heap.size 27 (cells9 m v)
  b2 : Blk W (w.heap.size + 1) 27 #[.int .i64 0, .slice none 0 0, .slice none 0 0, .slice none 0 0, .slice none 0 0, .slice none 0 0, .slice none 0 0, .slice none 0 0, .string .empty]
  b3 : ∃ s : Cv, Blk W (w.heap.size + 2) 27 (cells9 m s)
theorem Kx.step {w W W' : World} {m : Int} {v : Cv} (h : Kx w m v W) (hb : Below W.heap.size W W') : Kx w m v W' :=
  ⟨h.bel.trans (hb.mono h.bel.size), Nat.le_trans h.size hb.size, h.b1.below hb h.b1.lt, h.b2.below hb h.b2.lt, by obtain ⟨s, h1⟩ := h.b3; exact ⟨s, h1.below hb h1.lt⟩⟩
theorem Kx.put {w W : World} {m : Int} {v : Cv} (h : Kx w m v W) (i : Nat) (u : Value) (hs : ∀ s : Cv, ∃ s' : Cv, (cells9 m s).setIfInBounds i u = cells9 m s') : Kx w m v (W.setCell ⟨w.heap.size + 2, i, none⟩ u) := by
  obtain ⟨s, h1⟩ := h.b3
  obtain ⟨s', h2⟩ := hs s
  refine ⟨h.bel.setCell (p := ⟨w.heap.size + 2, i, none⟩) (by show w.heap.size ≤ w.heap.size + 2; omega) _, by simpa using h.size, h.b1.far (by simp) _, h.b2.far (by simp) _, s', ?_⟩
  rw [← h2]
  exact h1.set_ i u
/-- the latches' cell of what is made -/
def LatCell (b base : Nat) (l : List T3) (w : World) : Prop := ∃ x, w.cell? ⟨b, 2, none⟩ = some x ∧ LatAt base l x w
theorem LatCell.step {b base : Nat} {l : List T3} {w w' : World} (h : LatCell b base l w) (hb : Below w.heap.size w w') : LatCell b base l w' := by
  obtain ⟨x, h1, h2⟩ := h
  exact ⟨x, keepCell hb h1, h2.step hb⟩
theorem LatCell.far {b base i : Nat} {l : List T3} {w : World} {u : Value} (h : LatCell b base l w) (hb : b < base ∧ i ≠ 2) : LatCell b base l (w.setCell ⟨b, i, none⟩ u) := by
  obtain ⟨x, h1, h2⟩ := h
  refine ⟨x, ?_, h2.far hb.1⟩
  rw [World.cell?_setCell_other _ _ _ _ (by intro he; injection he with _ h3 _; exact hb.2 h3)]
  exact h1
def OwnIs (m : Int) (v : Cv) (l : List T3) (w : World) (e : Ending) (w' : World) : Prop := ∃ s : Cv, e = .returned (.agg (cells9 m s)) ∧ s.lat.n = v.lat.n ∧ RdT w' s.lat.A s.lat.n l ∧ Below w.heap.size w w'
set_option maxRecDepth 8000 in
set_option maxHeartbeats 4000000 in
theorem law_Own (v : Cv) (c : Ci) (m : Int) (w : World) (hf : FewOk 30 v) (hi : CiIs w v c) :
    Calls Tryd.prog 17 #[.agg (cells9 m v)] w (OwnIs m v c.lat w) := by
  have h1 := hf.ins
  have h2 := hf.lat
  have h3 := hf.gat
  have h4 := hf.outs
  have h5 := hf.bads
  have h6 := hf.cons
  have h7 := hf.sym
  have hi := hide hi
  clear hf
  have e1 := Blk.new w 27 (cells9 m v)
  have e2 := e1.alloc (.cells #[.int .i64 0, .slice none 0 0, .slice none 0 0, .slice none 0 0, .slice none 0 0, .slice none 0 0, .slice none 0 0, .slice none 0 0, .string .empty] 27)
  have e3 := e2.alloc (.cells (cells9 m v) 27)
  have f2 := Blk.new (w.alloc (.cells (cells9 m v) 27)) 27 #[.int .i64 0, .slice none 0 0, .slice none 0 0, .slice none 0 0, .slice none 0 0, .slice none 0 0, .slice none 0 0, .slice none 0 0, .string .empty]
  have f3 := f2.alloc (.cells (cells9 m v) 27)
  have g3 := Blk.new ((w.alloc (.cells (cells9 m v) 27)).alloc (.cells #[.int .i64 0, .slice none 0 0, .slice none 0 0, .slice none 0 0, .slice none 0 0, .slice none 0 0, .slice none 0 0, .slice none 0 0, .string .empty] 27)) 27 (cells9 m v)
  have hk : Kx w m v (((w.alloc (.cells (cells9 m v) 27)).alloc (.cells #[.int .i64 0, .slice none 0 0, .slice none 0 0, .slice none 0 0, .slice none 0 0, .slice none 0 0, .slice none 0 0, .slice none 0 0, .string .empty] 27)).alloc (.cells (cells9 m v) 27)) :=
    ⟨(((Below.refl _ _).alloc (Nat.le_refl _) _).alloc (by simp) _).alloc (by simp; omega) _, by simp, e3, by simpa using f3, v, by simpa using g3⟩
  clear e1 e2 e3 f2 f3 g3
  go_enter Tryd.func17, Tryd.ntmps17
  go_wp2
  have hk := hk.step (Dr.below (Dr.refl _).drew _)
  refine wp_region_inv2 (fun D az wz => ∃ x5 x6 x7 x8 x9 x10 x11 x12 x13 x14 x15 x16 x17 x18 x19 x20 x21 x22 x23 x24 : Value, az = ⟨#[.agg (cells9 m v), .pointer (some ⟨w.heap.size, 0, none⟩), .pointer (some ⟨w.heap.size + 1, 0, none⟩), .pointer (some ⟨w.heap.size + 2, 0, none⟩), .agg (cells9 m v), x5, x6, x7, x8, x9, x10, x11, x12, x13, x14, x15, x16, x17, x18, x19, x20, x21, x22, x23, x24, undef, undef, undef, undef, undef, undef, undef, undef, undef, undef, undef, undef, undef, undef, undef, undef], []⟩ ∧ Kx w m v wz ∧ (D 0 → LitAt (w.heap.size + 3) 3 x5 wz) ∧ (D 1 → x6 = .pointer (some ⟨w.heap.size, 1, none⟩)) ∧ (D 2 → x7 = .slice v.ins.A v.ins.n v.ins.c) ∧ (D 3 → ∃ s : Sl, x8 = .slice s.A s.n s.c) ∧ (D 4 → LitAt (w.heap.size + 3) 3 x9 wz) ∧ (D 5 → x10 = .pointer (some ⟨w.heap.size, 3, none⟩)) ∧ (D 6 → x11 = .slice v.outs.A v.outs.n v.outs.c) ∧ (D 7 → ∃ s : Sl, x12 = .slice s.A s.n s.c) ∧ (D 8 → LitAt (w.heap.size + 3) 3 x13 wz) ∧ (D 9 → x14 = .pointer (some ⟨w.heap.size, 4, none⟩)) ∧ (D 10 → x15 = .slice v.bads.A v.bads.n v.bads.c) ∧ (D 11 → ∃ s : Sl, x16 = .slice s.A s.n s.c) ∧ (D 12 → LitAt (w.heap.size + 3) 3 x17 wz) ∧ (D 13 → x18 = .pointer (some ⟨w.heap.size, 5, none⟩)) ∧ (D 14 → x19 = .slice v.cons.A v.cons.n v.cons.c) ∧ (D 15 → ∃ s : Sl, x20 = .slice s.A s.n s.c) ∧ (D 16 → x21 = .pointer (some ⟨w.heap.size + 2, 1, none⟩)) ∧ (D 18 → x22 = .pointer (some ⟨w.heap.size + 2, 3, none⟩)) ∧ (D 20 → x23 = .pointer (some ⟨w.heap.size + 2, 4, none⟩)) ∧ (D 22 → x24 = .pointer (some ⟨w.heap.size + 2, 5, none⟩))) (by kernel_rfl) (by kernel_rfl) ?h0 ?hstep ?hdone
  case h0 =>
    refine ⟨_, _, _, _, _, _, _, _, _, _, _, _, _, _, _, _, _, _, _, _, rfl, hk, fun h => absurd h (by decide), fun h => absurd h (by decide), fun h => absurd h (by decide), fun h => absurd h (by decide), fun h => absurd h (by decide), fun h => absurd h (by decide), fun h => absurd h (by decide), fun h => absurd h (by decide), fun h => absurd h (by decide), fun h => absurd h (by decide), fun h => absurd h (by decide), fun h => absurd h (by decide), fun h => absurd h (by decide), fun h => absurd h (by decide), fun h => absurd h (by decide), fun h => absurd h (by decide), fun h => absurd h (by decide), fun h => absurd h (by decide), fun h => absurd h (by decide), fun h => absurd h (by decide)⟩
  case hstep =>
    intro D az wz i hi' hd hI
    obtain ⟨x5, x6, x7, x8, x9, x10, x11, x12, x13, x14, x15, x16, x17, x18, x19, x20, x21, x22, x23, x24, rfl, hbz, f0, f1, f2, f3, f4, f5, f6, f7, f8, f9, f10, f11, f12, f13, f14, f15, f16, f18, f20, f22⟩ := hI
    have hi' : i < 24 := hi'
    rcases (show i = 0 ∨ i = 1 ∨ i = 2 ∨ i = 3 ∨ i = 4 ∨ i = 5 ∨ i = 6 ∨ i = 7 ∨ i = 8 ∨ i = 9 ∨ i = 10 ∨ i = 11 ∨ i = 12 ∨ i = 13 ∨ i = 14 ∨ i = 15 ∨ i = 16 ∨ i = 17 ∨ i = 18 ∨ i = 19 ∨ i = 20 ∨ i = 21 ∨ i = 22 ∨ i = 23 by omega) with rfl | rfl | rfl | rfl | rfl | rfl | rfl | rfl | rfl | rfl | rfl | rfl | rfl | rfl | rfl | rfl | rfl | rfl | rfl | rfl | rfl | rfl | rfl | rfl
    · -- 0
      refine wpOp_step rfl (fun K hK => ?_)
      have hK : Shut _ := hK
      go_simp
      have hbs := (Below.refl wz.heap.size wz).alloc (Nat.le_refl _) (.cells #[] 3)
      try simp only [Act.put, List.getElem_toArray, List.getElem_cons_succ, List.getElem_cons_zero, List.setIfInBounds_toArray, List.set_cons_zero, List.set_cons_succ]
      refine hK.out _ _ ⟨_, _, _, _, _, _, _, _, _, _, _, _, _, _, _, _, _, _, _, _, rfl, hbz.step hbs, fun _ => LitAt.new wz (w.heap.size + 3) _ hbz.size, fun h => h.elim (fun e => absurd e (by decide)) f1, fun h => h.elim (fun e => absurd e (by decide)) f2, fun h => h.elim (fun e => absurd e (by decide)) f3, fun h => h.elim (fun e => absurd e (by decide)) (fun h => (f4 h).step hbs), fun h => h.elim (fun e => absurd e (by decide)) f5, fun h => h.elim (fun e => absurd e (by decide)) f6, fun h => h.elim (fun e => absurd e (by decide)) f7, fun h => h.elim (fun e => absurd e (by decide)) (fun h => (f8 h).step hbs), fun h => h.elim (fun e => absurd e (by decide)) f9, fun h => h.elim (fun e => absurd e (by decide)) f10, fun h => h.elim (fun e => absurd e (by decide)) f11, fun h => h.elim (fun e => absurd e (by decide)) (fun h => (f12 h).step hbs), fun h => h.elim (fun e => absurd e (by decide)) f13, fun h => h.elim (fun e => absurd e (by decide)) f14, fun h => h.elim (fun e => absurd e (by decide)) f15, fun h => h.elim (fun e => absurd e (by decide)) f16, fun h => h.elim (fun e => absurd e (by decide)) f18, fun h => h.elim (fun e => absurd e (by decide)) f20, fun h => h.elim (fun e => absurd e (by decide)) f22⟩
    · -- 1
      refine wpOp_step rfl (fun K hK => ?_)
      have hK : Shut _ := hK
      go_simp
      try simp only [Act.put, List.getElem_toArray, List.getElem_cons_succ, List.getElem_cons_zero, List.setIfInBounds_toArray, List.set_cons_zero, List.set_cons_succ]
      refine hK.out _ _ ⟨_, _, _, _, _, _, _, _, _, _, _, _, _, _, _, _, _, _, _, _, rfl, hbz, fun h => h.elim (fun e => absurd e (by decide)) f0, fun _ => rfl, fun h => h.elim (fun e => absurd e (by decide)) f2, fun h => h.elim (fun e => absurd e (by decide)) f3, fun h => h.elim (fun e => absurd e (by decide)) f4, fun h => h.elim (fun e => absurd e (by decide)) f5, fun h => h.elim (fun e => absurd e (by decide)) f6, fun h => h.elim (fun e => absurd e (by decide)) f7, fun h => h.elim (fun e => absurd e (by decide)) f8, fun h => h.elim (fun e => absurd e (by decide)) f9, fun h => h.elim (fun e => absurd e (by decide)) f10, fun h => h.elim (fun e => absurd e (by decide)) f11, fun h => h.elim (fun e => absurd e (by decide)) f12, fun h => h.elim (fun e => absurd e (by decide)) f13, fun h => h.elim (fun e => absurd e (by decide)) f14, fun h => h.elim (fun e => absurd e (by decide)) f15, fun h => h.elim (fun e => absurd e (by decide)) f16, fun h => h.elim (fun e => absurd e (by decide)) f18, fun h => h.elim (fun e => absurd e (by decide)) f20, fun h => h.elim (fun e => absurd e (by decide)) f22⟩
    · -- 2
      have d1 := f1 (hd 1 (by kernel_rfl))
      refine wpOp_step rfl (fun K hK => ?_)
      have hK : Shut _ := hK
      subst d1
      have cz : wz.cell? ⟨w.heap.size, 1, none⟩ = some (.slice v.ins.A v.ins.n v.ins.c) := hbz.b1.cell 1
      go_simp
      try simp only [Act.put, List.getElem_toArray, List.getElem_cons_succ, List.getElem_cons_zero, List.setIfInBounds_toArray, List.set_cons_zero, List.set_cons_succ]
      refine hK.out _ _ ⟨_, _, _, _, _, _, _, _, _, _, _, _, _, _, _, _, _, _, _, _, rfl, hbz, fun h => h.elim (fun e => absurd e (by decide)) f0, fun h => h.elim (fun e => absurd e (by decide)) f1, fun _ => rfl, fun h => h.elim (fun e => absurd e (by decide)) f3, fun h => h.elim (fun e => absurd e (by decide)) f4, fun h => h.elim (fun e => absurd e (by decide)) f5, fun h => h.elim (fun e => absurd e (by decide)) f6, fun h => h.elim (fun e => absurd e (by decide)) f7, fun h => h.elim (fun e => absurd e (by decide)) f8, fun h => h.elim (fun e => absurd e (by decide)) f9, fun h => h.elim (fun e => absurd e (by decide)) f10, fun h => h.elim (fun e => absurd e (by decide)) f11, fun h => h.elim (fun e => absurd e (by decide)) f12, fun h => h.elim (fun e => absurd e (by decide)) f13, fun h => h.elim (fun e => absurd e (by decide)) f14, fun h => h.elim (fun e => absurd e (by decide)) f15, fun h => h.elim (fun e => absurd e (by decide)) f16, fun h => h.elim (fun e => absurd e (by decide)) f18, fun h => h.elim (fun e => absurd e (by decide)) f20, fun h => h.elim (fun e => absurd e (by decide)) f22⟩
    · -- 3
      have d0 := f0 (hd 0 (by kernel_rfl))
      have d2 := f2 (hd 2 (by kernel_rfl))
      refine wpOp_step rfl (fun K hK => ?_)
      have hK : Shut _ := hK
      subst d2
      obtain ⟨g, rfl, hg1, hg2⟩ := d0
      refine step_append_lit rfl (.tmp 5) (.tmp 7) 22 rfl Tryd.underlying22 info_i rfl (by decide) rfl rfl hg2 hg1 (rd_rdS (hi.out.below hbz.bel (Nat.le_refl _)).ins) ivs_one (by unfold maxLen; omega) (by omega) ?_
      intro v1 w1 hown hbs
      obtain ⟨s, rfl, hsn⟩ := own_sl hown
      try simp only [Act.put, List.getElem_toArray, List.getElem_cons_succ, List.getElem_cons_zero, List.setIfInBounds_toArray, List.set_cons_zero, List.set_cons_succ]
      refine hK.out _ _ ⟨_, _, _, _, _, _, _, _, _, _, _, _, _, _, _, _, _, _, _, _, rfl, hbz.step hbs, fun h => h.elim (fun e => absurd e (by decide)) (fun h => (f0 h).step hbs), fun h => h.elim (fun e => absurd e (by decide)) f1, fun h => h.elim (fun e => absurd e (by decide)) f2, fun _ => ⟨s, rfl⟩, fun h => h.elim (fun e => absurd e (by decide)) (fun h => (f4 h).step hbs), fun h => h.elim (fun e => absurd e (by decide)) f5, fun h => h.elim (fun e => absurd e (by decide)) f6, fun h => h.elim (fun e => absurd e (by decide)) f7, fun h => h.elim (fun e => absurd e (by decide)) (fun h => (f8 h).step hbs), fun h => h.elim (fun e => absurd e (by decide)) f9, fun h => h.elim (fun e => absurd e (by decide)) f10, fun h => h.elim (fun e => absurd e (by decide)) f11, fun h => h.elim (fun e => absurd e (by decide)) (fun h => (f12 h).step hbs), fun h => h.elim (fun e => absurd e (by decide)) f13, fun h => h.elim (fun e => absurd e (by decide)) f14, fun h => h.elim (fun e => absurd e (by decide)) f15, fun h => h.elim (fun e => absurd e (by decide)) f16, fun h => h.elim (fun e => absurd e (by decide)) f18, fun h => h.elim (fun e => absurd e (by decide)) f20, fun h => h.elim (fun e => absurd e (by decide)) f22⟩
    · -- 4
      refine wpOp_step rfl (fun K hK => ?_)
      have hK : Shut _ := hK
      go_simp
      have hbs := (Below.refl wz.heap.size wz).alloc (Nat.le_refl _) (.cells #[] 3)
      try simp only [Act.put, List.getElem_toArray, List.getElem_cons_succ, List.getElem_cons_zero, List.setIfInBounds_toArray, List.set_cons_zero, List.set_cons_succ]
      refine hK.out _ _ ⟨_, _, _, _, _, _, _, _, _, _, _, _, _, _, _, _, _, _, _, _, rfl, hbz.step hbs, fun h => h.elim (fun e => absurd e (by decide)) (fun h => (f0 h).step hbs), fun h => h.elim (fun e => absurd e (by decide)) f1, fun h => h.elim (fun e => absurd e (by decide)) f2, fun h => h.elim (fun e => absurd e (by decide)) f3, fun _ => LitAt.new wz (w.heap.size + 3) _ hbz.size, fun h => h.elim (fun e => absurd e (by decide)) f5, fun h => h.elim (fun e => absurd e (by decide)) f6, fun h => h.elim (fun e => absurd e (by decide)) f7, fun h => h.elim (fun e => absurd e (by decide)) (fun h => (f8 h).step hbs), fun h => h.elim (fun e => absurd e (by decide)) f9, fun h => h.elim (fun e => absurd e (by decide)) f10, fun h => h.elim (fun e => absurd e (by decide)) f11, fun h => h.elim (fun e => absurd e (by decide)) (fun h => (f12 h).step hbs), fun h => h.elim (fun e => absurd e (by decide)) f13, fun h => h.elim (fun e => absurd e (by decide)) f14, fun h => h.elim (fun e => absurd e (by decide)) f15, fun h => h.elim (fun e => absurd e (by decide)) f16, fun h => h.elim (fun e => absurd e (by decide)) f18, fun h => h.elim (fun e => absurd e (by decide)) f20, fun h => h.elim (fun e => absurd e (by decide)) f22⟩
    · -- 5
      refine wpOp_step rfl (fun K hK => ?_)
      have hK : Shut _ := hK
      go_simp
      try simp only [Act.put, List.getElem_toArray, List.getElem_cons_succ, List.getElem_cons_zero, List.setIfInBounds_toArray, List.set_cons_zero, List.set_cons_succ]
      refine hK.out _ _ ⟨_, _, _, _, _, _, _, _, _, _, _, _, _, _, _, _, _, _, _, _, rfl, hbz, fun h => h.elim (fun e => absurd e (by decide)) f0, fun h => h.elim (fun e => absurd e (by decide)) f1, fun h => h.elim (fun e => absurd e (by decide)) f2, fun h => h.elim (fun e => absurd e (by decide)) f3, fun h => h.elim (fun e => absurd e (by decide)) f4, fun _ => rfl, fun h => h.elim (fun e => absurd e (by decide)) f6, fun h => h.elim (fun e => absurd e (by decide)) f7, fun h => h.elim (fun e => absurd e (by decide)) f8, fun h => h.elim (fun e => absurd e (by decide)) f9, fun h => h.elim (fun e => absurd e (by decide)) f10, fun h => h.elim (fun e => absurd e (by decide)) f11, fun h => h.elim (fun e => absurd e (by decide)) f12, fun h => h.elim (fun e => absurd e (by decide)) f13, fun h => h.elim (fun e => absurd e (by decide)) f14, fun h => h.elim (fun e => absurd e (by decide)) f15, fun h => h.elim (fun e => absurd e (by decide)) f16, fun h => h.elim (fun e => absurd e (by decide)) f18, fun h => h.elim (fun e => absurd e (by decide)) f20, fun h => h.elim (fun e => absurd e (by decide)) f22⟩
    · -- 6
      have d5 := f5 (hd 5 (by kernel_rfl))
      refine wpOp_step rfl (fun K hK => ?_)
      have hK : Shut _ := hK
      subst d5
      have cz : wz.cell? ⟨w.heap.size, 3, none⟩ = some (.slice v.outs.A v.outs.n v.outs.c) := hbz.b1.cell 3
      go_simp
      try simp only [Act.put, List.getElem_toArray, List.getElem_cons_succ, List.getElem_cons_zero, List.setIfInBounds_toArray, List.set_cons_zero, List.set_cons_succ]
      refine hK.out _ _ ⟨_, _, _, _, _, _, _, _, _, _, _, _, _, _, _, _, _, _, _, _, rfl, hbz, fun h => h.elim (fun e => absurd e (by decide)) f0, fun h => h.elim (fun e => absurd e (by decide)) f1, fun h => h.elim (fun e => absurd e (by decide)) f2, fun h => h.elim (fun e => absurd e (by decide)) f3, fun h => h.elim (fun e => absurd e (by decide)) f4, fun h => h.elim (fun e => absurd e (by decide)) f5, fun _ => rfl, fun h => h.elim (fun e => absurd e (by decide)) f7, fun h => h.elim (fun e => absurd e (by decide)) f8, fun h => h.elim (fun e => absurd e (by decide)) f9, fun h => h.elim (fun e => absurd e (by decide)) f10, fun h => h.elim (fun e => absurd e (by decide)) f11, fun h => h.elim (fun e => absurd e (by decide)) f12, fun h => h.elim (fun e => absurd e (by decide)) f13, fun h => h.elim (fun e => absurd e (by decide)) f14, fun h => h.elim (fun e => absurd e (by decide)) f15, fun h => h.elim (fun e => absurd e (by decide)) f16, fun h => h.elim (fun e => absurd e (by decide)) f18, fun h => h.elim (fun e => absurd e (by decide)) f20, fun h => h.elim (fun e => absurd e (by decide)) f22⟩
    · -- 7
      have d4 := f4 (hd 4 (by kernel_rfl))
      have d6 := f6 (hd 6 (by kernel_rfl))
      refine wpOp_step rfl (fun K hK => ?_)
      have hK : Shut _ := hK
      subst d6
      obtain ⟨g, rfl, hg1, hg2⟩ := d4
      refine step_append_lit rfl (.tmp 9) (.tmp 11) 22 rfl Tryd.underlying22 info_i rfl (by decide) rfl rfl hg2 hg1 (rd_rdS (hi.out.below hbz.bel (Nat.le_refl _)).outs) ivs_one (by unfold maxLen; omega) (by omega) ?_
      intro v1 w1 hown hbs
      obtain ⟨s, rfl, hsn⟩ := own_sl hown
      try simp only [Act.put, List.getElem_toArray, List.getElem_cons_succ, List.getElem_cons_zero, List.setIfInBounds_toArray, List.set_cons_zero, List.set_cons_succ]
      refine hK.out _ _ ⟨_, _, _, _, _, _, _, _, _, _, _, _, _, _, _, _, _, _, _, _, rfl, hbz.step hbs, fun h => h.elim (fun e => absurd e (by decide)) (fun h => (f0 h).step hbs), fun h => h.elim (fun e => absurd e (by decide)) f1, fun h => h.elim (fun e => absurd e (by decide)) f2, fun h => h.elim (fun e => absurd e (by decide)) f3, fun h => h.elim (fun e => absurd e (by decide)) (fun h => (f4 h).step hbs), fun h => h.elim (fun e => absurd e (by decide)) f5, fun h => h.elim (fun e => absurd e (by decide)) f6, fun _ => ⟨s, rfl⟩, fun h => h.elim (fun e => absurd e (by decide)) (fun h => (f8 h).step hbs), fun h => h.elim (fun e => absurd e (by decide)) f9, fun h => h.elim (fun e => absurd e (by decide)) f10, fun h => h.elim (fun e => absurd e (by decide)) f11, fun h => h.elim (fun e => absurd e (by decide)) (fun h => (f12 h).step hbs), fun h => h.elim (fun e => absurd e (by decide)) f13, fun h => h.elim (fun e => absurd e (by decide)) f14, fun h => h.elim (fun e => absurd e (by decide)) f15, fun h => h.elim (fun e => absurd e (by decide)) f16, fun h => h.elim (fun e => absurd e (by decide)) f18, fun h => h.elim (fun e => absurd e (by decide)) f20, fun h => h.elim (fun e => absurd e (by decide)) f22⟩
    · -- 8
      refine wpOp_step rfl (fun K hK => ?_)
      have hK : Shut _ := hK
      go_simp
      have hbs := (Below.refl wz.heap.size wz).alloc (Nat.le_refl _) (.cells #[] 3)
      try simp only [Act.put, List.getElem_toArray, List.getElem_cons_succ, List.getElem_cons_zero, List.setIfInBounds_toArray, List.set_cons_zero, List.set_cons_succ]
      refine hK.out _ _ ⟨_, _, _, _, _, _, _, _, _, _, _, _, _, _, _, _, _, _, _, _, rfl, hbz.step hbs, fun h => h.elim (fun e => absurd e (by decide)) (fun h => (f0 h).step hbs), fun h => h.elim (fun e => absurd e (by decide)) f1, fun h => h.elim (fun e => absurd e (by decide)) f2, fun h => h.elim (fun e => absurd e (by decide)) f3, fun h => h.elim (fun e => absurd e (by decide)) (fun h => (f4 h).step hbs), fun h => h.elim (fun e => absurd e (by decide)) f5, fun h => h.elim (fun e => absurd e (by decide)) f6, fun h => h.elim (fun e => absurd e (by decide)) f7, fun _ => LitAt.new wz (w.heap.size + 3) _ hbz.size, fun h => h.elim (fun e => absurd e (by decide)) f9, fun h => h.elim (fun e => absurd e (by decide)) f10, fun h => h.elim (fun e => absurd e (by decide)) f11, fun h => h.elim (fun e => absurd e (by decide)) (fun h => (f12 h).step hbs), fun h => h.elim (fun e => absurd e (by decide)) f13, fun h => h.elim (fun e => absurd e (by decide)) f14, fun h => h.elim (fun e => absurd e (by decide)) f15, fun h => h.elim (fun e => absurd e (by decide)) f16, fun h => h.elim (fun e => absurd e (by decide)) f18, fun h => h.elim (fun e => absurd e (by decide)) f20, fun h => h.elim (fun e => absurd e (by decide)) f22⟩
    · -- 9
      refine wpOp_step rfl (fun K hK => ?_)
      have hK : Shut _ := hK
      go_simp
      try simp only [Act.put, List.getElem_toArray, List.getElem_cons_succ, List.getElem_cons_zero, List.setIfInBounds_toArray, List.set_cons_zero, List.set_cons_succ]
      refine hK.out _ _ ⟨_, _, _, _, _, _, _, _, _, _, _, _, _, _, _, _, _, _, _, _, rfl, hbz, fun h => h.elim (fun e => absurd e (by decide)) f0, fun h => h.elim (fun e => absurd e (by decide)) f1, fun h => h.elim (fun e => absurd e (by decide)) f2, fun h => h.elim (fun e => absurd e (by decide)) f3, fun h => h.elim (fun e => absurd e (by decide)) f4, fun h => h.elim (fun e => absurd e (by decide)) f5, fun h => h.elim (fun e => absurd e (by decide)) f6, fun h => h.elim (fun e => absurd e (by decide)) f7, fun h => h.elim (fun e => absurd e (by decide)) f8, fun _ => rfl, fun h => h.elim (fun e => absurd e (by decide)) f10, fun h => h.elim (fun e => absurd e (by decide)) f11, fun h => h.elim (fun e => absurd e (by decide)) f12, fun h => h.elim (fun e => absurd e (by decide)) f13, fun h => h.elim (fun e => absurd e (by decide)) f14, fun h => h.elim (fun e => absurd e (by decide)) f15, fun h => h.elim (fun e => absurd e (by decide)) f16, fun h => h.elim (fun e => absurd e (by decide)) f18, fun h => h.elim (fun e => absurd e (by decide)) f20, fun h => h.elim (fun e => absurd e (by decide)) f22⟩
    · -- 10
      have d9 := f9 (hd 9 (by kernel_rfl))
      refine wpOp_step rfl (fun K hK => ?_)
      have hK : Shut _ := hK
      subst d9
      have cz : wz.cell? ⟨w.heap.size, 4, none⟩ = some (.slice v.bads.A v.bads.n v.bads.c) := hbz.b1.cell 4
      go_simp
      try simp only [Act.put, List.getElem_toArray, List.getElem_cons_succ, List.getElem_cons_zero, List.setIfInBounds_toArray, List.set_cons_zero, List.set_cons_succ]
      refine hK.out _ _ ⟨_, _, _, _, _, _, _, _, _, _, _, _, _, _, _, _, _, _, _, _, rfl, hbz, fun h => h.elim (fun e => absurd e (by decide)) f0, fun h => h.elim (fun e => absurd e (by decide)) f1, fun h => h.elim (fun e => absurd e (by decide)) f2, fun h => h.elim (fun e => absurd e (by decide)) f3, fun h => h.elim (fun e => absurd e (by decide)) f4, fun h => h.elim (fun e => absurd e (by decide)) f5, fun h => h.elim (fun e => absurd e (by decide)) f6, fun h => h.elim (fun e => absurd e (by decide)) f7, fun h => h.elim (fun e => absurd e (by decide)) f8, fun h => h.elim (fun e => absurd e (by decide)) f9, fun _ => rfl, fun h => h.elim (fun e => absurd e (by decide)) f11, fun h => h.elim (fun e => absurd e (by decide)) f12, fun h => h.elim (fun e => absurd e (by decide)) f13, fun h => h.elim (fun e => absurd e (by decide)) f14, fun h => h.elim (fun e => absurd e (by decide)) f15, fun h => h.elim (fun e => absurd e (by decide)) f16, fun h => h.elim (fun e => absurd e (by decide)) f18, fun h => h.elim (fun e => absurd e (by decide)) f20, fun h => h.elim (fun e => absurd e (by decide)) f22⟩
    · -- 11
      have d8 := f8 (hd 8 (by kernel_rfl))
      have d10 := f10 (hd 10 (by kernel_rfl))
      refine wpOp_step rfl (fun K hK => ?_)
      have hK : Shut _ := hK
      subst d10
      obtain ⟨g, rfl, hg1, hg2⟩ := d8
      refine step_append_lit rfl (.tmp 13) (.tmp 15) 22 rfl Tryd.underlying22 info_i rfl (by decide) rfl rfl hg2 hg1 (rd_rdS (hi.out.below hbz.bel (Nat.le_refl _)).bads) ivs_one (by unfold maxLen; omega) (by omega) ?_
      intro v1 w1 hown hbs
      obtain ⟨s, rfl, hsn⟩ := own_sl hown
      try simp only [Act.put, List.getElem_toArray, List.getElem_cons_succ, List.getElem_cons_zero, List.setIfInBounds_toArray, List.set_cons_zero, List.set_cons_succ]
      refine hK.out _ _ ⟨_, _, _, _, _, _, _, _, _, _, _, _, _, _, _, _, _, _, _, _, rfl, hbz.step hbs, fun h => h.elim (fun e => absurd e (by decide)) (fun h => (f0 h).step hbs), fun h => h.elim (fun e => absurd e (by decide)) f1, fun h => h.elim (fun e => absurd e (by decide)) f2, fun h => h.elim (fun e => absurd e (by decide)) f3, fun h => h.elim (fun e => absurd e (by decide)) (fun h => (f4 h).step hbs), fun h => h.elim (fun e => absurd e (by decide)) f5, fun h => h.elim (fun e => absurd e (by decide)) f6, fun h => h.elim (fun e => absurd e (by decide)) f7, fun h => h.elim (fun e => absurd e (by decide)) (fun h => (f8 h).step hbs), fun h => h.elim (fun e => absurd e (by decide)) f9, fun h => h.elim (fun e => absurd e (by decide)) f10, fun _ => ⟨s, rfl⟩, fun h => h.elim (fun e => absurd e (by decide)) (fun h => (f12 h).step hbs), fun h => h.elim (fun e => absurd e (by decide)) f13, fun h => h.elim (fun e => absurd e (by decide)) f14, fun h => h.elim (fun e => absurd e (by decide)) f15, fun h => h.elim (fun e => absurd e (by decide)) f16, fun h => h.elim (fun e => absurd e (by decide)) f18, fun h => h.elim (fun e => absurd e (by decide)) f20, fun h => h.elim (fun e => absurd e (by decide)) f22⟩
    · -- 12
      refine wpOp_step rfl (fun K hK => ?_)
      have hK : Shut _ := hK
      go_simp
      have hbs := (Below.refl wz.heap.size wz).alloc (Nat.le_refl _) (.cells #[] 3)
      try simp only [Act.put, List.getElem_toArray, List.getElem_cons_succ, List.getElem_cons_zero, List.setIfInBounds_toArray, List.set_cons_zero, List.set_cons_succ]
      refine hK.out _ _ ⟨_, _, _, _, _, _, _, _, _, _, _, _, _, _, _, _, _, _, _, _, rfl, hbz.step hbs, fun h => h.elim (fun e => absurd e (by decide)) (fun h => (f0 h).step hbs), fun h => h.elim (fun e => absurd e (by decide)) f1, fun h => h.elim (fun e => absurd e (by decide)) f2, fun h => h.elim (fun e => absurd e (by decide)) f3, fun h => h.elim (fun e => absurd e (by decide)) (fun h => (f4 h).step hbs), fun h => h.elim (fun e => absurd e (by decide)) f5, fun h => h.elim (fun e => absurd e (by decide)) f6, fun h => h.elim (fun e => absurd e (by decide)) f7, fun h => h.elim (fun e => absurd e (by decide)) (fun h => (f8 h).step hbs), fun h => h.elim (fun e => absurd e (by decide)) f9, fun h => h.elim (fun e => absurd e (by decide)) f10, fun h => h.elim (fun e => absurd e (by decide)) f11, fun _ => LitAt.new wz (w.heap.size + 3) _ hbz.size, fun h => h.elim (fun e => absurd e (by decide)) f13, fun h => h.elim (fun e => absurd e (by decide)) f14, fun h => h.elim (fun e => absurd e (by decide)) f15, fun h => h.elim (fun e => absurd e (by decide)) f16, fun h => h.elim (fun e => absurd e (by decide)) f18, fun h => h.elim (fun e => absurd e (by decide)) f20, fun h => h.elim (fun e => absurd e (by decide)) f22⟩
    · -- 13
      refine wpOp_step rfl (fun K hK => ?_)
      have hK : Shut _ := hK
      go_simp
      try simp only [Act.put, List.getElem_toArray, List.getElem_cons_succ, List.getElem_cons_zero, List.setIfInBounds_toArray, List.set_cons_zero, List.set_cons_succ]
      refine hK.out _ _ ⟨_, _, _, _, _, _, _, _, _, _, _, _, _, _, _, _, _, _, _, _, rfl, hbz, fun h => h.elim (fun e => absurd e (by decide)) f0, fun h => h.elim (fun e => absurd e (by decide)) f1, fun h => h.elim (fun e => absurd e (by decide)) f2, fun h => h.elim (fun e => absurd e (by decide)) f3, fun h => h.elim (fun e => absurd e (by decide)) f4, fun h => h.elim (fun e => absurd e (by decide)) f5, fun h => h.elim (fun e => absurd e (by decide)) f6, fun h => h.elim (fun e => absurd e (by decide)) f7, fun h => h.elim (fun e => absurd e (by decide)) f8, fun h => h.elim (fun e => absurd e (by decide)) f9, fun h => h.elim (fun e => absurd e (by decide)) f10, fun h => h.elim (fun e => absurd e (by decide)) f11, fun h => h.elim (fun e => absurd e (by decide)) f12, fun _ => rfl, fun h => h.elim (fun e => absurd e (by decide)) f14, fun h => h.elim (fun e => absurd e (by decide)) f15, fun h => h.elim (fun e => absurd e (by decide)) f16, fun h => h.elim (fun e => absurd e (by decide)) f18, fun h => h.elim (fun e => absurd e (by decide)) f20, fun h => h.elim (fun e => absurd e (by decide)) f22⟩
    · -- 14
      have d13 := f13 (hd 13 (by kernel_rfl))
      refine wpOp_step rfl (fun K hK => ?_)
      have hK : Shut _ := hK
      subst d13
      have cz : wz.cell? ⟨w.heap.size, 5, none⟩ = some (.slice v.cons.A v.cons.n v.cons.c) := hbz.b1.cell 5
      go_simp
      try simp only [Act.put, List.getElem_toArray, List.getElem_cons_succ, List.getElem_cons_zero, List.setIfInBounds_toArray, List.set_cons_zero, List.set_cons_succ]
      refine hK.out _ _ ⟨_, _, _, _, _, _, _, _, _, _, _, _, _, _, _, _, _, _, _, _, rfl, hbz, fun h => h.elim (fun e => absurd e (by decide)) f0, fun h => h.elim (fun e => absurd e (by decide)) f1, fun h => h.elim (fun e => absurd e (by decide)) f2, fun h => h.elim (fun e => absurd e (by decide)) f3, fun h => h.elim (fun e => absurd e (by decide)) f4, fun h => h.elim (fun e => absurd e (by decide)) f5, fun h => h.elim (fun e => absurd e (by decide)) f6, fun h => h.elim (fun e => absurd e (by decide)) f7, fun h => h.elim (fun e => absurd e (by decide)) f8, fun h => h.elim (fun e => absurd e (by decide)) f9, fun h => h.elim (fun e => absurd e (by decide)) f10, fun h => h.elim (fun e => absurd e (by decide)) f11, fun h => h.elim (fun e => absurd e (by decide)) f12, fun h => h.elim (fun e => absurd e (by decide)) f13, fun _ => rfl, fun h => h.elim (fun e => absurd e (by decide)) f15, fun h => h.elim (fun e => absurd e (by decide)) f16, fun h => h.elim (fun e => absurd e (by decide)) f18, fun h => h.elim (fun e => absurd e (by decide)) f20, fun h => h.elim (fun e => absurd e (by decide)) f22⟩
    · -- 15
      have d12 := f12 (hd 12 (by kernel_rfl))
      have d14 := f14 (hd 14 (by kernel_rfl))
      refine wpOp_step rfl (fun K hK => ?_)
      have hK : Shut _ := hK
      subst d14
      obtain ⟨g, rfl, hg1, hg2⟩ := d12
      refine step_append_lit rfl (.tmp 17) (.tmp 19) 22 rfl Tryd.underlying22 info_i rfl (by decide) rfl rfl hg2 hg1 (rd_rdS (hi.out.below hbz.bel (Nat.le_refl _)).cons) ivs_one (by unfold maxLen; omega) (by omega) ?_
      intro v1 w1 hown hbs
      obtain ⟨s, rfl, hsn⟩ := own_sl hown
      try simp only [Act.put, List.getElem_toArray, List.getElem_cons_succ, List.getElem_cons_zero, List.setIfInBounds_toArray, List.set_cons_zero, List.set_cons_succ]
      refine hK.out _ _ ⟨_, _, _, _, _, _, _, _, _, _, _, _, _, _, _, _, _, _, _, _, rfl, hbz.step hbs, fun h => h.elim (fun e => absurd e (by decide)) (fun h => (f0 h).step hbs), fun h => h.elim (fun e => absurd e (by decide)) f1, fun h => h.elim (fun e => absurd e (by decide)) f2, fun h => h.elim (fun e => absurd e (by decide)) f3, fun h => h.elim (fun e => absurd e (by decide)) (fun h => (f4 h).step hbs), fun h => h.elim (fun e => absurd e (by decide)) f5, fun h => h.elim (fun e => absurd e (by decide)) f6, fun h => h.elim (fun e => absurd e (by decide)) f7, fun h => h.elim (fun e => absurd e (by decide)) (fun h => (f8 h).step hbs), fun h => h.elim (fun e => absurd e (by decide)) f9, fun h => h.elim (fun e => absurd e (by decide)) f10, fun h => h.elim (fun e => absurd e (by decide)) f11, fun h => h.elim (fun e => absurd e (by decide)) (fun h => (f12 h).step hbs), fun h => h.elim (fun e => absurd e (by decide)) f13, fun h => h.elim (fun e => absurd e (by decide)) f14, fun _ => ⟨s, rfl⟩, fun h => h.elim (fun e => absurd e (by decide)) f16, fun h => h.elim (fun e => absurd e (by decide)) f18, fun h => h.elim (fun e => absurd e (by decide)) f20, fun h => h.elim (fun e => absurd e (by decide)) f22⟩
    · -- 16
      refine wpOp_step rfl (fun K hK => ?_)
      have hK : Shut _ := hK
      go_simp
      try simp only [Act.put, List.getElem_toArray, List.getElem_cons_succ, List.getElem_cons_zero, List.setIfInBounds_toArray, List.set_cons_zero, List.set_cons_succ]
      refine hK.out _ _ ⟨_, _, _, _, _, _, _, _, _, _, _, _, _, _, _, _, _, _, _, _, rfl, hbz, fun h => h.elim (fun e => absurd e (by decide)) f0, fun h => h.elim (fun e => absurd e (by decide)) f1, fun h => h.elim (fun e => absurd e (by decide)) f2, fun h => h.elim (fun e => absurd e (by decide)) f3, fun h => h.elim (fun e => absurd e (by decide)) f4, fun h => h.elim (fun e => absurd e (by decide)) f5, fun h => h.elim (fun e => absurd e (by decide)) f6, fun h => h.elim (fun e => absurd e (by decide)) f7, fun h => h.elim (fun e => absurd e (by decide)) f8, fun h => h.elim (fun e => absurd e (by decide)) f9, fun h => h.elim (fun e => absurd e (by decide)) f10, fun h => h.elim (fun e => absurd e (by decide)) f11, fun h => h.elim (fun e => absurd e (by decide)) f12, fun h => h.elim (fun e => absurd e (by decide)) f13, fun h => h.elim (fun e => absurd e (by decide)) f14, fun h => h.elim (fun e => absurd e (by decide)) f15, fun _ => rfl, fun h => h.elim (fun e => absurd e (by decide)) f18, fun h => h.elim (fun e => absurd e (by decide)) f20, fun h => h.elim (fun e => absurd e (by decide)) f22⟩
    · -- 17
      have d16 := f16 (hd 16 (by kernel_rfl))
      have d3 := f3 (hd 3 (by kernel_rfl))
      refine wpOp_step rfl (fun K hK => ?_)
      have hK : Shut _ := hK
      subst d16
      obtain ⟨s, rfl⟩ := d3
      obtain ⟨z, hz⟩ := hbz.b3
      have cz : wz.cell? ⟨w.heap.size + 2, 1, none⟩ = some (.slice z.ins.A z.ins.n z.ins.c) := hz.cell 1
      have fz : wz.frozen? ⟨w.heap.size + 2, 1, none⟩ = false := hz.frozen 1
      have hfar : w.heap.size + 2 < (w.heap.size + 3) := by omega
      go_simp
      try simp only [Act.put, List.getElem_toArray, List.getElem_cons_succ, List.getElem_cons_zero, List.setIfInBounds_toArray, List.set_cons_zero, List.set_cons_succ]
      refine hK.out _ _ ⟨_, _, _, _, _, _, _, _, _, _, _, _, _, _, _, _, _, _, _, _, rfl, hbz.put 1 _ (fun q => ⟨⟨s, q.lat, q.outs, q.bads, q.cons, q.gat, q.sym, q.com⟩, rfl⟩), fun h => h.elim (fun e => absurd e (by decide)) (fun h => (f0 h).far hfar), fun h => h.elim (fun e => absurd e (by decide)) f1, fun h => h.elim (fun e => absurd e (by decide)) f2, fun h => h.elim (fun e => absurd e (by decide)) f3, fun h => h.elim (fun e => absurd e (by decide)) (fun h => (f4 h).far hfar), fun h => h.elim (fun e => absurd e (by decide)) f5, fun h => h.elim (fun e => absurd e (by decide)) f6, fun h => h.elim (fun e => absurd e (by decide)) f7, fun h => h.elim (fun e => absurd e (by decide)) (fun h => (f8 h).far hfar), fun h => h.elim (fun e => absurd e (by decide)) f9, fun h => h.elim (fun e => absurd e (by decide)) f10, fun h => h.elim (fun e => absurd e (by decide)) f11, fun h => h.elim (fun e => absurd e (by decide)) (fun h => (f12 h).far hfar), fun h => h.elim (fun e => absurd e (by decide)) f13, fun h => h.elim (fun e => absurd e (by decide)) f14, fun h => h.elim (fun e => absurd e (by decide)) f15, fun h => h.elim (fun e => absurd e (by decide)) f16, fun h => h.elim (fun e => absurd e (by decide)) f18, fun h => h.elim (fun e => absurd e (by decide)) f20, fun h => h.elim (fun e => absurd e (by decide)) f22⟩
    · -- 18
      refine wpOp_step rfl (fun K hK => ?_)
      have hK : Shut _ := hK
      go_simp
      try simp only [Act.put, List.getElem_toArray, List.getElem_cons_succ, List.getElem_cons_zero, List.setIfInBounds_toArray, List.set_cons_zero, List.set_cons_succ]
      refine hK.out _ _ ⟨_, _, _, _, _, _, _, _, _, _, _, _, _, _, _, _, _, _, _, _, rfl, hbz, fun h => h.elim (fun e => absurd e (by decide)) f0, fun h => h.elim (fun e => absurd e (by decide)) f1, fun h => h.elim (fun e => absurd e (by decide)) f2, fun h => h.elim (fun e => absurd e (by decide)) f3, fun h => h.elim (fun e => absurd e (by decide)) f4, fun h => h.elim (fun e => absurd e (by decide)) f5, fun h => h.elim (fun e => absurd e (by decide)) f6, fun h => h.elim (fun e => absurd e (by decide)) f7, fun h => h.elim (fun e => absurd e (by decide)) f8, fun h => h.elim (fun e => absurd e (by decide)) f9, fun h => h.elim (fun e => absurd e (by decide)) f10, fun h => h.elim (fun e => absurd e (by decide)) f11, fun h => h.elim (fun e => absurd e (by decide)) f12, fun h => h.elim (fun e => absurd e (by decide)) f13, fun h => h.elim (fun e => absurd e (by decide)) f14, fun h => h.elim (fun e => absurd e (by decide)) f15, fun h => h.elim (fun e => absurd e (by decide)) f16, fun _ => rfl, fun h => h.elim (fun e => absurd e (by decide)) f20, fun h => h.elim (fun e => absurd e (by decide)) f22⟩
    · -- 19
      have d18 := f18 (hd 18 (by kernel_rfl))
      have d7 := f7 (hd 7 (by kernel_rfl))
      refine wpOp_step rfl (fun K hK => ?_)
      have hK : Shut _ := hK
      subst d18
      obtain ⟨s, rfl⟩ := d7
      obtain ⟨z, hz⟩ := hbz.b3
      have cz : wz.cell? ⟨w.heap.size + 2, 3, none⟩ = some (.slice z.outs.A z.outs.n z.outs.c) := hz.cell 3
      have fz : wz.frozen? ⟨w.heap.size + 2, 3, none⟩ = false := hz.frozen 3
      have hfar : w.heap.size + 2 < (w.heap.size + 3) := by omega
      go_simp
      try simp only [Act.put, List.getElem_toArray, List.getElem_cons_succ, List.getElem_cons_zero, List.setIfInBounds_toArray, List.set_cons_zero, List.set_cons_succ]
      refine hK.out _ _ ⟨_, _, _, _, _, _, _, _, _, _, _, _, _, _, _, _, _, _, _, _, rfl, hbz.put 3 _ (fun q => ⟨⟨q.ins, q.lat, s, q.bads, q.cons, q.gat, q.sym, q.com⟩, rfl⟩), fun h => h.elim (fun e => absurd e (by decide)) (fun h => (f0 h).far hfar), fun h => h.elim (fun e => absurd e (by decide)) f1, fun h => h.elim (fun e => absurd e (by decide)) f2, fun h => h.elim (fun e => absurd e (by decide)) f3, fun h => h.elim (fun e => absurd e (by decide)) (fun h => (f4 h).far hfar), fun h => h.elim (fun e => absurd e (by decide)) f5, fun h => h.elim (fun e => absurd e (by decide)) f6, fun h => h.elim (fun e => absurd e (by decide)) f7, fun h => h.elim (fun e => absurd e (by decide)) (fun h => (f8 h).far hfar), fun h => h.elim (fun e => absurd e (by decide)) f9, fun h => h.elim (fun e => absurd e (by decide)) f10, fun h => h.elim (fun e => absurd e (by decide)) f11, fun h => h.elim (fun e => absurd e (by decide)) (fun h => (f12 h).far hfar), fun h => h.elim (fun e => absurd e (by decide)) f13, fun h => h.elim (fun e => absurd e (by decide)) f14, fun h => h.elim (fun e => absurd e (by decide)) f15, fun h => h.elim (fun e => absurd e (by decide)) f16, fun h => h.elim (fun e => absurd e (by decide)) f18, fun h => h.elim (fun e => absurd e (by decide)) f20, fun h => h.elim (fun e => absurd e (by decide)) f22⟩
    · -- 20
      refine wpOp_step rfl (fun K hK => ?_)
      have hK : Shut _ := hK
      go_simp
      try simp only [Act.put, List.getElem_toArray, List.getElem_cons_succ, List.getElem_cons_zero, List.setIfInBounds_toArray, List.set_cons_zero, List.set_cons_succ]
      refine hK.out _ _ ⟨_, _, _, _, _, _, _, _, _, _, _, _, _, _, _, _, _, _, _, _, rfl, hbz, fun h => h.elim (fun e => absurd e (by decide)) f0, fun h => h.elim (fun e => absurd e (by decide)) f1, fun h => h.elim (fun e => absurd e (by decide)) f2, fun h => h.elim (fun e => absurd e (by decide)) f3, fun h => h.elim (fun e => absurd e (by decide)) f4, fun h => h.elim (fun e => absurd e (by decide)) f5, fun h => h.elim (fun e => absurd e (by decide)) f6, fun h => h.elim (fun e => absurd e (by decide)) f7, fun h => h.elim (fun e => absurd e (by decide)) f8, fun h => h.elim (fun e => absurd e (by decide)) f9, fun h => h.elim (fun e => absurd e (by decide)) f10, fun h => h.elim (fun e => absurd e (by decide)) f11, fun h => h.elim (fun e => absurd e (by decide)) f12, fun h => h.elim (fun e => absurd e (by decide)) f13, fun h => h.elim (fun e => absurd e (by decide)) f14, fun h => h.elim (fun e => absurd e (by decide)) f15, fun h => h.elim (fun e => absurd e (by decide)) f16, fun h => h.elim (fun e => absurd e (by decide)) f18, fun _ => rfl, fun h => h.elim (fun e => absurd e (by decide)) f22⟩
    · -- 21
      have d20 := f20 (hd 20 (by kernel_rfl))
      have d11 := f11 (hd 11 (by kernel_rfl))
      refine wpOp_step rfl (fun K hK => ?_)
      have hK : Shut _ := hK
      subst d20
      obtain ⟨s, rfl⟩ := d11
      obtain ⟨z, hz⟩ := hbz.b3
      have cz : wz.cell? ⟨w.heap.size + 2, 4, none⟩ = some (.slice z.bads.A z.bads.n z.bads.c) := hz.cell 4
      have fz : wz.frozen? ⟨w.heap.size + 2, 4, none⟩ = false := hz.frozen 4
      have hfar : w.heap.size + 2 < (w.heap.size + 3) := by omega
      go_simp
      try simp only [Act.put, List.getElem_toArray, List.getElem_cons_succ, List.getElem_cons_zero, List.setIfInBounds_toArray, List.set_cons_zero, List.set_cons_succ]
      refine hK.out _ _ ⟨_, _, _, _, _, _, _, _, _, _, _, _, _, _, _, _, _, _, _, _, rfl, hbz.put 4 _ (fun q => ⟨⟨q.ins, q.lat, q.outs, s, q.cons, q.gat, q.sym, q.com⟩, rfl⟩), fun h => h.elim (fun e => absurd e (by decide)) (fun h => (f0 h).far hfar), fun h => h.elim (fun e => absurd e (by decide)) f1, fun h => h.elim (fun e => absurd e (by decide)) f2, fun h => h.elim (fun e => absurd e (by decide)) f3, fun h => h.elim (fun e => absurd e (by decide)) (fun h => (f4 h).far hfar), fun h => h.elim (fun e => absurd e (by decide)) f5, fun h => h.elim (fun e => absurd e (by decide)) f6, fun h => h.elim (fun e => absurd e (by decide)) f7, fun h => h.elim (fun e => absurd e (by decide)) (fun h => (f8 h).far hfar), fun h => h.elim (fun e => absurd e (by decide)) f9, fun h => h.elim (fun e => absurd e (by decide)) f10, fun h => h.elim (fun e => absurd e (by decide)) f11, fun h => h.elim (fun e => absurd e (by decide)) (fun h => (f12 h).far hfar), fun h => h.elim (fun e => absurd e (by decide)) f13, fun h => h.elim (fun e => absurd e (by decide)) f14, fun h => h.elim (fun e => absurd e (by decide)) f15, fun h => h.elim (fun e => absurd e (by decide)) f16, fun h => h.elim (fun e => absurd e (by decide)) f18, fun h => h.elim (fun e => absurd e (by decide)) f20, fun h => h.elim (fun e => absurd e (by decide)) f22⟩
    · -- 22
      refine wpOp_step rfl (fun K hK => ?_)
      have hK : Shut _ := hK
      go_simp
      try simp only [Act.put, List.getElem_toArray, List.getElem_cons_succ, List.getElem_cons_zero, List.setIfInBounds_toArray, List.set_cons_zero, List.set_cons_succ]
      refine hK.out _ _ ⟨_, _, _, _, _, _, _, _, _, _, _, _, _, _, _, _, _, _, _, _, rfl, hbz, fun h => h.elim (fun e => absurd e (by decide)) f0, fun h => h.elim (fun e => absurd e (by decide)) f1, fun h => h.elim (fun e => absurd e (by decide)) f2, fun h => h.elim (fun e => absurd e (by decide)) f3, fun h => h.elim (fun e => absurd e (by decide)) f4, fun h => h.elim (fun e => absurd e (by decide)) f5, fun h => h.elim (fun e => absurd e (by decide)) f6, fun h => h.elim (fun e => absurd e (by decide)) f7, fun h => h.elim (fun e => absurd e (by decide)) f8, fun h => h.elim (fun e => absurd e (by decide)) f9, fun h => h.elim (fun e => absurd e (by decide)) f10, fun h => h.elim (fun e => absurd e (by decide)) f11, fun h => h.elim (fun e => absurd e (by decide)) f12, fun h => h.elim (fun e => absurd e (by decide)) f13, fun h => h.elim (fun e => absurd e (by decide)) f14, fun h => h.elim (fun e => absurd e (by decide)) f15, fun h => h.elim (fun e => absurd e (by decide)) f16, fun h => h.elim (fun e => absurd e (by decide)) f18, fun h => h.elim (fun e => absurd e (by decide)) f20, fun _ => rfl⟩
    · -- 23
      have d22 := f22 (hd 22 (by kernel_rfl))
      have d15 := f15 (hd 15 (by kernel_rfl))
      refine wpOp_step rfl (fun K hK => ?_)
      have hK : Shut _ := hK
      subst d22
      obtain ⟨s, rfl⟩ := d15
      obtain ⟨z, hz⟩ := hbz.b3
      have cz : wz.cell? ⟨w.heap.size + 2, 5, none⟩ = some (.slice z.cons.A z.cons.n z.cons.c) := hz.cell 5
      have fz : wz.frozen? ⟨w.heap.size + 2, 5, none⟩ = false := hz.frozen 5
      have hfar : w.heap.size + 2 < (w.heap.size + 3) := by omega
      go_simp
      try simp only [Act.put, List.getElem_toArray, List.getElem_cons_succ, List.getElem_cons_zero, List.setIfInBounds_toArray, List.set_cons_zero, List.set_cons_succ]
      refine hK.out _ _ ⟨_, _, _, _, _, _, _, _, _, _, _, _, _, _, _, _, _, _, _, _, rfl, hbz.put 5 _ (fun q => ⟨⟨q.ins, q.lat, q.outs, q.bads, s, q.gat, q.sym, q.com⟩, rfl⟩), fun h => h.elim (fun e => absurd e (by decide)) (fun h => (f0 h).far hfar), fun h => h.elim (fun e => absurd e (by decide)) f1, fun h => h.elim (fun e => absurd e (by decide)) f2, fun h => h.elim (fun e => absurd e (by decide)) f3, fun h => h.elim (fun e => absurd e (by decide)) (fun h => (f4 h).far hfar), fun h => h.elim (fun e => absurd e (by decide)) f5, fun h => h.elim (fun e => absurd e (by decide)) f6, fun h => h.elim (fun e => absurd e (by decide)) f7, fun h => h.elim (fun e => absurd e (by decide)) (fun h => (f8 h).far hfar), fun h => h.elim (fun e => absurd e (by decide)) f9, fun h => h.elim (fun e => absurd e (by decide)) f10, fun h => h.elim (fun e => absurd e (by decide)) f11, fun h => h.elim (fun e => absurd e (by decide)) (fun h => (f12 h).far hfar), fun h => h.elim (fun e => absurd e (by decide)) f13, fun h => h.elim (fun e => absurd e (by decide)) f14, fun h => h.elim (fun e => absurd e (by decide)) f15, fun h => h.elim (fun e => absurd e (by decide)) f16, fun h => h.elim (fun e => absurd e (by decide)) f18, fun h => h.elim (fun e => absurd e (by decide)) f20, fun h => h.elim (fun e => absurd e (by decide)) f22⟩
  case hdone =>
    rintro D az wz hD ⟨x5, x6, x7, x8, x9, x10, x11, x12, x13, x14, x15, x16, x17, x18, x19, x20, x21, x22, x23, x24, rfl, hbz, f0, f1, f2, f3, f4, f5, f6, f7, f8, f9, f10, f11, f12, f13, f14, f15, f16, f18, f20, f22⟩
    have d0 := f0 (hD 0)
    have d1 := f1 (hD 1)
    have d2 := f2 (hD 2)
    have d3 := f3 (hD 3)
    have d4 := f4 (hD 4)
    have d5 := f5 (hD 5)
    have d6 := f6 (hD 6)
    have d7 := f7 (hD 7)
    have d8 := f8 (hD 8)
    have d9 := f9 (hD 9)
    have d10 := f10 (hD 10)
    have d11 := f11 (hD 11)
    have d12 := f12 (hD 12)
    have d13 := f13 (hD 13)
    have d14 := f14 (hD 14)
    have d15 := f15 (hD 15)
    have d16 := f16 (hD 16)
    have d18 := f18 (hD 18)
    have d20 := f20 (hD 20)
    have d22 := f22 (hD 22)
    clear f0 f1 f2 f3 f4 f5 f6 f7 f8 f9 f10 f11 f12 f13 f14 f15 f16 f18 f20 f22
    clear d0 d1 d2 d3 d4 d5 d6 d7 d8 d9 d10 d11 d12 d13 d14 d15 d16 d18 d20 d22 hk
    go_wp2
    have hk := hbz.step (Dr.below (Dr.refl _).drew _)
    clear hbz
    refine wp_region_inv2 (fun D az wz => ∃ x25 x26 x27 x28 x29 x30 x31 x32 x33 x34 x35 x36 x37 x38 x39 : Value, az = ⟨#[.agg (cells9 m v), .pointer (some ⟨w.heap.size, 0, none⟩), .pointer (some ⟨w.heap.size + 1, 0, none⟩), .pointer (some ⟨w.heap.size + 2, 0, none⟩), .agg (cells9 m v), x5, x6, x7, x8, x9, x10, x11, x12, x13, x14, x15, x16, x17, x18, x19, x20, x21, x22, x23, x24, x25, x26, x27, x28, x29, x30, x31, x32, x33, x34, x35, x36, x37, x38, x39, undef], []⟩ ∧ Kx w m v wz ∧ (D 0 → LitAt (w.heap.size + 3) 103 x25 wz) ∧ (D 1 → x26 = .pointer (some ⟨w.heap.size, 2, none⟩)) ∧ (D 2 → x27 = .slice v.lat.A v.lat.n v.lat.c) ∧ (D 3 → LatAt (w.heap.size + 3) c.lat x28 wz) ∧ (D 4 → LitAt (w.heap.size + 3) 149 x29 wz) ∧ (D 5 → x30 = .pointer (some ⟨w.heap.size, 6, none⟩)) ∧ (D 6 → x31 = .slice v.gat.A v.gat.n v.gat.c) ∧ (D 7 → ∃ s : Sl, x32 = .slice s.A s.n s.c) ∧ (D 8 → LitAt (w.heap.size + 3) 245 x33 wz) ∧ (D 9 → x34 = .pointer (some ⟨w.heap.size, 7, none⟩)) ∧ (D 10 → x35 = .slice v.sym.A v.sym.n v.sym.c) ∧ (D 11 → ∃ s : Sl, x36 = .slice s.A s.n s.c) ∧ (D 12 → x37 = .pointer (some ⟨w.heap.size + 2, 2, none⟩)) ∧ (D 13 → LatCell (w.heap.size + 2) (w.heap.size + 3) c.lat wz) ∧ (D 14 → x38 = .pointer (some ⟨w.heap.size + 2, 6, none⟩)) ∧ (D 16 → x39 = .pointer (some ⟨w.heap.size + 2, 7, none⟩))) (by kernel_rfl) (by kernel_rfl) ?h0 ?hstep ?hdone
    case h0 =>
      refine ⟨_, _, _, _, _, _, _, _, _, _, _, _, _, _, _, rfl, hk, fun h => absurd h (by decide), fun h => absurd h (by decide), fun h => absurd h (by decide), fun h => absurd h (by decide), fun h => absurd h (by decide), fun h => absurd h (by decide), fun h => absurd h (by decide), fun h => absurd h (by decide), fun h => absurd h (by decide), fun h => absurd h (by decide), fun h => absurd h (by decide), fun h => absurd h (by decide), fun h => absurd h (by decide), fun h => absurd h (by decide), fun h => absurd h (by decide), fun h => absurd h (by decide)⟩
    case hstep =>
      intro D az wz i hi' hd hI
      obtain ⟨x25, x26, x27, x28, x29, x30, x31, x32, x33, x34, x35, x36, x37, x38, x39, rfl, hbz, f0, f1, f2, f3, f4, f5, f6, f7, f8, f9, f10, f11, f12, f13, f14, f16⟩ := hI
      have hi' : i < 18 := hi'
      rcases (show i = 0 ∨ i = 1 ∨ i = 2 ∨ i = 3 ∨ i = 4 ∨ i = 5 ∨ i = 6 ∨ i = 7 ∨ i = 8 ∨ i = 9 ∨ i = 10 ∨ i = 11 ∨ i = 12 ∨ i = 13 ∨ i = 14 ∨ i = 15 ∨ i = 16 ∨ i = 17 by omega) with rfl | rfl | rfl | rfl | rfl | rfl | rfl | rfl | rfl | rfl | rfl | rfl | rfl | rfl | rfl | rfl | rfl | rfl
      · -- 0
        refine wpOp_step rfl (fun K hK => ?_)
        have hK : Shut _ := hK
        go_simp
        have hbs := (Below.refl wz.heap.size wz).alloc (Nat.le_refl _) (.cells #[] 103)
        try simp only [Act.put, List.getElem_toArray, List.getElem_cons_succ, List.getElem_cons_zero, List.setIfInBounds_toArray, List.set_cons_zero, List.set_cons_succ]
        refine hK.out _ _ ⟨_, _, _, _, _, _, _, _, _, _, _, _, _, _, _, rfl, hbz.step hbs, fun _ => LitAt.new wz (w.heap.size + 3) _ hbz.size, fun h => h.elim (fun e => absurd e (by decide)) f1, fun h => h.elim (fun e => absurd e (by decide)) f2, fun h => h.elim (fun e => absurd e (by decide)) (fun h => (f3 h).step hbs), fun h => h.elim (fun e => absurd e (by decide)) (fun h => (f4 h).step hbs), fun h => h.elim (fun e => absurd e (by decide)) f5, fun h => h.elim (fun e => absurd e (by decide)) f6, fun h => h.elim (fun e => absurd e (by decide)) f7, fun h => h.elim (fun e => absurd e (by decide)) (fun h => (f8 h).step hbs), fun h => h.elim (fun e => absurd e (by decide)) f9, fun h => h.elim (fun e => absurd e (by decide)) f10, fun h => h.elim (fun e => absurd e (by decide)) f11, fun h => h.elim (fun e => absurd e (by decide)) f12, fun h => h.elim (fun e => absurd e (by decide)) (fun h => (f13 h).step hbs), fun h => h.elim (fun e => absurd e (by decide)) f14, fun h => h.elim (fun e => absurd e (by decide)) f16⟩
      · -- 1
        refine wpOp_step rfl (fun K hK => ?_)
        have hK : Shut _ := hK
        go_simp
        try simp only [Act.put, List.getElem_toArray, List.getElem_cons_succ, List.getElem_cons_zero, List.setIfInBounds_toArray, List.set_cons_zero, List.set_cons_succ]
        refine hK.out _ _ ⟨_, _, _, _, _, _, _, _, _, _, _, _, _, _, _, rfl, hbz, fun h => h.elim (fun e => absurd e (by decide)) f0, fun _ => rfl, fun h => h.elim (fun e => absurd e (by decide)) f2, fun h => h.elim (fun e => absurd e (by decide)) f3, fun h => h.elim (fun e => absurd e (by decide)) f4, fun h => h.elim (fun e => absurd e (by decide)) f5, fun h => h.elim (fun e => absurd e (by decide)) f6, fun h => h.elim (fun e => absurd e (by decide)) f7, fun h => h.elim (fun e => absurd e (by decide)) f8, fun h => h.elim (fun e => absurd e (by decide)) f9, fun h => h.elim (fun e => absurd e (by decide)) f10, fun h => h.elim (fun e => absurd e (by decide)) f11, fun h => h.elim (fun e => absurd e (by decide)) f12, fun h => h.elim (fun e => absurd e (by decide)) f13, fun h => h.elim (fun e => absurd e (by decide)) f14, fun h => h.elim (fun e => absurd e (by decide)) f16⟩
      · -- 2
        have d1 := f1 (hd 1 (by kernel_rfl))
        refine wpOp_step rfl (fun K hK => ?_)
        have hK : Shut _ := hK
        subst d1
        have cz : wz.cell? ⟨w.heap.size, 2, none⟩ = some (.slice v.lat.A v.lat.n v.lat.c) := hbz.b1.cell 2
        go_simp
        try simp only [Act.put, List.getElem_toArray, List.getElem_cons_succ, List.getElem_cons_zero, List.setIfInBounds_toArray, List.set_cons_zero, List.set_cons_succ]
        refine hK.out _ _ ⟨_, _, _, _, _, _, _, _, _, _, _, _, _, _, _, rfl, hbz, fun h => h.elim (fun e => absurd e (by decide)) f0, fun h => h.elim (fun e => absurd e (by decide)) f1, fun _ => rfl, fun h => h.elim (fun e => absurd e (by decide)) f3, fun h => h.elim (fun e => absurd e (by decide)) f4, fun h => h.elim (fun e => absurd e (by decide)) f5, fun h => h.elim (fun e => absurd e (by decide)) f6, fun h => h.elim (fun e => absurd e (by decide)) f7, fun h => h.elim (fun e => absurd e (by decide)) f8, fun h => h.elim (fun e => absurd e (by decide)) f9, fun h => h.elim (fun e => absurd e (by decide)) f10, fun h => h.elim (fun e => absurd e (by decide)) f11, fun h => h.elim (fun e => absurd e (by decide)) f12, fun h => h.elim (fun e => absurd e (by decide)) f13, fun h => h.elim (fun e => absurd e (by decide)) f14, fun h => h.elim (fun e => absurd e (by decide)) f16⟩
      · -- 3
        have d0 := f0 (hd 0 (by kernel_rfl))
        have d2 := f2 (hd 2 (by kernel_rfl))
        refine wpOp_step rfl (fun K hK => ?_)
        have hK : Shut _ := hK
        subst d2
        obtain ⟨g, rfl, hg1, hg2⟩ := d0
        refine step_append_lit rfl (.tmp 25) (.tmp 27) 23 rfl Tryd.underlying23 info_l rfl (by decide) rfl rfl hg2 hg1 ((hi.out.below hbz.bel (Nat.le_refl _)).lat.rdS) enc3_one (by unfold maxLen; omega) (by omega) ?_
        intro v1 w1 hown hbs
        obtain ⟨s, rfl, hsn⟩ := own_sl hown
        try simp only [Act.put, List.getElem_toArray, List.getElem_cons_succ, List.getElem_cons_zero, List.setIfInBounds_toArray, List.set_cons_zero, List.set_cons_succ]
        refine hK.out _ _ ⟨_, _, _, _, _, _, _, _, _, _, _, _, _, _, _, rfl, hbz.step hbs, fun h => h.elim (fun e => absurd e (by decide)) (fun h => (f0 h).step hbs), fun h => h.elim (fun e => absurd e (by decide)) f1, fun h => h.elim (fun e => absurd e (by decide)) f2, fun _ => ⟨s, rfl, by have h := hown; rw [← hsn] at h; exact h⟩, fun h => h.elim (fun e => absurd e (by decide)) (fun h => (f4 h).step hbs), fun h => h.elim (fun e => absurd e (by decide)) f5, fun h => h.elim (fun e => absurd e (by decide)) f6, fun h => h.elim (fun e => absurd e (by decide)) f7, fun h => h.elim (fun e => absurd e (by decide)) (fun h => (f8 h).step hbs), fun h => h.elim (fun e => absurd e (by decide)) f9, fun h => h.elim (fun e => absurd e (by decide)) f10, fun h => h.elim (fun e => absurd e (by decide)) f11, fun h => h.elim (fun e => absurd e (by decide)) f12, fun h => h.elim (fun e => absurd e (by decide)) (fun h => (f13 h).step hbs), fun h => h.elim (fun e => absurd e (by decide)) f14, fun h => h.elim (fun e => absurd e (by decide)) f16⟩
      · -- 4
        refine wpOp_step rfl (fun K hK => ?_)
        have hK : Shut _ := hK
        go_simp
        have hbs := (Below.refl wz.heap.size wz).alloc (Nat.le_refl _) (.cells #[] 149)
        try simp only [Act.put, List.getElem_toArray, List.getElem_cons_succ, List.getElem_cons_zero, List.setIfInBounds_toArray, List.set_cons_zero, List.set_cons_succ]
        refine hK.out _ _ ⟨_, _, _, _, _, _, _, _, _, _, _, _, _, _, _, rfl, hbz.step hbs, fun h => h.elim (fun e => absurd e (by decide)) (fun h => (f0 h).step hbs), fun h => h.elim (fun e => absurd e (by decide)) f1, fun h => h.elim (fun e => absurd e (by decide)) f2, fun h => h.elim (fun e => absurd e (by decide)) (fun h => (f3 h).step hbs), fun _ => LitAt.new wz (w.heap.size + 3) _ hbz.size, fun h => h.elim (fun e => absurd e (by decide)) f5, fun h => h.elim (fun e => absurd e (by decide)) f6, fun h => h.elim (fun e => absurd e (by decide)) f7, fun h => h.elim (fun e => absurd e (by decide)) (fun h => (f8 h).step hbs), fun h => h.elim (fun e => absurd e (by decide)) f9, fun h => h.elim (fun e => absurd e (by decide)) f10, fun h => h.elim (fun e => absurd e (by decide)) f11, fun h => h.elim (fun e => absurd e (by decide)) f12, fun h => h.elim (fun e => absurd e (by decide)) (fun h => (f13 h).step hbs), fun h => h.elim (fun e => absurd e (by decide)) f14, fun h => h.elim (fun e => absurd e (by decide)) f16⟩
      · -- 5
        refine wpOp_step rfl (fun K hK => ?_)
        have hK : Shut _ := hK
        go_simp
        try simp only [Act.put, List.getElem_toArray, List.getElem_cons_succ, List.getElem_cons_zero, List.setIfInBounds_toArray, List.set_cons_zero, List.set_cons_succ]
        refine hK.out _ _ ⟨_, _, _, _, _, _, _, _, _, _, _, _, _, _, _, rfl, hbz, fun h => h.elim (fun e => absurd e (by decide)) f0, fun h => h.elim (fun e => absurd e (by decide)) f1, fun h => h.elim (fun e => absurd e (by decide)) f2, fun h => h.elim (fun e => absurd e (by decide)) f3, fun h => h.elim (fun e => absurd e (by decide)) f4, fun _ => rfl, fun h => h.elim (fun e => absurd e (by decide)) f6, fun h => h.elim (fun e => absurd e (by decide)) f7, fun h => h.elim (fun e => absurd e (by decide)) f8, fun h => h.elim (fun e => absurd e (by decide)) f9, fun h => h.elim (fun e => absurd e (by decide)) f10, fun h => h.elim (fun e => absurd e (by decide)) f11, fun h => h.elim (fun e => absurd e (by decide)) f12, fun h => h.elim (fun e => absurd e (by decide)) f13, fun h => h.elim (fun e => absurd e (by decide)) f14, fun h => h.elim (fun e => absurd e (by decide)) f16⟩
      · -- 6
        have d5 := f5 (hd 5 (by kernel_rfl))
        refine wpOp_step rfl (fun K hK => ?_)
        have hK : Shut _ := hK
        subst d5
        have cz : wz.cell? ⟨w.heap.size, 6, none⟩ = some (.slice v.gat.A v.gat.n v.gat.c) := hbz.b1.cell 6
        go_simp
        try simp only [Act.put, List.getElem_toArray, List.getElem_cons_succ, List.getElem_cons_zero, List.setIfInBounds_toArray, List.set_cons_zero, List.set_cons_succ]
        refine hK.out _ _ ⟨_, _, _, _, _, _, _, _, _, _, _, _, _, _, _, rfl, hbz, fun h => h.elim (fun e => absurd e (by decide)) f0, fun h => h.elim (fun e => absurd e (by decide)) f1, fun h => h.elim (fun e => absurd e (by decide)) f2, fun h => h.elim (fun e => absurd e (by decide)) f3, fun h => h.elim (fun e => absurd e (by decide)) f4, fun h => h.elim (fun e => absurd e (by decide)) f5, fun _ => rfl, fun h => h.elim (fun e => absurd e (by decide)) f7, fun h => h.elim (fun e => absurd e (by decide)) f8, fun h => h.elim (fun e => absurd e (by decide)) f9, fun h => h.elim (fun e => absurd e (by decide)) f10, fun h => h.elim (fun e => absurd e (by decide)) f11, fun h => h.elim (fun e => absurd e (by decide)) f12, fun h => h.elim (fun e => absurd e (by decide)) f13, fun h => h.elim (fun e => absurd e (by decide)) f14, fun h => h.elim (fun e => absurd e (by decide)) f16⟩
      · -- 7
        have d4 := f4 (hd 4 (by kernel_rfl))
        have d6 := f6 (hd 6 (by kernel_rfl))
        refine wpOp_step rfl (fun K hK => ?_)
        have hK : Shut _ := hK
        subst d6
        obtain ⟨g, rfl, hg1, hg2⟩ := d4
        refine step_append_lit rfl (.tmp 29) (.tmp 31) 24 rfl Tryd.underlying24 info_g rfl (by decide) rfl rfl hg2 hg1 ((hi.out.below hbz.bel (Nat.le_refl _)).gat.rdS) enc3_one (by unfold maxLen; omega) (by omega) ?_
        intro v1 w1 hown hbs
        obtain ⟨s, rfl, hsn⟩ := own_sl hown
        try simp only [Act.put, List.getElem_toArray, List.getElem_cons_succ, List.getElem_cons_zero, List.setIfInBounds_toArray, List.set_cons_zero, List.set_cons_succ]
        refine hK.out _ _ ⟨_, _, _, _, _, _, _, _, _, _, _, _, _, _, _, rfl, hbz.step hbs, fun h => h.elim (fun e => absurd e (by decide)) (fun h => (f0 h).step hbs), fun h => h.elim (fun e => absurd e (by decide)) f1, fun h => h.elim (fun e => absurd e (by decide)) f2, fun h => h.elim (fun e => absurd e (by decide)) (fun h => (f3 h).step hbs), fun h => h.elim (fun e => absurd e (by decide)) (fun h => (f4 h).step hbs), fun h => h.elim (fun e => absurd e (by decide)) f5, fun h => h.elim (fun e => absurd e (by decide)) f6, fun _ => ⟨s, rfl⟩, fun h => h.elim (fun e => absurd e (by decide)) (fun h => (f8 h).step hbs), fun h => h.elim (fun e => absurd e (by decide)) f9, fun h => h.elim (fun e => absurd e (by decide)) f10, fun h => h.elim (fun e => absurd e (by decide)) f11, fun h => h.elim (fun e => absurd e (by decide)) f12, fun h => h.elim (fun e => absurd e (by decide)) (fun h => (f13 h).step hbs), fun h => h.elim (fun e => absurd e (by decide)) f14, fun h => h.elim (fun e => absurd e (by decide)) f16⟩
      · -- 8
        refine wpOp_step rfl (fun K hK => ?_)
        have hK : Shut _ := hK
        go_simp
        have hbs := (Below.refl wz.heap.size wz).alloc (Nat.le_refl _) (.cells #[] 245)
        try simp only [Act.put, List.getElem_toArray, List.getElem_cons_succ, List.getElem_cons_zero, List.setIfInBounds_toArray, List.set_cons_zero, List.set_cons_succ]
        refine hK.out _ _ ⟨_, _, _, _, _, _, _, _, _, _, _, _, _, _, _, rfl, hbz.step hbs, fun h => h.elim (fun e => absurd e (by decide)) (fun h => (f0 h).step hbs), fun h => h.elim (fun e => absurd e (by decide)) f1, fun h => h.elim (fun e => absurd e (by decide)) f2, fun h => h.elim (fun e => absurd e (by decide)) (fun h => (f3 h).step hbs), fun h => h.elim (fun e => absurd e (by decide)) (fun h => (f4 h).step hbs), fun h => h.elim (fun e => absurd e (by decide)) f5, fun h => h.elim (fun e => absurd e (by decide)) f6, fun h => h.elim (fun e => absurd e (by decide)) f7, fun _ => LitAt.new wz (w.heap.size + 3) _ hbz.size, fun h => h.elim (fun e => absurd e (by decide)) f9, fun h => h.elim (fun e => absurd e (by decide)) f10, fun h => h.elim (fun e => absurd e (by decide)) f11, fun h => h.elim (fun e => absurd e (by decide)) f12, fun h => h.elim (fun e => absurd e (by decide)) (fun h => (f13 h).step hbs), fun h => h.elim (fun e => absurd e (by decide)) f14, fun h => h.elim (fun e => absurd e (by decide)) f16⟩
      · -- 9
        refine wpOp_step rfl (fun K hK => ?_)
        have hK : Shut _ := hK
        go_simp
        try simp only [Act.put, List.getElem_toArray, List.getElem_cons_succ, List.getElem_cons_zero, List.setIfInBounds_toArray, List.set_cons_zero, List.set_cons_succ]
        refine hK.out _ _ ⟨_, _, _, _, _, _, _, _, _, _, _, _, _, _, _, rfl, hbz, fun h => h.elim (fun e => absurd e (by decide)) f0, fun h => h.elim (fun e => absurd e (by decide)) f1, fun h => h.elim (fun e => absurd e (by decide)) f2, fun h => h.elim (fun e => absurd e (by decide)) f3, fun h => h.elim (fun e => absurd e (by decide)) f4, fun h => h.elim (fun e => absurd e (by decide)) f5, fun h => h.elim (fun e => absurd e (by decide)) f6, fun h => h.elim (fun e => absurd e (by decide)) f7, fun h => h.elim (fun e => absurd e (by decide)) f8, fun _ => rfl, fun h => h.elim (fun e => absurd e (by decide)) f10, fun h => h.elim (fun e => absurd e (by decide)) f11, fun h => h.elim (fun e => absurd e (by decide)) f12, fun h => h.elim (fun e => absurd e (by decide)) f13, fun h => h.elim (fun e => absurd e (by decide)) f14, fun h => h.elim (fun e => absurd e (by decide)) f16⟩
      · -- 10
        have d9 := f9 (hd 9 (by kernel_rfl))
        refine wpOp_step rfl (fun K hK => ?_)
        have hK : Shut _ := hK
        subst d9
        have cz : wz.cell? ⟨w.heap.size, 7, none⟩ = some (.slice v.sym.A v.sym.n v.sym.c) := hbz.b1.cell 7
        go_simp
        try simp only [Act.put, List.getElem_toArray, List.getElem_cons_succ, List.getElem_cons_zero, List.setIfInBounds_toArray, List.set_cons_zero, List.set_cons_succ]
        refine hK.out _ _ ⟨_, _, _, _, _, _, _, _, _, _, _, _, _, _, _, rfl, hbz, fun h => h.elim (fun e => absurd e (by decide)) f0, fun h => h.elim (fun e => absurd e (by decide)) f1, fun h => h.elim (fun e => absurd e (by decide)) f2, fun h => h.elim (fun e => absurd e (by decide)) f3, fun h => h.elim (fun e => absurd e (by decide)) f4, fun h => h.elim (fun e => absurd e (by decide)) f5, fun h => h.elim (fun e => absurd e (by decide)) f6, fun h => h.elim (fun e => absurd e (by decide)) f7, fun h => h.elim (fun e => absurd e (by decide)) f8, fun h => h.elim (fun e => absurd e (by decide)) f9, fun _ => rfl, fun h => h.elim (fun e => absurd e (by decide)) f11, fun h => h.elim (fun e => absurd e (by decide)) f12, fun h => h.elim (fun e => absurd e (by decide)) f13, fun h => h.elim (fun e => absurd e (by decide)) f14, fun h => h.elim (fun e => absurd e (by decide)) f16⟩
      · -- 11
        have d8 := f8 (hd 8 (by kernel_rfl))
        have d10 := f10 (hd 10 (by kernel_rfl))
        refine wpOp_step rfl (fun K hK => ?_)
        have hK : Shut _ := hK
        subst d10
        obtain ⟨g, rfl, hg1, hg2⟩ := d8
        obtain ⟨zs, hz1, hz2⟩ := (hi.out.below hbz.bel (Nat.le_refl _)).sym
        refine step_append_lit rfl (.tmp 33) (.tmp 35) 25 rfl Tryd.underlying25 info_s rfl (by decide) rfl rfl hg2 hg1 hz1 hz2 (by unfold maxLen; omega) (by omega) ?_
        intro v1 w1 hown hbs
        obtain ⟨s, rfl, hsn⟩ := own_sl hown
        try simp only [Act.put, List.getElem_toArray, List.getElem_cons_succ, List.getElem_cons_zero, List.setIfInBounds_toArray, List.set_cons_zero, List.set_cons_succ]
        refine hK.out _ _ ⟨_, _, _, _, _, _, _, _, _, _, _, _, _, _, _, rfl, hbz.step hbs, fun h => h.elim (fun e => absurd e (by decide)) (fun h => (f0 h).step hbs), fun h => h.elim (fun e => absurd e (by decide)) f1, fun h => h.elim (fun e => absurd e (by decide)) f2, fun h => h.elim (fun e => absurd e (by decide)) (fun h => (f3 h).step hbs), fun h => h.elim (fun e => absurd e (by decide)) (fun h => (f4 h).step hbs), fun h => h.elim (fun e => absurd e (by decide)) f5, fun h => h.elim (fun e => absurd e (by decide)) f6, fun h => h.elim (fun e => absurd e (by decide)) f7, fun h => h.elim (fun e => absurd e (by decide)) (fun h => (f8 h).step hbs), fun h => h.elim (fun e => absurd e (by decide)) f9, fun h => h.elim (fun e => absurd e (by decide)) f10, fun _ => ⟨s, rfl⟩, fun h => h.elim (fun e => absurd e (by decide)) f12, fun h => h.elim (fun e => absurd e (by decide)) (fun h => (f13 h).step hbs), fun h => h.elim (fun e => absurd e (by decide)) f14, fun h => h.elim (fun e => absurd e (by decide)) f16⟩
      · -- 12
        refine wpOp_step rfl (fun K hK => ?_)
        have hK : Shut _ := hK
        go_simp
        try simp only [Act.put, List.getElem_toArray, List.getElem_cons_succ, List.getElem_cons_zero, List.setIfInBounds_toArray, List.set_cons_zero, List.set_cons_succ]
        refine hK.out _ _ ⟨_, _, _, _, _, _, _, _, _, _, _, _, _, _, _, rfl, hbz, fun h => h.elim (fun e => absurd e (by decide)) f0, fun h => h.elim (fun e => absurd e (by decide)) f1, fun h => h.elim (fun e => absurd e (by decide)) f2, fun h => h.elim (fun e => absurd e (by decide)) f3, fun h => h.elim (fun e => absurd e (by decide)) f4, fun h => h.elim (fun e => absurd e (by decide)) f5, fun h => h.elim (fun e => absurd e (by decide)) f6, fun h => h.elim (fun e => absurd e (by decide)) f7, fun h => h.elim (fun e => absurd e (by decide)) f8, fun h => h.elim (fun e => absurd e (by decide)) f9, fun h => h.elim (fun e => absurd e (by decide)) f10, fun h => h.elim (fun e => absurd e (by decide)) f11, fun _ => rfl, fun h => h.elim (fun e => absurd e (by decide)) f13, fun h => h.elim (fun e => absurd e (by decide)) f14, fun h => h.elim (fun e => absurd e (by decide)) f16⟩
      · -- 13
        have d12 := f12 (hd 12 (by kernel_rfl))
        have d3 := f3 (hd 3 (by kernel_rfl))
        refine wpOp_step rfl (fun K hK => ?_)
        have hK : Shut _ := hK
        subst d12
        obtain ⟨s, rfl, hso⟩ := d3
        obtain ⟨z, hz⟩ := hbz.b3
        have cz : wz.cell? ⟨w.heap.size + 2, 2, none⟩ = some (.slice z.lat.A z.lat.n z.lat.c) := hz.cell 2
        have fz : wz.frozen? ⟨w.heap.size + 2, 2, none⟩ = false := hz.frozen 2
        have hfar : w.heap.size + 2 < (w.heap.size + 3) := by omega
        have hlat : LatAt (w.heap.size + 3) c.lat (.slice s.A s.n s.c) wz := ⟨s, rfl, hso⟩
        go_simp
        try simp only [Act.put, List.getElem_toArray, List.getElem_cons_succ, List.getElem_cons_zero, List.setIfInBounds_toArray, List.set_cons_zero, List.set_cons_succ]
        refine hK.out _ _ ⟨_, _, _, _, _, _, _, _, _, _, _, _, _, _, _, rfl, hbz.put 2 _ (fun q => ⟨⟨q.ins, s, q.outs, q.bads, q.cons, q.gat, q.sym, q.com⟩, rfl⟩), fun h => h.elim (fun e => absurd e (by decide)) (fun h => (f0 h).far hfar), fun h => h.elim (fun e => absurd e (by decide)) f1, fun h => h.elim (fun e => absurd e (by decide)) f2, fun h => h.elim (fun e => absurd e (by decide)) (fun h => (f3 h).far hfar), fun h => h.elim (fun e => absurd e (by decide)) (fun h => (f4 h).far hfar), fun h => h.elim (fun e => absurd e (by decide)) f5, fun h => h.elim (fun e => absurd e (by decide)) f6, fun h => h.elim (fun e => absurd e (by decide)) f7, fun h => h.elim (fun e => absurd e (by decide)) (fun h => (f8 h).far hfar), fun h => h.elim (fun e => absurd e (by decide)) f9, fun h => h.elim (fun e => absurd e (by decide)) f10, fun h => h.elim (fun e => absurd e (by decide)) f11, fun h => h.elim (fun e => absurd e (by decide)) f12, fun _ => ⟨_, World.cell?_setCell_same' _ _ _ (by rw [cz]; rfl), hlat.far hfar⟩, fun h => h.elim (fun e => absurd e (by decide)) f14, fun h => h.elim (fun e => absurd e (by decide)) f16⟩
      · -- 14
        refine wpOp_step rfl (fun K hK => ?_)
        have hK : Shut _ := hK
        go_simp
        try simp only [Act.put, List.getElem_toArray, List.getElem_cons_succ, List.getElem_cons_zero, List.setIfInBounds_toArray, List.set_cons_zero, List.set_cons_succ]
        refine hK.out _ _ ⟨_, _, _, _, _, _, _, _, _, _, _, _, _, _, _, rfl, hbz, fun h => h.elim (fun e => absurd e (by decide)) f0, fun h => h.elim (fun e => absurd e (by decide)) f1, fun h => h.elim (fun e => absurd e (by decide)) f2, fun h => h.elim (fun e => absurd e (by decide)) f3, fun h => h.elim (fun e => absurd e (by decide)) f4, fun h => h.elim (fun e => absurd e (by decide)) f5, fun h => h.elim (fun e => absurd e (by decide)) f6, fun h => h.elim (fun e => absurd e (by decide)) f7, fun h => h.elim (fun e => absurd e (by decide)) f8, fun h => h.elim (fun e => absurd e (by decide)) f9, fun h => h.elim (fun e => absurd e (by decide)) f10, fun h => h.elim (fun e => absurd e (by decide)) f11, fun h => h.elim (fun e => absurd e (by decide)) f12, fun h => h.elim (fun e => absurd e (by decide)) f13, fun _ => rfl, fun h => h.elim (fun e => absurd e (by decide)) f16⟩
      · -- 15
        have d14 := f14 (hd 14 (by kernel_rfl))
        have d7 := f7 (hd 7 (by kernel_rfl))
        refine wpOp_step rfl (fun K hK => ?_)
        have hK : Shut _ := hK
        subst d14
        obtain ⟨s, rfl⟩ := d7
        obtain ⟨z, hz⟩ := hbz.b3
        have cz : wz.cell? ⟨w.heap.size + 2, 6, none⟩ = some (.slice z.gat.A z.gat.n z.gat.c) := hz.cell 6
        have fz : wz.frozen? ⟨w.heap.size + 2, 6, none⟩ = false := hz.frozen 6
        have hfar : w.heap.size + 2 < (w.heap.size + 3) := by omega
        go_simp
        try simp only [Act.put, List.getElem_toArray, List.getElem_cons_succ, List.getElem_cons_zero, List.setIfInBounds_toArray, List.set_cons_zero, List.set_cons_succ]
        refine hK.out _ _ ⟨_, _, _, _, _, _, _, _, _, _, _, _, _, _, _, rfl, hbz.put 6 _ (fun q => ⟨⟨q.ins, q.lat, q.outs, q.bads, q.cons, s, q.sym, q.com⟩, rfl⟩), fun h => h.elim (fun e => absurd e (by decide)) (fun h => (f0 h).far hfar), fun h => h.elim (fun e => absurd e (by decide)) f1, fun h => h.elim (fun e => absurd e (by decide)) f2, fun h => h.elim (fun e => absurd e (by decide)) (fun h => (f3 h).far hfar), fun h => h.elim (fun e => absurd e (by decide)) (fun h => (f4 h).far hfar), fun h => h.elim (fun e => absurd e (by decide)) f5, fun h => h.elim (fun e => absurd e (by decide)) f6, fun h => h.elim (fun e => absurd e (by decide)) f7, fun h => h.elim (fun e => absurd e (by decide)) (fun h => (f8 h).far hfar), fun h => h.elim (fun e => absurd e (by decide)) f9, fun h => h.elim (fun e => absurd e (by decide)) f10, fun h => h.elim (fun e => absurd e (by decide)) f11, fun h => h.elim (fun e => absurd e (by decide)) f12, fun h => h.elim (fun e => absurd e (by decide)) (fun h => (f13 h).far ⟨hfar, by decide⟩), fun h => h.elim (fun e => absurd e (by decide)) f14, fun h => h.elim (fun e => absurd e (by decide)) f16⟩
      · -- 16
        refine wpOp_step rfl (fun K hK => ?_)
        have hK : Shut _ := hK
        go_simp
        try simp only [Act.put, List.getElem_toArray, List.getElem_cons_succ, List.getElem_cons_zero, List.setIfInBounds_toArray, List.set_cons_zero, List.set_cons_succ]
        refine hK.out _ _ ⟨_, _, _, _, _, _, _, _, _, _, _, _, _, _, _, rfl, hbz, fun h => h.elim (fun e => absurd e (by decide)) f0, fun h => h.elim (fun e => absurd e (by decide)) f1, fun h => h.elim (fun e => absurd e (by decide)) f2, fun h => h.elim (fun e => absurd e (by decide)) f3, fun h => h.elim (fun e => absurd e (by decide)) f4, fun h => h.elim (fun e => absurd e (by decide)) f5, fun h => h.elim (fun e => absurd e (by decide)) f6, fun h => h.elim (fun e => absurd e (by decide)) f7, fun h => h.elim (fun e => absurd e (by decide)) f8, fun h => h.elim (fun e => absurd e (by decide)) f9, fun h => h.elim (fun e => absurd e (by decide)) f10, fun h => h.elim (fun e => absurd e (by decide)) f11, fun h => h.elim (fun e => absurd e (by decide)) f12, fun h => h.elim (fun e => absurd e (by decide)) f13, fun h => h.elim (fun e => absurd e (by decide)) f14, fun _ => rfl⟩
      · -- 17
        have d16 := f16 (hd 16 (by kernel_rfl))
        have d11 := f11 (hd 11 (by kernel_rfl))
        refine wpOp_step rfl (fun K hK => ?_)
        have hK : Shut _ := hK
        subst d16
        obtain ⟨s, rfl⟩ := d11
        obtain ⟨z, hz⟩ := hbz.b3
        have cz : wz.cell? ⟨w.heap.size + 2, 7, none⟩ = some (.slice z.sym.A z.sym.n z.sym.c) := hz.cell 7
        have fz : wz.frozen? ⟨w.heap.size + 2, 7, none⟩ = false := hz.frozen 7
        have hfar : w.heap.size + 2 < (w.heap.size + 3) := by omega
        go_simp
        try simp only [Act.put, List.getElem_toArray, List.getElem_cons_succ, List.getElem_cons_zero, List.setIfInBounds_toArray, List.set_cons_zero, List.set_cons_succ]
        refine hK.out _ _ ⟨_, _, _, _, _, _, _, _, _, _, _, _, _, _, _, rfl, hbz.put 7 _ (fun q => ⟨⟨q.ins, q.lat, q.outs, q.bads, q.cons, q.gat, s, q.com⟩, rfl⟩), fun h => h.elim (fun e => absurd e (by decide)) (fun h => (f0 h).far hfar), fun h => h.elim (fun e => absurd e (by decide)) f1, fun h => h.elim (fun e => absurd e (by decide)) f2, fun h => h.elim (fun e => absurd e (by decide)) (fun h => (f3 h).far hfar), fun h => h.elim (fun e => absurd e (by decide)) (fun h => (f4 h).far hfar), fun h => h.elim (fun e => absurd e (by decide)) f5, fun h => h.elim (fun e => absurd e (by decide)) f6, fun h => h.elim (fun e => absurd e (by decide)) f7, fun h => h.elim (fun e => absurd e (by decide)) (fun h => (f8 h).far hfar), fun h => h.elim (fun e => absurd e (by decide)) f9, fun h => h.elim (fun e => absurd e (by decide)) f10, fun h => h.elim (fun e => absurd e (by decide)) f11, fun h => h.elim (fun e => absurd e (by decide)) f12, fun h => h.elim (fun e => absurd e (by decide)) (fun h => (f13 h).far ⟨hfar, by decide⟩), fun h => h.elim (fun e => absurd e (by decide)) f14, fun h => h.elim (fun e => absurd e (by decide)) f16⟩
    case hdone =>
      rintro D az wz hD ⟨x25, x26, x27, x28, x29, x30, x31, x32, x33, x34, x35, x36, x37, x38, x39, rfl, hbz, f0, f1, f2, f3, f4, f5, f6, f7, f8, f9, f10, f11, f12, f13, f14, f16⟩
      have d0 := f0 (hD 0)
      have d1 := f1 (hD 1)
      have d2 := f2 (hD 2)
      have d3 := f3 (hD 3)
      have d4 := f4 (hD 4)
      have d5 := f5 (hD 5)
      have d6 := f6 (hD 6)
      have d7 := f7 (hD 7)
      have d8 := f8 (hD 8)
      have d9 := f9 (hD 9)
      have d10 := f10 (hD 10)
      have d11 := f11 (hD 11)
      have d12 := f12 (hD 12)
      have d13 := f13 (hD 13)
      have d14 := f14 (hD 14)
      have d16 := f16 (hD 16)
      clear f0 f1 f2 f3 f4 f5 f6 f7 f8 f9 f10 f11 f12 f13 f14 f16
      obtain ⟨x, hx, hlat⟩ := d13
      obtain ⟨s, hs⟩ := hbz.b3
      have hx2 : wz.cell? ⟨w.heap.size + 2, 2, none⟩ = some (.slice s.lat.A s.lat.n s.lat.c) := hs.cell 2
      rw [hx2] at hx
      injection hx with hx
      subst hx
      clear hx2 d0 d1 d2 d3 d4 d5 d6 d7 d8 d9 d10 d11 d12 d14 d16
      have s0 : wz.cell? ⟨w.heap.size + 2, 0, none⟩ = some (.int .i64 m) := hs.cell 0
      have s1 : wz.cell? ⟨w.heap.size + 2, 1, none⟩ = some (.slice s.ins.A s.ins.n s.ins.c) := hs.cell 1
      have s2 : wz.cell? ⟨w.heap.size + 2, 2, none⟩ = some (.slice s.lat.A s.lat.n s.lat.c) := hs.cell 2
      have s3 : wz.cell? ⟨w.heap.size + 2, 3, none⟩ = some (.slice s.outs.A s.outs.n s.outs.c) := hs.cell 3
      have s4 : wz.cell? ⟨w.heap.size + 2, 4, none⟩ = some (.slice s.bads.A s.bads.n s.bads.c) := hs.cell 4
      have s5 : wz.cell? ⟨w.heap.size + 2, 5, none⟩ = some (.slice s.cons.A s.cons.n s.cons.c) := hs.cell 5
      have s6 : wz.cell? ⟨w.heap.size + 2, 6, none⟩ = some (.slice s.gat.A s.gat.n s.gat.c) := hs.cell 6
      have s7 : wz.cell? ⟨w.heap.size + 2, 7, none⟩ = some (.slice s.sym.A s.sym.n s.sym.c) := hs.cell 7
      have s8 : wz.cell? ⟨w.heap.size + 2, 8, none⟩ = some (.string s.com) := hs.cell 8
      have z0 : wz.cell? ⟨w.heap.size + 1, 0, none⟩ = some (.int .i64 0) := hbz.b2.cell 0
      have y0 : wz.frozen? ⟨w.heap.size + 1, 0, none⟩ = false := hbz.b2.frozen 0
      have z1 : wz.cell? ⟨w.heap.size + 1, 1, none⟩ = some (.slice none 0 0) := hbz.b2.cell 1
      have y1 : wz.frozen? ⟨w.heap.size + 1, 1, none⟩ = false := hbz.b2.frozen 1
      have z2 : wz.cell? ⟨w.heap.size + 1, 2, none⟩ = some (.slice none 0 0) := hbz.b2.cell 2
      have y2 : wz.frozen? ⟨w.heap.size + 1, 2, none⟩ = false := hbz.b2.frozen 2
      have z3 : wz.cell? ⟨w.heap.size + 1, 3, none⟩ = some (.slice none 0 0) := hbz.b2.cell 3
      have y3 : wz.frozen? ⟨w.heap.size + 1, 3, none⟩ = false := hbz.b2.frozen 3
      have z4 : wz.cell? ⟨w.heap.size + 1, 4, none⟩ = some (.slice none 0 0) := hbz.b2.cell 4
      have y4 : wz.frozen? ⟨w.heap.size + 1, 4, none⟩ = false := hbz.b2.frozen 4
      have z5 : wz.cell? ⟨w.heap.size + 1, 5, none⟩ = some (.slice none 0 0) := hbz.b2.cell 5
      have y5 : wz.frozen? ⟨w.heap.size + 1, 5, none⟩ = false := hbz.b2.frozen 5
      have z6 : wz.cell? ⟨w.heap.size + 1, 6, none⟩ = some (.slice none 0 0) := hbz.b2.cell 6
      have y6 : wz.frozen? ⟨w.heap.size + 1, 6, none⟩ = false := hbz.b2.frozen 6
      have z7 : wz.cell? ⟨w.heap.size + 1, 7, none⟩ = some (.slice none 0 0) := hbz.b2.cell 7
      have y7 : wz.frozen? ⟨w.heap.size + 1, 7, none⟩ = false := hbz.b2.frozen 7
      have z8 : wz.cell? ⟨w.heap.size + 1, 8, none⟩ = some (.string .empty) := hbz.b2.cell 8
      have y8 : wz.frozen? ⟨w.heap.size + 1, 8, none⟩ = false := hbz.b2.frozen 8
      have hl13 : w.heap.size + 1 < w.heap.size + 3 := by omega
      have hl1 : w.heap.size ≤ w.heap.size + 1 := by omega
      have hlatF := hide (((((((((hlat.far (b := w.heap.size + 1) (i := 0) (u := .int .i64 m) hl13).far (b := w.heap.size + 1) (i := 1) (u := .slice s.ins.A s.ins.n s.ins.c) hl13).far (b := w.heap.size + 1) (i := 2) (u := .slice s.lat.A s.lat.n s.lat.c) hl13).far (b := w.heap.size + 1) (i := 3) (u := .slice s.outs.A s.outs.n s.outs.c) hl13).far (b := w.heap.size + 1) (i := 4) (u := .slice s.bads.A s.bads.n s.bads.c) hl13).far (b := w.heap.size + 1) (i := 5) (u := .slice s.cons.A s.cons.n s.cons.c) hl13).far (b := w.heap.size + 1) (i := 6) (u := .slice s.gat.A s.gat.n s.gat.c) hl13).far (b := w.heap.size + 1) (i := 7) (u := .slice s.sym.A s.sym.n s.sym.c) hl13).far (b := w.heap.size + 1) (i := 8) (u := .string s.com) hl13)
      have hBF := hide (((((((((hbz.b2.set_ 0 (.int .i64 m)).set_ 1 (.slice s.ins.A s.ins.n s.ins.c)).set_ 2 (.slice s.lat.A s.lat.n s.lat.c)).set_ 3 (.slice s.outs.A s.outs.n s.outs.c)).set_ 4 (.slice s.bads.A s.bads.n s.bads.c)).set_ 5 (.slice s.cons.A s.cons.n s.cons.c)).set_ 6 (.slice s.gat.A s.gat.n s.gat.c)).set_ 7 (.slice s.sym.A s.sym.n s.sym.c)).set_ 8 (.string s.com))
      have hbF := hide (((((((((hbz.bel.setCell (p := ⟨w.heap.size + 1, 0, none⟩) hl1 (.int .i64 m)).setCell (p := ⟨w.heap.size + 1, 1, none⟩) hl1 (.slice s.ins.A s.ins.n s.ins.c)).setCell (p := ⟨w.heap.size + 1, 2, none⟩) hl1 (.slice s.lat.A s.lat.n s.lat.c)).setCell (p := ⟨w.heap.size + 1, 3, none⟩) hl1 (.slice s.outs.A s.outs.n s.outs.c)).setCell (p := ⟨w.heap.size + 1, 4, none⟩) hl1 (.slice s.bads.A s.bads.n s.bads.c)).setCell (p := ⟨w.heap.size + 1, 5, none⟩) hl1 (.slice s.cons.A s.cons.n s.cons.c)).setCell (p := ⟨w.heap.size + 1, 6, none⟩) hl1 (.slice s.gat.A s.gat.n s.gat.c)).setCell (p := ⟨w.heap.size + 1, 7, none⟩) hl1 (.slice s.sym.A s.sym.n s.sym.c)).setCell (p := ⟨w.heap.size + 1, 8, none⟩) hl1 (.string s.com))
      clear hlat
      go_wp2
      generalize hWf : (((((((((wz.setCell ⟨w.heap.size + 1, 0, none⟩ (.int .i64 m)).setCell ⟨w.heap.size + 1, 1, none⟩ (.slice s.ins.A s.ins.n s.ins.c)).setCell ⟨w.heap.size + 1, 2, none⟩ (.slice s.lat.A s.lat.n s.lat.c)).setCell ⟨w.heap.size + 1, 3, none⟩ (.slice s.outs.A s.outs.n s.outs.c)).setCell ⟨w.heap.size + 1, 4, none⟩ (.slice s.bads.A s.bads.n s.bads.c)).setCell ⟨w.heap.size + 1, 5, none⟩ (.slice s.cons.A s.cons.n s.cons.c)).setCell ⟨w.heap.size + 1, 6, none⟩ (.slice s.gat.A s.gat.n s.gat.c)).setCell ⟨w.heap.size + 1, 7, none⟩ (.slice s.sym.A s.sym.n s.sym.c)).setCell ⟨w.heap.size + 1, 8, none⟩ (.string s.com)) = Wf at *
      clear hWf
      have hB9 : Blk Wf (w.heap.size + 1) 27 (cells9 m s) := hBF.out
      have k0 : Wf.cell? ⟨w.heap.size + 1, 0, none⟩ = some (.int .i64 m) := hB9.cell 0
      have k1 : Wf.cell? ⟨w.heap.size + 1, 1, none⟩ = some (.slice s.ins.A s.ins.n s.ins.c) := hB9.cell 1
      have k2 : Wf.cell? ⟨w.heap.size + 1, 2, none⟩ = some (.slice s.lat.A s.lat.n s.lat.c) := hB9.cell 2
      have k3 : Wf.cell? ⟨w.heap.size + 1, 3, none⟩ = some (.slice s.outs.A s.outs.n s.outs.c) := hB9.cell 3
      have k4 : Wf.cell? ⟨w.heap.size + 1, 4, none⟩ = some (.slice s.bads.A s.bads.n s.bads.c) := hB9.cell 4
      have k5 : Wf.cell? ⟨w.heap.size + 1, 5, none⟩ = some (.slice s.cons.A s.cons.n s.cons.c) := hB9.cell 5
      have k6 : Wf.cell? ⟨w.heap.size + 1, 6, none⟩ = some (.slice s.gat.A s.gat.n s.gat.c) := hB9.cell 6
      have k7 : Wf.cell? ⟨w.heap.size + 1, 7, none⟩ = some (.slice s.sym.A s.sym.n s.sym.c) := hB9.cell 7
      have k8 : Wf.cell? ⟨w.heap.size + 1, 8, none⟩ = some (.string s.com) := hB9.cell 8
      refine bodyPost_ret (v := .agg (cells9 m s)) (by simp [results, Tryd.results17, go_sem, k0, k1, k2, k3, k4, k5, k6, k7, k8]) rfl ?_
      obtain ⟨s', hs1, hown⟩ := hlatF.out
      rw [← hs1] at hown
      injection hs1 with hs1 hs2 hs3
      rw [← hs2] at hown
      obtain ⟨_, _, hv, _, _, hr⟩ := RdT.of_own hown
      injection hv with e1 e2 e3
      have hr : RdT Wf s.lat.A s.lat.n c.lat := by rw [e1]; exact hr
      exact ⟨s, rfl, hr.1.symm.trans hi.out.lat.1, hr, hbF.out⟩
end Go.Proofs.YtcjoohaagdihlaaDoor.Circ
