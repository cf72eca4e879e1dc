/- The program's trail in memory, and what is asked of it. -/
import Derived.Test.YtcjoohaagdihlaaTri1
import Derived.Test.YtcjoohaagdihlaaSorted2
import Derived.Test.YtcjoohaagdihlaaStore8
namespace Go.Proofs.Ytcjoohaagdihlaa.Watch
open Go.RowKit Go.Lt Go.Proofs.Ytcjoohaagdihlaa.Lit Go.Proofs.Ytcjoohaagdihlaa.Sorted Go.Proofs.Ytcjoohaagdihlaa.Learn
set_option linter.unusedVariables false
set_option linter.unusedSimpArgs false

/-- what is known of a variable: level, why, place -/
structure Mk where
  lev : Int
  why : Int
  place : Int
def zMk : Mk := ⟨0, 0, 0⟩
def encM (m : Mk) : List Value := [.int .i64 m.lev, .int .i64 m.why, .int .i64 m.place]
theorem encM_len (l : List Mk) : (l.flatMap encM).length = l.length * 3 := flat_len encM 3 (fun _ => rfl) l
theorem encM_get (l : List Mk) (k : Nat) (m : Mk) (h : l[k]? = some m) : (l.flatMap encM)[k * 3]? = some (.int .i64 m.lev) ∧ (l.flatMap encM)[k * 3 + 1]? = some (.int .i64 m.why) ∧ (l.flatMap encM)[k * 3 + 2]? = some (.int .i64 m.place) := by
  refine ⟨?_, ?_, ?_⟩
  · rw [flat_get encM 3 (fun _ => rfl) (by omega), show k * 3 / 3 = k by omega, show k * 3 % 3 = 0 by omega, h]; rfl
  · rw [flat_get encM 3 (fun _ => rfl) (by omega), show (k * 3 + 1) / 3 = k by omega, show (k * 3 + 1) % 3 = 1 by omega, h]; rfl
  · rw [flat_get encM 3 (fun _ => rfl) (by omega), show (k * 3 + 2) / 3 = k by omega, show (k * 3 + 2) % 3 = 2 by omega, h]; rfl
/-- a trail in memory: all at the first level -/
structure TrM (base : Nat) (W : World) (p gv gm N : Nat) (lv : Value) (vals : List Int) (mk : List Mk) (ls : List Int) : Prop where
  box : Blk W p 134 #[.slice (some ⟨gv, 0, none⟩) N N, .slice (some ⟨gm, 0, none⟩) N N, lv, .slice none 0 0]
  vals_ : Blk W gv 3 (ivs vals).toArray
  marks : Blk W gm 136 (mk.flatMap encM).toArray
  vl : vals.length = N
  ml : mk.length = N
  list : W.ownsRow base 3 1 lv ls.length (ivs ls)
  ne : some gv ≠ lv.ownBlock
  bp : base ≤ p
  bv : base ≤ gv
  bm : base ≤ gm
section
variable {base : Nat} {W W' : World} {p gv gm N : Nat} {lv : Value} {vals : List Int} {mk : List Mk} {ls : List Int}
theorem blk_ne {W : World} {g h : Nat} {t u : TypeId} {a b : Array Value} (x : Blk W g t a) (y : Blk W h u b) (hne : t ≠ u) : g ≠ h := fun e => by
  subst e
  unfold Blk at x y
  rw [x] at y
  injection y with y
  injection y with _ y _
  exact hne y
theorem TrM.keep (h : TrM base W p gv gm N lv vals mk ls) (hb : Below W.heap.size W W') : TrM base W' p gv gm N lv vals mk ls :=
  ⟨h.box.below hb h.box.lt, h.vals_.below hb h.vals_.lt, h.marks.below hb h.marks.lt, h.vl, h.ml, own_keep h.list hb, h.ne, h.bp, h.bv, h.bm⟩
theorem TrM.rd (h : TrM base W p gv gm N lv vals mk ls) : Rd W (some ⟨gv, 0, none⟩) N (ivs vals) := by
  refine ⟨by rw [show (ivs vals).length = vals.length by simp [ivs]]; exact h.vl, fun k hk => ?_⟩
  have hkl : k < (ivs vals).length := by rw [show (ivs vals).length = vals.length by simp [ivs], h.vl]; exact hk
  refine ⟨_, (ivs vals)[k], rfl, h.vals_.lt, List.getElem?_eq_getElem hkl, ?_⟩
  have : (⟨gv, 0, none⟩ : Addr).add k = ⟨gv, k, none⟩ := by unfold Addr.add; split <;> simp_all
  rw [this, h.vals_.cell k]
  simp [hkl]
theorem trail_Value (h : TrM base W p gv gm N lv vals mk ls) (hN : N ≤ 10000000) (x : Int) :
    Calls Try.prog 110 #[.pointer (some ⟨p, 0, none⟩), .int .i64 x] W fun e w' => e = .returned (.int .i64 (litV vals x)) ∧ W = w' := by
  have b0 := h.box.cell 0
  have HL := hide (tri_Lit (some ⟨gv, 0, none⟩) N N vals x W hN h.rd)
  clear h
  go_enter Try.func110, Try.ntmps110
  go_wp2_with (go_at_call 137; refine HL.out.mono ?_; rintro e w' ⟨rfl, rfl⟩)
  go_ret
  exact ⟨rfl, rfl⟩
theorem trail_Len (h : TrM base W p gv gm N lv vals mk ls) :
    Calls Try.prog 62 #[.pointer (some ⟨p, 0, none⟩)] W fun e w' => e = .returned (.int .i64 ls.length) ∧ W = w' := by
  obtain ⟨A2, c2, rfl, _, _, _⟩ := Rd.of_own h.list
  have b0 := h.box.cell 2
  clear h
  go_enter Try.func62, Try.ntmps62
  go_wp2
  go_ret
  exact ⟨rfl, rfl⟩
theorem trail_Level (h : TrM base W p gv gm N lv vals mk ls) :
    Calls Try.prog 120 #[.pointer (some ⟨p, 0, none⟩)] W fun e w' => e = .returned (.int .i64 0) ∧ W = w' := by
  have b0 := h.box.cell 3
  clear h
  go_enter Try.func120, Try.ntmps120
  go_wp2
  go_ret
  exact ⟨rfl, rfl⟩
theorem trail_List (h : TrM base W p gv gm N lv vals mk ls) (hl : ls.length ≤ 1000000) :
    Calls Try.prog 118 #[.pointer (some ⟨p, 0, none⟩)] W fun e w' => ∃ A c, e = .returned (.slice A ls.length c) ∧ Rd w' A ls.length (ivs ls) ∧ Below W.heap.size W w' := by
  obtain ⟨A2, c2, rfl, _, _, hr⟩ := Rd.of_own h.list
  have b0 := h.box.cell 2
  have HC := hide (slices_Clone A2 ls.length c2 ls W hl hr)
  clear h hr
  go_enter Try.func118, Try.ntmps118
  go_wp2_with fail
  refine HC.out.mono ?_
  rintro e w2 ⟨v, rfl, hown, hb⟩
  obtain ⟨A3, c3, rfl, _, _, hr3⟩ := Rd.of_own hown
  clear hown
  replace hb := hide hb
  replace hr3 := hide hr3
  go_wp2
  go_ret
  exact ⟨A3, c3, rfl, hr3.out, hb.out⟩
theorem trail_of (h : TrM base W p gv gm N lv vals mk ls) (hN : N ≤ 10000000) {k : Nat} {a : Int} {m : Mk} (ha : vals[k]? = some a) (h2 : a ≠ 2) (hm : mk[k]? = some m) :
    Calls Try.prog 138 #[.pointer (some ⟨p, 0, none⟩), .int .i64 k] W fun e w' => e = .returned (.agg #[.int .i64 m.lev, .int .i64 m.why, .int .i64 m.place]) ∧ Below W.heap.size W w' := by
  have hkN : k < N := by rw [← h.vl]; exact (List.getElem?_eq_some_iff.1 ha).1
  have hkI : (k : Int) < N := by omega
  have hNI : (N : Int) ≤ 10000000 := by omega
  obtain ⟨lev, why, place⟩ := m
  obtain ⟨m0, m1, m2⟩ := encM_get mk k _ hm
  have hb0 := (Below.refl W.heap.size W).alloc (Nat.le_refl _) (.cells #[.int .i64 0, .int .i64 0, .int .i64 0] 136)
  have bX := Blk.new W 136 #[.int .i64 0, .int .i64 0, .int .i64 0]
  obtain ⟨W1, hW1⟩ : ∃ W1, W.alloc (.cells #[.int .i64 0, .int .i64 0, .int .i64 0] 136) = W1 := ⟨_, rfl⟩
  rw [hW1] at hb0 bX
  have b0 := (h.box.below hb0 h.box.lt).cell 0
  have b1 := (h.box.below hb0 h.box.lt).cell 1
  have cv : W1.cell? ⟨gv, k, none⟩ = some (.int .i64 a) := by
    rw [(h.vals_.below hb0 h.vals_.lt).cell k]
    simp [ivs, ha]
  have cm := (h.marks.below hb0 h.marks.lt)
  have c0 : W1.cell? ⟨gm, k * 3, none⟩ = some (.int .i64 lev) := by rw [cm.cell]; simpa using m0
  have c1 : W1.cell? ⟨gm, k * 3 + 1, none⟩ = some (.int .i64 why) := by rw [cm.cell]; simpa using m1
  have c2 : W1.cell? ⟨gm, k * 3 + 2, none⟩ = some (.int .i64 place) := by rw [cm.cell]; simpa using m2
  have e2 : (a == 2) = false := by simp [h2]
  have e3 : decide ((k : Int) < 0) = false := decide_eq_false (by omega)
  have e4 : decide ((N : Int) ≤ k) = false := decide_eq_false (by omega)
  have s1 := bX.set_ 0 (.int .i64 lev)
  have s2 := s1.set_ 1 (.int .i64 why)
  have s3 := s2.set_ 2 (.int .i64 place)
  have f0 := bX.frozen 0
  have x0 : W1.cell? ⟨W.heap.size, 0, none⟩ = some (.int .i64 0) := bX.cell 0
  have f1 := s1.frozen 1
  have x1 : (W1.setCell ⟨W.heap.size, 0, none⟩ (.int .i64 lev)).cell? ⟨W.heap.size, 1, none⟩ = some (.int .i64 0) := s1.cell 1
  have f2 := s2.frozen 2
  have x2 : ((W1.setCell ⟨W.heap.size, 0, none⟩ (.int .i64 lev)).setCell ⟨W.heap.size, 1, none⟩ (.int .i64 why)).cell? ⟨W.heap.size, 2, none⟩ = some (.int .i64 0) := s2.cell 2
  have y0 : (((W1.setCell ⟨W.heap.size, 0, none⟩ (.int .i64 lev)).setCell ⟨W.heap.size, 1, none⟩ (.int .i64 why)).setCell ⟨W.heap.size, 2, none⟩ (.int .i64 place)).cell? ⟨W.heap.size, 0, none⟩ = some (.int .i64 lev) := s3.cell 0
  have y1 : (((W1.setCell ⟨W.heap.size, 0, none⟩ (.int .i64 lev)).setCell ⟨W.heap.size, 1, none⟩ (.int .i64 why)).setCell ⟨W.heap.size, 2, none⟩ (.int .i64 place)).cell? ⟨W.heap.size, 1, none⟩ = some (.int .i64 why) := s3.cell 1
  have y2 : (((W1.setCell ⟨W.heap.size, 0, none⟩ (.int .i64 lev)).setCell ⟨W.heap.size, 1, none⟩ (.int .i64 why)).setCell ⟨W.heap.size, 2, none⟩ (.int .i64 place)).cell? ⟨W.heap.size, 2, none⟩ = some (.int .i64 place) := s3.cell 2
  have hbN := hide (((hb0.setCell (p := ⟨W.heap.size, 0, none⟩) (Nat.le_refl _) (.int .i64 lev)).setCell (p := ⟨W.heap.size, 1, none⟩) (Nat.le_refl _) (.int .i64 why)).setCell (p := ⟨W.heap.size, 2, none⟩) (Nat.le_refl _) (.int .i64 place))
  clear bX s1 s2 s3
  replace hb0 := hide hb0
  clear h cm m0 m1 m2 ha hm h2
  go_enter Try.func138, Try.ntmps138
  go_wp2
  refine bodyPost_ret (v := .agg #[.int .i64 lev, .int .i64 why, .int .i64 place]) (by simp [results, Try.results138, go_sem, y0, y1, y2]) rfl ?_
  exact ⟨rfl, hbN.out⟩
set_option maxRecDepth 8000 in
theorem trail_Why (h : TrM base W p gv gm N lv vals mk ls) (hN : N ≤ 10000000) {k : Nat} {a : Int} {m : Mk} (ha : vals[k]? = some a) (h2 : a ≠ 2) (hm : mk[k]? = some m) :
    Calls Try.prog 111 #[.pointer (some ⟨p, 0, none⟩), .int .i64 k] W fun e w' => e = .returned (.int .i64 m.why) ∧ Below W.heap.size W w' := by
  have HO := hide (trail_of h hN ha h2 hm)
  obtain ⟨lev, why, place⟩ := m
  have hfd : ∀ W' : World, (Instr.field 136 (.agg #[.int .i64 lev, .int .i64 why, .int .i64 place]) 1).run Try.prog W' = .ok (.int .i64 why) W' := fun _ => by kernel_rfl
  clear h ha hm h2
  go_enter Try.func111, Try.ntmps111
  go_wp2_with fail
  refine HO.out.mono ?_
  rintro e w2 ⟨rfl, hb⟩
  replace hb := hide hb
  go_wp2
  go_ret
  exact ⟨rfl, hb.out⟩
set_option maxRecDepth 8000 in
theorem trail_Place (h : TrM base W p gv gm N lv vals mk ls) (hN : N ≤ 10000000) {k : Nat} {a : Int} {m : Mk} (ha : vals[k]? = some a) (h2 : a ≠ 2) (hm : mk[k]? = some m) :
    Calls Try.prog 145 #[.pointer (some ⟨p, 0, none⟩), .int .i64 k] W fun e w' => e = .returned (.int .i64 m.place) ∧ Below W.heap.size W w' := by
  have HO := hide (trail_of h hN ha h2 hm)
  obtain ⟨lev, why, place⟩ := m
  have hfd : ∀ W' : World, (Instr.field 136 (.agg #[.int .i64 lev, .int .i64 why, .int .i64 place]) 2).run Try.prog W' = .ok (.int .i64 place) W' := fun _ => by kernel_rfl
  clear h ha hm h2
  go_enter Try.func145, Try.ntmps145
  go_wp2_with fail
  refine HO.out.mono ?_
  rintro e w2 ⟨rfl, hb⟩
  replace hb := hide hb
  go_wp2
  go_ret
  exact ⟨rfl, hb.out⟩
end
end Go.Proofs.Ytcjoohaagdihlaa.Watch
