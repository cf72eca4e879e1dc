/- Texts behind a row, one behind the other: Trail1, Trail2. -/
import Derived.Test.YtcjoohaagdihlaaWS8
import Derived.Test.YtcjoohaagdihlaaWS9
import Derived.Test.YtcjoohaagdihlaaWS3
section
/- The program's trail in memory, and what is asked of it. -/
namespace Go.Proofs.Ytcjoohaagdihlaa.Watch
open Go.RowKit Go.Lt Go.Proofs.Ytcjoohaagdihlaa.Lit Go.Proofs.Ytcjoohaagdihlaa.Sorted Go.Proofs.Ytcjoohaagdihlaa.Learn
set_option linter.unusedVariables false
set_option linter.unusedSimpArgs false

/-- what is known of a variable: level, why, place -/
structure Mk where
  lev : Int
  why : Int
  place : Int
def zMk : Mk := ⟨0, 0, 0⟩
def encM (m : Mk) : List Value := [.int .i64 m.lev, .int .i64 m.why, .int .i64 m.place]
theorem encM_len (l : List Mk) : (l.flatMap encM).length = l.length * 3 := flat_len encM 3 (fun _ => rfl) l
theorem encM_get (l : List Mk) (k : Nat) (m : Mk) (h : l[k]? = some m) : (l.flatMap encM)[k * 3]? = some (.int .i64 m.lev) ∧ (l.flatMap encM)[k * 3 + 1]? = some (.int .i64 m.why) ∧ (l.flatMap encM)[k * 3 + 2]? = some (.int .i64 m.place) := by
  refine ⟨?_, ?_, ?_⟩
  · rw [flat_get encM 3 (fun _ => rfl) (by omega), show k * 3 / 3 = k by omega, show k * 3 % 3 = 0 by omega, h]; rfl
  · rw [flat_get encM 3 (fun _ => rfl) (by omega), show (k * 3 + 1) / 3 = k by omega, show (k * 3 + 1) % 3 = 1 by omega, h]; rfl
  · rw [flat_get encM 3 (fun _ => rfl) (by omega), show (k * 3 + 2) / 3 = k by omega, show (k * 3 + 2) % 3 = 2 by omega, h]; rfl
/-- a trail in memory: all at the first level -/
structure TrM (base : Nat) (W : World) (p gv gm N : Nat) (lv : Value) (vals : List Int) (mk : List Mk) (ls : List Int) : Prop where
  box : Blk W p 134 #[.slice (some ⟨gv, 0, none⟩) N N, .slice (some ⟨gm, 0, none⟩) N N, lv, .slice none 0 0]
  vals_ : Blk W gv 3 (ivs vals).toArray
  marks : Blk W gm 136 (mk.flatMap encM).toArray
  vl : vals.length = N
  ml : mk.length = N
  list : W.ownsRow base 3 1 lv ls.length (ivs ls)
  ne : some gv ≠ lv.ownBlock
  bp : base ≤ p
  bv : base ≤ gv
  bm : base ≤ gm
section
variable {base : Nat} {W W' : World} {p gv gm N : Nat} {lv : Value} {vals : List Int} {mk : List Mk} {ls : List Int}
theorem blk_ne {W : World} {g h : Nat} {t u : TypeId} {a b : Array Value} (x : Blk W g t a) (y : Blk W h u b) (hne : t ≠ u) : g ≠ h := fun e => by
  subst e
  unfold Blk at x y
  rw [x] at y
  injection y with y
  injection y with _ y _
  exact hne y
theorem TrM.keep (h : TrM base W p gv gm N lv vals mk ls) (hb : Below W.heap.size W W') : TrM base W' p gv gm N lv vals mk ls :=
  ⟨h.box.below hb h.box.lt, h.vals_.below hb h.vals_.lt, h.marks.below hb h.marks.lt, h.vl, h.ml, own_keep h.list hb, h.ne, h.bp, h.bv, h.bm⟩
theorem TrM.rd (h : TrM base W p gv gm N lv vals mk ls) : Rd W (some ⟨gv, 0, none⟩) N (ivs vals) := by
  refine ⟨by rw [show (ivs vals).length = vals.length by simp [ivs]]; exact h.vl, fun k hk => ?_⟩
  have hkl : k < (ivs vals).length := by rw [show (ivs vals).length = vals.length by simp [ivs], h.vl]; exact hk
  refine ⟨_, (ivs vals)[k], rfl, h.vals_.lt, List.getElem?_eq_getElem hkl, ?_⟩
  have : (⟨gv, 0, none⟩ : Addr).add k = ⟨gv, k, none⟩ := by unfold Addr.add; split <;> simp_all
  rw [this, h.vals_.cell k]
  simp [hkl]
theorem trail_Value (h : TrM base W p gv gm N lv vals mk ls) (hN : N ≤ 10000000) (x : Int) :
    Calls Try.prog 110 #[.pointer (some ⟨p, 0, none⟩), .int .i64 x] W fun e w' => e = .returned (.int .i64 (litV vals x)) ∧ W = w' := by
  have b0 := h.box.cell 0
  have HL := hide (tri_Lit (some ⟨gv, 0, none⟩) N N vals x W hN h.rd)
  clear h
  go_enter Try.func110, Try.ntmps110
  go_wp2_with (go_at_call 137; refine HL.out.mono ?_; rintro e w' ⟨rfl, rfl⟩)
  go_ret
  exact ⟨rfl, rfl⟩
theorem trail_Len (h : TrM base W p gv gm N lv vals mk ls) :
    Calls Try.prog 62 #[.pointer (some ⟨p, 0, none⟩)] W fun e w' => e = .returned (.int .i64 ls.length) ∧ W = w' := by
  obtain ⟨A2, c2, rfl, _, _, _⟩ := Rd.of_own h.list
  have b0 := h.box.cell 2
  clear h
  go_enter Try.func62, Try.ntmps62
  go_wp2
  go_ret
  exact ⟨rfl, rfl⟩
theorem trail_Level (h : TrM base W p gv gm N lv vals mk ls) :
    Calls Try.prog 120 #[.pointer (some ⟨p, 0, none⟩)] W fun e w' => e = .returned (.int .i64 0) ∧ W = w' := by
  have b0 := h.box.cell 3
  clear h
  go_enter Try.func120, Try.ntmps120
  go_wp2
  go_ret
  exact ⟨rfl, rfl⟩
theorem trail_List (h : TrM base W p gv gm N lv vals mk ls) (hl : ls.length ≤ 1000000) :
    Calls Try.prog 118 #[.pointer (some ⟨p, 0, none⟩)] W fun e w' => ∃ A c, e = .returned (.slice A ls.length c) ∧ Rd w' A ls.length (ivs ls) ∧ Below W.heap.size W w' := by
  obtain ⟨A2, c2, rfl, _, _, hr⟩ := Rd.of_own h.list
  have b0 := h.box.cell 2
  have HC := hide (slices_Clone A2 ls.length c2 ls W hl hr)
  clear h hr
  go_enter Try.func118, Try.ntmps118
  go_wp2_with fail
  refine HC.out.mono ?_
  rintro e w2 ⟨v, rfl, hown, hb⟩
  obtain ⟨A3, c3, rfl, _, _, hr3⟩ := Rd.of_own hown
  clear hown
  replace hb := hide hb
  replace hr3 := hide hr3
  go_wp2
  go_ret
  exact ⟨A3, c3, rfl, hr3.out, hb.out⟩
theorem trail_of (h : TrM base W p gv gm N lv vals mk ls) (hN : N ≤ 10000000) {k : Nat} {a : Int} {m : Mk} (ha : vals[k]? = some a) (h2 : a ≠ 2) (hm : mk[k]? = some m) :
    Calls Try.prog 138 #[.pointer (some ⟨p, 0, none⟩), .int .i64 k] W fun e w' => e = .returned (.agg #[.int .i64 m.lev, .int .i64 m.why, .int .i64 m.place]) ∧ Below W.heap.size W w' := by
  have hkN : k < N := by rw [← h.vl]; exact (List.getElem?_eq_some_iff.1 ha).1
  have hkI : (k : Int) < N := by omega
  have hNI : (N : Int) ≤ 10000000 := by omega
  obtain ⟨lev, why, place⟩ := m
  obtain ⟨m0, m1, m2⟩ := encM_get mk k _ hm
  have hb0 := (Below.refl W.heap.size W).alloc (Nat.le_refl _) (.cells #[.int .i64 0, .int .i64 0, .int .i64 0] 136)
  have bX := Blk.new W 136 #[.int .i64 0, .int .i64 0, .int .i64 0]
  obtain ⟨W1, hW1⟩ : ∃ W1, W.alloc (.cells #[.int .i64 0, .int .i64 0, .int .i64 0] 136) = W1 := ⟨_, rfl⟩
  rw [hW1] at hb0 bX
  have b0 := (h.box.below hb0 h.box.lt).cell 0
  have b1 := (h.box.below hb0 h.box.lt).cell 1
  have cv : W1.cell? ⟨gv, k, none⟩ = some (.int .i64 a) := by
    rw [(h.vals_.below hb0 h.vals_.lt).cell k]
    simp [ivs, ha]
  have cm := (h.marks.below hb0 h.marks.lt)
  have c0 : W1.cell? ⟨gm, k * 3, none⟩ = some (.int .i64 lev) := by rw [cm.cell]; simpa using m0
  have c1 : W1.cell? ⟨gm, k * 3 + 1, none⟩ = some (.int .i64 why) := by rw [cm.cell]; simpa using m1
  have c2 : W1.cell? ⟨gm, k * 3 + 2, none⟩ = some (.int .i64 place) := by rw [cm.cell]; simpa using m2
  have e2 : (a == 2) = false := by simp [h2]
  have e3 : decide ((k : Int) < 0) = false := decide_eq_false (by omega)
  have e4 : decide ((N : Int) ≤ k) = false := decide_eq_false (by omega)
  have s1 := bX.set_ 0 (.int .i64 lev)
  have s2 := s1.set_ 1 (.int .i64 why)
  have s3 := s2.set_ 2 (.int .i64 place)
  have f0 := bX.frozen 0
  have x0 : W1.cell? ⟨W.heap.size, 0, none⟩ = some (.int .i64 0) := bX.cell 0
  have f1 := s1.frozen 1
  have x1 : (W1.setCell ⟨W.heap.size, 0, none⟩ (.int .i64 lev)).cell? ⟨W.heap.size, 1, none⟩ = some (.int .i64 0) := s1.cell 1
  have f2 := s2.frozen 2
  have x2 : ((W1.setCell ⟨W.heap.size, 0, none⟩ (.int .i64 lev)).setCell ⟨W.heap.size, 1, none⟩ (.int .i64 why)).cell? ⟨W.heap.size, 2, none⟩ = some (.int .i64 0) := s2.cell 2
  have y0 : (((W1.setCell ⟨W.heap.size, 0, none⟩ (.int .i64 lev)).setCell ⟨W.heap.size, 1, none⟩ (.int .i64 why)).setCell ⟨W.heap.size, 2, none⟩ (.int .i64 place)).cell? ⟨W.heap.size, 0, none⟩ = some (.int .i64 lev) := s3.cell 0
  have y1 : (((W1.setCell ⟨W.heap.size, 0, none⟩ (.int .i64 lev)).setCell ⟨W.heap.size, 1, none⟩ (.int .i64 why)).setCell ⟨W.heap.size, 2, none⟩ (.int .i64 place)).cell? ⟨W.heap.size, 1, none⟩ = some (.int .i64 why) := s3.cell 1
  have y2 : (((W1.setCell ⟨W.heap.size, 0, none⟩ (.int .i64 lev)).setCell ⟨W.heap.size, 1, none⟩ (.int .i64 why)).setCell ⟨W.heap.size, 2, none⟩ (.int .i64 place)).cell? ⟨W.heap.size, 2, none⟩ = some (.int .i64 place) := s3.cell 2
  have hbN := hide (((hb0.setCell (p := ⟨W.heap.size, 0, none⟩) (Nat.le_refl _) (.int .i64 lev)).setCell (p := ⟨W.heap.size, 1, none⟩) (Nat.le_refl _) (.int .i64 why)).setCell (p := ⟨W.heap.size, 2, none⟩) (Nat.le_refl _) (.int .i64 place))
  clear bX s1 s2 s3
  replace hb0 := hide hb0
  clear h cm m0 m1 m2 ha hm h2
  go_enter Try.func138, Try.ntmps138
  go_wp2
  refine bodyPost_ret (v := .agg #[.int .i64 lev, .int .i64 why, .int .i64 place]) (by simp [results, Try.results138, go_sem, y0, y1, y2]) rfl ?_
  exact ⟨rfl, hbN.out⟩
set_option maxRecDepth 8000 in
theorem trail_Why (h : TrM base W p gv gm N lv vals mk ls) (hN : N ≤ 10000000) {k : Nat} {a : Int} {m : Mk} (ha : vals[k]? = some a) (h2 : a ≠ 2) (hm : mk[k]? = some m) :
    Calls Try.prog 111 #[.pointer (some ⟨p, 0, none⟩), .int .i64 k] W fun e w' => e = .returned (.int .i64 m.why) ∧ Below W.heap.size W w' := by
  have HO := hide (trail_of h hN ha h2 hm)
  obtain ⟨lev, why, place⟩ := m
  have hfd : ∀ W' : World, (Instr.field 136 (.agg #[.int .i64 lev, .int .i64 why, .int .i64 place]) 1).run Try.prog W' = .ok (.int .i64 why) W' := fun _ => by kernel_rfl
  clear h ha hm h2
  go_enter Try.func111, Try.ntmps111
  go_wp2_with fail
  refine HO.out.mono ?_
  rintro e w2 ⟨rfl, hb⟩
  replace hb := hide hb
  go_wp2
  go_ret
  exact ⟨rfl, hb.out⟩
set_option maxRecDepth 8000 in
theorem trail_Place (h : TrM base W p gv gm N lv vals mk ls) (hN : N ≤ 10000000) {k : Nat} {a : Int} {m : Mk} (ha : vals[k]? = some a) (h2 : a ≠ 2) (hm : mk[k]? = some m) :
    Calls Try.prog 145 #[.pointer (some ⟨p, 0, none⟩), .int .i64 k] W fun e w' => e = .returned (.int .i64 m.place) ∧ Below W.heap.size W w' := by
  have HO := hide (trail_of h hN ha h2 hm)
  obtain ⟨lev, why, place⟩ := m
  have hfd : ∀ W' : World, (Instr.field 136 (.agg #[.int .i64 lev, .int .i64 why, .int .i64 place]) 2).run Try.prog W' = .ok (.int .i64 place) W' := fun _ => by kernel_rfl
  clear h ha hm h2
  go_enter Try.func145, Try.ntmps145
  go_wp2_with fail
  refine HO.out.mono ?_
  rintro e w2 ⟨rfl, hb⟩
  replace hb := hide hb
  go_wp2
  go_ret
  exact ⟨rfl, hb.out⟩
end
end Go.Proofs.Ytcjoohaagdihlaa.Watch
end

section
/- The program's trail.New. -/
namespace Go.Proofs.Ytcjoohaagdihlaa.Watch
open Go.RowKit Go.Lt Go.Proofs.Ytcjoohaagdihlaa.Lit Go.Proofs.Ytcjoohaagdihlaa.Sorted Go.Proofs.Ytcjoohaagdihlaa.Learn Go.Instr
set_option linter.unusedVariables false
set_option linter.unusedSimpArgs false

theorem oper_make {P : Program} {w : World} {o : Oper} {a : Act} {K : Act → World → Prop} {Q : Exit → Act → World → Prop} (l c : Operand) (t : TypeId) (hop : o.op = Op.makeSlice t l c)
    (e : TypeId) {z : Value} {size bytes : Nat} (ht : P.underlying t = some (.slice e)) (hi : (P.info? e).map (fun i => (i.zero, i.size, i.bytes)) = some (some z, size, bytes))
    (n : Nat) (hl : a.eval l = .int .i64 n) (hc : a.eval c = .int .i64 n) (b2 : bytes * n ≤ 281474976710656) (b3 : n ≤ 1000000000)
    (h : K (a.put o.dst (.slice (some ⟨w.heap.size, 0, none⟩) n n)) (w.alloc (.cells (madeCells z.cells (n * size)) e))) : Oper.wp P o a w K Q := by
  obtain ⟨i, hi0, hz, hs1, hs2⟩ := info_parts hi
  have hrun := run_make (P := P) w t e i z ht hi0 hz .i64 .i64 n n (by omega) (Int.le_refl _) (by rw [hs2]; omega) (by omega)
  rw [Int.toNat_natCast, hs1] at hrun
  unfold Oper.wp
  simp [execOp, hop, hl, hc, hrun, Result.andThen]
  exact h
theorem made_ints (n : Nat) : madeCells (Value.int .i64 0).cells (n * 1) = (ivs (List.replicate n 0)).toArray := by
  apply Array.ext
  · simp [madeCells, ivs]
  · intro i h1 h2
    simp [madeCells, ivs, Value.cells, Nat.mod_one]
theorem flat_zero (n : Nat) : (List.replicate n zMk).flatMap encM = List.replicate (n * 3) (Value.int .i64 0) := by
  induction n with
  | zero => rfl
  | succ n ih =>
    rw [List.replicate_succ, List.flatMap_cons, ih, show (n + 1) * 3 = 3 + n * 3 by omega, ← List.replicate_append_replicate]
    rfl
theorem made_marks (n : Nat) : madeCells (Value.agg #[.int .i64 0, .int .i64 0, .int .i64 0]).cells (n * 3) = ((List.replicate n zMk).flatMap encM).toArray := by
  rw [flat_zero]
  apply Array.ext
  · simp [madeCells]
  · intro i h1 h2
    have h3 : i % 3 = 0 ∨ i % 3 = 1 ∨ i % 3 = 2 := by omega
    simp only [madeCells, Value.cells, Array.getElem_map, Array.getElem_range]
    rcases h3 with h | h | h <;> simp [h]
theorem info_mark : (Try.prog.info? 136).map (fun i => (i.zero, i.size, i.bytes)) = some (some (.agg #[.int .i64 0, .int .i64 0, .int .i64 0]), 3, 24) := by kernel_rfl
/-- the values while a trail is made -/
def initV (N k : Nat) : List Int := (List.range N).map fun i => if 1 ≤ i ∧ i < k then 2 else 0
theorem initV_len (N k : Nat) : (initV N k).length = N := by simp [initV]
theorem initV_one (N : Nat) : initV N 1 = List.replicate N 0 := by
  unfold initV
  apply List.ext_getElem
  · simp
  · intro i h1 h2
    simp only [List.getElem_map, List.getElem_range, List.getElem_replicate]
    rw [if_neg (by omega)]
theorem initV_set {N k : Nat} (h1 : 1 ≤ k) (hk : k < N) : (initV N k).set k 2 = initV N (k + 1) := by
  unfold initV
  apply List.ext_getElem
  · simp
  · intro i h2 h3
    simp only [List.getElem_set, List.getElem_map, List.getElem_range]
    by_cases h : k = i
    · subst h; rw [if_pos rfl, if_pos (by omega)]
    · rw [if_neg h]
      by_cases h4 : 1 ≤ i ∧ i < k
      · rw [if_pos h4, if_pos (by omega)]
      · rw [if_neg h4, if_neg (by omega)]
theorem blk_list {W : World} {g : Nat} {t : TypeId} {l : List Value} (h : Blk W g t l.toArray) (i : Nat) : W.cell? ⟨g, i, none⟩ = l[i]? := by rw [h.cell i]; simp
theorem blk_put {W : World} {g : Nat} {t : TypeId} {l : List Value} (h : Blk W g t l.toArray) (i : Nat) (u : Value) : Blk (W.setCell ⟨g, i, none⟩ u) g t (l.set i u).toArray := by
  have := h.set_ i u
  simpa using this
theorem run_buildTr (gv gm M : Nat) (w : World) : (Instr.build 134 #[(0, (.slice (some ⟨gv, 0, none⟩) M M)), (1, (.slice (some ⟨gm, 0, none⟩) M M))]).run Try.prog w = .ok (.agg #[.slice (some ⟨gv, 0, none⟩) M M, .slice (some ⟨gm, 0, none⟩) M M, .slice none 0 0, .slice none 0 0]) w := by go_simp
theorem oper_buildTr {o : Oper} {a : Act} {w : World} {K : Act → World → Prop} {Q : Exit → Act → World → Prop} (x y : Operand) (ho : o.op = .build 134 #[(0, x), (1, y)]) (gv gm M : Nat) (hx : a.eval x = (.slice (some ⟨gv, 0, none⟩) M M)) (hy : a.eval y = (.slice (some ⟨gm, 0, none⟩) M M))
    (h : K (a.put o.dst (.agg #[.slice (some ⟨gv, 0, none⟩) M M, .slice (some ⟨gm, 0, none⟩) M M, .slice none 0 0, .slice none 0 0])) w) : Oper.wp Try.prog o a w K Q := by
  unfold Oper.wp execOp
  simp only [ho, Sem.run_bind, Sem.run_pure, Result.andThen_ok, List.map_toArray, List.map_cons, List.map_nil, hx, hy, run_buildTr]
  exact h
theorem run_boxTr (gv gm M : Nat) (w : World) : (Instr.box 134 (.agg #[.slice (some ⟨gv, 0, none⟩) M M, .slice (some ⟨gm, 0, none⟩) M M, .slice none 0 0, .slice none 0 0])).run Try.prog w = .ok (.pointer (some ⟨w.heap.size, 0, none⟩)) (w.alloc (.cells #[.slice (some ⟨gv, 0, none⟩) M M, .slice (some ⟨gm, 0, none⟩) M M, .slice none 0 0, .slice none 0 0] 134)) := by go_simp
theorem oper_boxTr {o : Oper} {a : Act} {w : World} {K : Act → World → Prop} {Q : Exit → Act → World → Prop} (x : Operand) (ho : o.op = .box 134 x) (gv gm M : Nat) (hx : a.eval x = .agg #[.slice (some ⟨gv, 0, none⟩) M M, .slice (some ⟨gm, 0, none⟩) M M, .slice none 0 0, .slice none 0 0])
    (h : K (a.put o.dst (.pointer (some ⟨w.heap.size, 0, none⟩))) (w.alloc (.cells #[.slice (some ⟨gv, 0, none⟩) M M, .slice (some ⟨gm, 0, none⟩) M M, .slice none 0 0, .slice none 0 0] 134))) : Oper.wp Try.prog o a w K Q := by
  unfold Oper.wp execOp
  simp only [ho, Sem.run_bind, Sem.run_pure, Result.andThen_ok, hx, run_boxTr]
  exact h
set_option maxRecDepth 8000 in
set_option maxHeartbeats 4000000 in
theorem trail_New (n : Nat) (hn : n ≤ 1000000) (w : World) :
    Calls Try.prog 56 #[.int .i64 n] w fun e w' => ∃ p gv gm, e = .returned (.pointer (some ⟨p, 0, none⟩)) ∧ TrM w.heap.size w' p gv gm (n + 1) (.slice none 0 0) (initV (n + 1) (n + 1)) ((List.replicate (n + 1) zMk).set 0 ⟨0, -1, -1⟩) [] ∧ Below w.heap.size w w' := by
  have hnI : (n : Int) ≤ 1000000 := by omega
  have e1 : decide ((n : Int) < 0) = false := decide_eq_false (by omega)
  have e2 : True → decide (1048576 < (n : Int)) = false := fun _ => decide_eq_false (by omega)
  have e2n : True → decide (1048576 < n) = false := fun _ => decide_eq_false (by omega)
  obtain ⟨M, hM⟩ : ∃ M, n + 1 = M := ⟨_, rfl⟩
  have hMI : (n : Int) + 1 = (M : Int) := by omega
  have hMw : IntKind.i64.wrap ((n : Int) + 1) = (M : Int) := by rw [IntWalk.i64_in _ (by omega)]; omega
  have hM1 : M ≤ 1000001 := by omega
  have hMw2 : IntKind.i64.wrap (M : Int) = (M : Int) := IntWalk.i64_in _ (by omega)
  have hM0 : 1 ≤ M := by omega
  have hkn := hide (fun k : Nat => (show ((k : Int) ≤ n ↔ k < M) by omega))
  rw [hM]
  replace hn := hide hn
  replace hM := hide hM
  go_enter Try.func56, Try.ntmps56
  go_wp2
  refine wp_region_slots [11, 12, 13, 14, 15, 16, 17, 18, 3] (fun D g wz => g 0 = .int .i64 n ∧ Below w.heap.size w wz ∧ (D 6 → D 2) ∧ (D 6 → D 5) ∧ (D 7 → D 6) ∧ (D 8 → D 7) ∧ (D 0 → g 11 = .int .i64 n) ∧ (D 1 → g 12 = .int .i64 M) ∧ (D 2 → ∃ gv, g 13 = .slice (some ⟨gv, 0, none⟩) M M ∧ w.heap.size ≤ gv ∧ Blk wz gv 3 (ivs (List.replicate M 0)).toArray) ∧ (D 3 → g 14 = .int .i64 n) ∧ (D 4 → g 15 = .int .i64 M) ∧ (D 5 → ∃ gm, g 16 = .slice (some ⟨gm, 0, none⟩) M M ∧ w.heap.size ≤ gm ∧ Blk wz gm 136 ((List.replicate M zMk).flatMap encM).toArray) ∧ (D 6 → ∃ gv gm, g 13 = .slice (some ⟨gv, 0, none⟩) M M ∧ g 16 = .slice (some ⟨gm, 0, none⟩) M M ∧ g 17 = .agg #[.slice (some ⟨gv, 0, none⟩) M M, .slice (some ⟨gm, 0, none⟩) M M, .slice none 0 0, .slice none 0 0]) ∧ (D 7 → ∃ gv gm p, g 13 = .slice (some ⟨gv, 0, none⟩) M M ∧ g 16 = .slice (some ⟨gm, 0, none⟩) M M ∧ g 18 = .pointer (some ⟨p, 0, none⟩) ∧ w.heap.size ≤ p ∧ Blk wz p 134 #[.slice (some ⟨gv, 0, none⟩) M M, .slice (some ⟨gm, 0, none⟩) M M, .slice none 0 0, .slice none 0 0]) ∧ (D 8 → g 3 = g 18)) (by kernel_rfl) (by kernel_rfl) 37 rfl (by kernel_rfl) ?h0 ?hstep ?hdone
  case h0 => exact ⟨rfl, (Dr.refl w).drew.below _, nt0, nt0, nt0, nt0, nt0, nt0, nt0, nt0, nt0, nt0, nt0, nt0, nt0⟩
  case hstep =>
    intro D g wz i hi' hn hd' hI2
    obtain ⟨r0, hbz, ha, hb, hc, hd, f0, f1, f2, f3, f4, f5, f6, f7, f8⟩ := hI2
    have hi' : i < 9 := hi'
    rcases (show i = 0 ∨ i = 1 ∨ i = 2 ∨ i = 3 ∨ i = 4 ∨ i = 5 ∨ i = 6 ∨ i = 7 ∨ i = 8 by omega) with rfl | rfl | rfl | rfl | rfl | rfl | rfl | rfl | rfl
    · -- 0
      refine slot_step rfl rfl (fun az hs K hK => ?_)
      have hK : Shut _ := hK
      have e0 := hs.get 0
      rw [r0] at e0
      go_simp
      exact hK.out _ _ ⟨r0, hbz, (fun h => h.elim (fun e => absurd e (by decide)) (fun h => Or.inr (ha h))), (fun h => h.elim (fun e => absurd e (by decide)) (fun h => Or.inr (hb h))), (fun h => h.elim (fun e => absurd e (by decide)) (fun h => Or.inr (hc h))), (fun h => h.elim (fun e => absurd e (by decide)) (fun h => Or.inr (hd h))), fun _ => rfl, kp f1, kp f2, kp f3, kp f4, kp f5, kp f6, kp f7, kp f8⟩
    · -- 1
      have d0 := f0 (hd' 0 (by kernel_rfl))
      refine slot_step rfl rfl (fun az hs K hK => ?_)
      have hK : Shut _ := hK
      have e11 := hs.get 11
      rw [d0] at e11
      go_simp
      exact hK.out _ _ ⟨r0, hbz, (fun h => h.elim (fun e => absurd e (by decide)) (fun h => Or.inr (ha h))), (fun h => h.elim (fun e => absurd e (by decide)) (fun h => Or.inr (hb h))), (fun h => h.elim (fun e => absurd e (by decide)) (fun h => Or.inr (hc h))), (fun h => h.elim (fun e => absurd e (by decide)) (fun h => Or.inr (hd h))), kp f0, fun _ => rfl, kp f2, kp f3, kp f4, kp f5, kp f6, kp f7, kp f8⟩
    · -- 2
      have d1 := f1 (hd' 1 (by kernel_rfl))
      refine slot_step rfl rfl (fun az hs K hK => ?_)
      have hK : Shut _ := hK
      have e12 := hs.get 12
      rw [d1] at e12
      refine oper_make (.tmp 12) (.tmp 12) 40 rfl 3 Try.underlying40 info_i M (hs.eval d1) (hs.eval d1) (by omega) (by omega) ?_
      rw [made_ints]
      exact hK.out _ _ ⟨r0, hbz.alloc hbz.size _, (fun h => h.elim (fun e => absurd e (by decide)) (fun h => Or.inr (ha h))), (fun h => h.elim (fun e => absurd e (by decide)) (fun h => Or.inr (hb h))), (fun h => h.elim (fun e => absurd e (by decide)) (fun h => Or.inr (hc h))), (fun h => h.elim (fun e => absurd e (by decide)) (fun h => Or.inr (hd h))), kp f0, kp f1, fun _ => ⟨wz.heap.size, rfl, hbz.size, Blk.new wz _ _⟩, kp f3, kp f4, fun h => h.elim (fun e => absurd e (by decide)) (fun h => let ⟨gm, a1, a2, a3⟩ := f5 h; ⟨gm, a1, a2, a3.alloc _⟩), fun h => h.elim (fun e => absurd e (by decide)) (fun h => absurd (ha h) hn), fun h => h.elim (fun e => absurd e (by decide)) (fun h => absurd (ha (hc h)) hn), kp f8⟩
    · -- 3
      refine slot_step rfl rfl (fun az hs K hK => ?_)
      have hK : Shut _ := hK
      have e0 := hs.get 0
      rw [r0] at e0
      go_simp
      exact hK.out _ _ ⟨r0, hbz, (fun h => h.elim (fun e => absurd e (by decide)) (fun h => Or.inr (ha h))), (fun h => h.elim (fun e => absurd e (by decide)) (fun h => Or.inr (hb h))), (fun h => h.elim (fun e => absurd e (by decide)) (fun h => Or.inr (hc h))), (fun h => h.elim (fun e => absurd e (by decide)) (fun h => Or.inr (hd h))), kp f0, kp f1, kp f2, fun _ => rfl, kp f4, kp f5, kp f6, kp f7, kp f8⟩
    · -- 4
      have d3 := f3 (hd' 3 (by kernel_rfl))
      refine slot_step rfl rfl (fun az hs K hK => ?_)
      have hK : Shut _ := hK
      have e14 := hs.get 14
      rw [d3] at e14
      go_simp
      exact hK.out _ _ ⟨r0, hbz, (fun h => h.elim (fun e => absurd e (by decide)) (fun h => Or.inr (ha h))), (fun h => h.elim (fun e => absurd e (by decide)) (fun h => Or.inr (hb h))), (fun h => h.elim (fun e => absurd e (by decide)) (fun h => Or.inr (hc h))), (fun h => h.elim (fun e => absurd e (by decide)) (fun h => Or.inr (hd h))), kp f0, kp f1, kp f2, kp f3, fun _ => rfl, kp f5, kp f6, kp f7, kp f8⟩
    · -- 5
      have d4 := f4 (hd' 4 (by kernel_rfl))
      refine slot_step rfl rfl (fun az hs K hK => ?_)
      have hK : Shut _ := hK
      have e15 := hs.get 15
      rw [d4] at e15
      refine oper_make (.tmp 15) (.tmp 15) 132 rfl 136 Try.underlying132 info_mark M (hs.eval d4) (hs.eval d4) (by omega) (by omega) ?_
      rw [made_marks]
      exact hK.out _ _ ⟨r0, hbz.alloc hbz.size _, (fun h => h.elim (fun e => absurd e (by decide)) (fun h => Or.inr (ha h))), (fun h => h.elim (fun e => absurd e (by decide)) (fun h => Or.inr (hb h))), (fun h => h.elim (fun e => absurd e (by decide)) (fun h => Or.inr (hc h))), (fun h => h.elim (fun e => absurd e (by decide)) (fun h => Or.inr (hd h))), kp f0, kp f1, fun h => h.elim (fun e => absurd e (by decide)) (fun h => let ⟨gv, a1, a2, a3⟩ := f2 h; ⟨gv, a1, a2, a3.alloc _⟩), kp f3, kp f4, fun _ => ⟨wz.heap.size, rfl, hbz.size, Blk.new wz _ _⟩, fun h => h.elim (fun e => absurd e (by decide)) (fun h => absurd (hb h) hn), fun h => h.elim (fun e => absurd e (by decide)) (fun h => absurd (hb (hc h)) hn), kp f8⟩
    · -- 6
      have d2 := f2 (hd' 2 (by kernel_rfl))
      have d5 := f5 (hd' 5 (by kernel_rfl))
      refine slot_step rfl rfl (fun az hs K hK => ?_)
      have hK : Shut _ := hK
      obtain ⟨gv, ev, _⟩ := d2
      obtain ⟨gm, em, _⟩ := d5
      refine oper_buildTr (.tmp 13) (.tmp 16) rfl gv gm M (hs.eval ev) (hs.eval em) ?_
      exact hK.out (.agg #[.slice (some ⟨gv, 0, none⟩) M M, .slice (some ⟨gm, 0, none⟩) M M, .slice none 0 0, .slice none 0 0]) _ ⟨r0, hbz, (fun _ => Or.inr (hd' 2 (by kernel_rfl))), (fun _ => Or.inr (hd' 5 (by kernel_rfl))), (fun h => h.elim (fun e => absurd e (by decide)) (fun h => Or.inr (hc h))), (fun h => h.elim (fun e => absurd e (by decide)) (fun h => Or.inr (hd h))), kp f0, kp f1, kp f2, kp f3, kp f4, kp f5, fun _ => ⟨gv, gm, ev, em, rfl⟩, kp f7, kp f8⟩
    · -- 7
      have d6 := f6 (hd' 6 (by kernel_rfl))
      refine slot_step rfl rfl (fun az hs K hK => ?_)
      have hK : Shut _ := hK
      obtain ⟨gv, gm, ev, em, ea⟩ := d6
      refine oper_boxTr (.tmp 17) rfl gv gm M (hs.eval ea) ?_
      exact hK.out _ _ ⟨r0, hbz.alloc hbz.size _, (fun h => h.elim (fun e => absurd e (by decide)) (fun h => Or.inr (ha h))), (fun h => h.elim (fun e => absurd e (by decide)) (fun h => Or.inr (hb h))), (fun _ => Or.inr (hd' 6 (by kernel_rfl))), (fun h => h.elim (fun e => absurd e (by decide)) (fun h => Or.inr (hd h))), kp f0, kp f1, fun h => h.elim (fun e => absurd e (by decide)) (fun h => let ⟨gv, a1, a2, a3⟩ := f2 h; ⟨gv, a1, a2, a3.alloc _⟩), kp f3, kp f4, fun h => h.elim (fun e => absurd e (by decide)) (fun h => let ⟨gm, a1, a2, a3⟩ := f5 h; ⟨gm, a1, a2, a3.alloc _⟩), kp f6, fun _ => ⟨gv, gm, wz.heap.size, ev, em, rfl, hbz.size, Blk.new wz _ _⟩, fun h => h.elim (fun e => absurd e (by decide)) (fun h => absurd (hd h) hn)⟩
    · -- 8
      have d7 := f7 (hd' 7 (by kernel_rfl))
      refine slot_step rfl rfl (fun az hs K hK => ?_)
      have hK : Shut _ := hK
      have e18 := hs.get 18
      go_simp
      exact hK.out _ _ ⟨r0, hbz, (fun h => h.elim (fun e => absurd e (by decide)) (fun h => Or.inr (ha h))), (fun h => h.elim (fun e => absurd e (by decide)) (fun h => Or.inr (hb h))), (fun h => h.elim (fun e => absurd e (by decide)) (fun h => Or.inr (hc h))), (fun _ => Or.inr (hd' 7 (by kernel_rfl))), kp f0, kp f1, kp f2, kp f3, kp f4, kp f5, kp f6, kp f7, fun _ => rfl⟩
  case hdone =>
    rintro D g wz hD ⟨r0, hbz, ha, hb, hc, hd, f0, f1, f2, f3, f4, f5, f6, f7, f8⟩
    simp only [setAll, List.foldl_cons, List.foldl_nil, List.setIfInBounds_toArray, List.set_cons_succ, List.set_cons_zero]
    obtain ⟨gv, ev, hgv, bv⟩ := f2 (hD 2)
    obtain ⟨gm, em, hgm, bm⟩ := f5 (hD 5)
    obtain ⟨gv2, gm2, p, ev2, em2, ep, hgp, bp⟩ := f7 (hD 7)
    have e3 := f8 (hD 8)
    rw [ev] at ev2
    rw [em] at em2
    injection ev2 with ev2
    injection ev2 with ev2
    injection ev2 with ev2
    injection em2 with em2
    injection em2 with em2
    injection em2 with em2
    subst ev2 em2
    rw [e3, ep]
    clear f0 f1 f2 f3 f4 f5 f6 f7 f8 hD r0 ha hb hc hd ev em ep e3
    obtain ⟨w1, hw1⟩ : ∃ w1, w1 = wz := ⟨_, rfl⟩
    subst hw1
    have hne1 : gv ≠ p := blk_ne bv bp (by decide)
    have hne2 : gm ≠ gv := blk_ne bm bv (by decide)
    have hne3 : gm ≠ p := blk_ne bm bp (by decide)
    rw [← initV_one] at bv
    replace bv := hide bv
    replace bm := hide bm
    replace bp := hide bp
    replace hbz := hide hbz
    go_wp2
    go_loopw [4] (fun i wr => ∃ k : Nat, 1 ≤ k ∧ k ≤ M ∧ i = .int .i64 k ∧ Hid (Blk wr gv 3 (ivs (initV M k)).toArray) ∧ Hid (Blk wr gm 136 ((List.replicate M zMk).flatMap encM).toArray) ∧ Hid (Blk wr p 134 #[.slice (some ⟨gv, 0, none⟩) M M, .slice (some ⟨gm, 0, none⟩) M M, .slice none 0 0, .slice none 0 0]) ∧ Hid (Below w.heap.size w wr)) (fun i _ => M - (intOf i).toNat)
    case atStart => exact ⟨1, Nat.le_refl _, hM0, rfl, bv, bm, bp, hbz⟩
    case round =>
      obtain ⟨k, hk1, hkM, rfl, bv2, bm2, bp2, hb2⟩ := hrel
      clear bv bm bp hbz
      have hkI : (k : Int) ≤ 1000001 := by omega
      have c0 := bp2.out.cell 0
      have c1 := bp2.out.cell 1
      by_cases hlt : k < M
      · have hltI : (k : Int) < M := by omega
        have hle : decide ((k : Int) ≤ n) = true := decide_eq_true ((hkn.out k).2 hlt)
        have hle2 : k ≤ n := by have := (hkn.out k).2 hlt; omega
        have cv : wr.cell? ⟨gv, k, none⟩ = some (.int .i64 0) := by
          rw [blk_list bv2.out]; unfold ivs initV
          rw [List.getElem?_map, List.getElem?_map, List.getElem?_range hlt]
          simp
        have fv := bv2.out.frozen k
        have bvN := blk_put bv2.out k (.int .i64 2)
        rw [show (ivs (initV M k)).set k (.int .i64 2) = ivs (initV M (k + 1)) by unfold ivs; rw [← List.map_set, initV_set hk1 hlt]] at bvN
        have bmN := hide (bm2.out.far (p := ⟨gv, k, none⟩) hne2 (.int .i64 2))
        have bpN := hide (bp2.out.far (p := ⟨gv, k, none⟩) (fun e => hne1 e.symm) (.int .i64 2))
        have hbN := hide (hb2.out.setCell (p := ⟨gv, k, none⟩) hgv (.int .i64 2))
        replace bvN := hide bvN
        go_wp2
        go_roundw
        case rel => exact ⟨k + 1, by omega, hlt, by go_num, bvN, bmN, bpN, hbN⟩
        case measure => simp [intOf]; omega
      · have hkk : M = k := by omega
        subst hkk
        have hle : decide ((M : Int) ≤ n) = false := decide_eq_false (fun h => hlt ((hkn.out M).1 h))
        have hle2 : ¬ M ≤ n := fun h => hlt ((hkn.out M).1 (by omega))
        obtain ⟨M', hM'⟩ : ∃ M', M = M' + 1 := ⟨M - 1, by omega⟩
        have hz : (List.replicate M zMk).flatMap encM = [Value.int .i64 0, .int .i64 0, .int .i64 0] ++ (List.replicate M' zMk).flatMap encM := by rw [hM', List.replicate_succ, List.flatMap_cons]; rfl
        have hzN := hide (show ((List.replicate M zMk).set 0 ⟨0, -1, -1⟩).flatMap encM = [Value.int .i64 0, .int .i64 (-1), .int .i64 (-1)] ++ (List.replicate M' zMk).flatMap encM by rw [hM', List.replicate_succ, List.set_cons_zero, List.flatMap_cons]; rfl)
        replace hM' := hide hM'
        obtain ⟨rest, hrest⟩ : ∃ rest, (List.replicate M' zMk).flatMap encM = rest := ⟨_, rfl⟩
        rw [hrest] at hz hzN
        have bm3 := bm2.out
        rw [hz] at bm3
        have s1 := blk_put bm3 0 (.int .i64 0)
        have s2 := blk_put s1 1 (.int .i64 (-1))
        have s3 := blk_put s2 2 (.int .i64 (-1))
        have f0 := bm3.frozen 0
        have x0 : wr.cell? ⟨gm, 0, none⟩ = some (.int .i64 0) := by rw [blk_list bm3]; rfl
        have f1 := s1.frozen 1
        have x1 : (wr.setCell ⟨gm, 0, none⟩ (.int .i64 0)).cell? ⟨gm, 1, none⟩ = some (.int .i64 0) := by rw [blk_list s1]; rfl
        have f2 := s2.frozen 2
        have x2 : ((wr.setCell ⟨gm, 0, none⟩ (.int .i64 0)).setCell ⟨gm, 1, none⟩ (.int .i64 (-1))).cell? ⟨gm, 2, none⟩ = some (.int .i64 0) := by rw [blk_list s2]; rfl
        have bmF := hide (show Blk (((wr.setCell ⟨gm, 0, none⟩ (.int .i64 0)).setCell ⟨gm, 1, none⟩ (.int .i64 (-1))).setCell ⟨gm, 2, none⟩ (.int .i64 (-1))) gm 136 (((List.replicate M zMk).set 0 ⟨0, -1, -1⟩).flatMap encM).toArray by rw [hzN.out]; exact s3)
        have bvF := hide (((bv2.out.far (p := ⟨gm, 0, none⟩) (fun e => hne2 e.symm) (.int .i64 0)).far (p := ⟨gm, 1, none⟩) (fun e => hne2 e.symm) (.int .i64 (-1))).far (p := ⟨gm, 2, none⟩) (fun e => hne2 e.symm) (.int .i64 (-1)))
        have bpF := hide (((bp2.out.far (p := ⟨gm, 0, none⟩) (fun e => hne3 e.symm) (.int .i64 0)).far (p := ⟨gm, 1, none⟩) (fun e => hne3 e.symm) (.int .i64 (-1))).far (p := ⟨gm, 2, none⟩) (fun e => hne3 e.symm) (.int .i64 (-1)))
        have hbF := hide (((hb2.out.setCell (p := ⟨gm, 0, none⟩) hgm (.int .i64 0)).setCell (p := ⟨gm, 1, none⟩) hgm (.int .i64 (-1))).setCell (p := ⟨gm, 2, none⟩) hgm (.int .i64 (-1)))
        clear s1 s2 s3 bm3 hz hrest hzN
        have hMI0 : (0 : Int) < M := by omega
        go_wp2
        go_ret
        exact ⟨p, gv, gm, rfl, ⟨bpF.out, bvF.out, bmF.out, initV_len _ _, by simp, World.ownsRow_nil _ _ _ _, by simp [Value.ownBlock], hgp, hgv, hgm⟩, hbF.out⟩
end Go.Proofs.Ytcjoohaagdihlaa.Watch
end
