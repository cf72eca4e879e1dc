/- Texts behind a row, one behind the other: Store4, KeptOpen, RowsOpen. -/
import Derived.Test.YtcjoohaagdihlaaWS5
import Derived.Test.YtcjoohaagdihlaaWS6
import Derived.Test.YtcjoohaagdihlaaWS2
import Derived.Test.YtcjoohaagdihlaaWS1
import Derived.ProofKit
import Derived.OpenShut
import Derived.Deep.Strs
import Derived.Deep.Grids
section
/- What a store has of a state: the cube of the least depth. -/
namespace Go.Proofs.Ytcjoohaagdihlaa.Kept
open Go.RowKit Go.Shelf Go.Lt Go.Proofs.Ytcjoohaagdihlaa.Lit Go.Proofs.Ytcjoohaagdihlaa.CubeHas
set_option linter.unusedVariables false
set_option linter.unusedSimpArgs false
attribute [local go_sem] Oper.semAt_some

def zKc : Kc := ⟨[], 0, []⟩
def kcAt (l : List Kc) (i : Nat) : Kc := l.getD i zKc
/-- the best one so far -/
def stepB (l : List Kc) (s : List Bool) (b : Option Nat) (i : Nat) : Option Nat :=
  if hasS (kcAt l i).c s && (match b with | none => true | some j => decide ((kcAt l i).d < (kcAt l j).d)) then some i else b
def bestN (l : List Kc) (s : List Bool) (pre : List Nat) : Option Nat := pre.foldl (stepB l s) none
theorem bestN_snoc (l : List Kc) (s : List Bool) (pre : List Nat) (i : Nat) : bestN l s (pre ++ [i]) = stepB l s (bestN l s pre) i := by simp [bestN]
theorem stepB_no {l : List Kc} {s : List Bool} {b : Option Nat} {i : Nat} (h : hasS (kcAt l i).c s = false) : stepB l s b i = b := by simp [stepB, h]
theorem stepB_none {l : List Kc} {s : List Bool} {i : Nat} (h : hasS (kcAt l i).c s = true) : stepB l s none i = some i := by simp [stepB, h]
theorem stepB_lt {l : List Kc} {s : List Bool} {i j : Nat} (h : hasS (kcAt l i).c s = true) (hd : (kcAt l i).d < (kcAt l j).d) : stepB l s (some j) i = some i := by simp [stepB, h, hd]
theorem stepB_ge {l : List Kc} {s : List Bool} {i j : Nat} (hd : ¬ (kcAt l i).d < (kcAt l j).d) : stepB l s (some j) i = some j := by simp [stepB, hd]
theorem ite_or {α : Type} {c : Prop} [Decidable c] (a b : α) : (if c then a else b) = a ∨ (if c then a else b) = b := by by_cases h : c <;> simp [h]
theorem stepB_or (l : List Kc) (s : List Bool) (b : Option Nat) (i : Nat) : stepB l s b i = some i ∨ stepB l s b i = b := ite_or _ _
theorem foldB_mem {l : List Kc} {s : List Bool} {j : Nat} : ∀ (pre : List Nat) (b : Option Nat), pre.foldl (stepB l s) b = some j → b = some j ∨ j ∈ pre
  | [], _, h => .inl h
  | i :: pre, b, h => by
    rcases foldB_mem pre _ h with h1 | h1
    · rcases stepB_or l s b i with h2 | h2
      · rw [h2] at h1; injection h1 with h1; subst h1; exact .inr (by simp)
      · rw [h2] at h1; exact .inl h1
    · exact .inr (List.mem_cons_of_mem _ h1)
theorem bestN_mem {l : List Kc} {s : List Bool} {j : Nat} (pre : List Nat) (h : bestN l s pre = some j) : j ∈ pre := by
  rcases foldB_mem pre none h with h1 | h1
  · cases h1
  · exact h1
/-- one that is kept reads as this -/
structure KvR (w : World) (x : Kv) (k : Kc) : Prop where
  d : x.d = k.d
  c : Rd w x.c.A x.c.n (ivs k.c)
  i : Rd w x.i.A x.i.n (bvs k.i)
theorem KvR.below {w w' : World} {x : Kv} {k : Kc} {B : Nat} (h : KvR w x k) (hb : Below B w w') (hB : w.heap.size ≤ B) : KvR w' x k := ⟨h.d, h.c.below hb hB, h.i.below hb hB⟩
/-- all of them -/
def AllK (w : World) (L : List Kv) (l : List Kc) : Prop := L.length = l.length ∧ ∀ j, j < L.length → KvR w (kvAt L j) (kcAt l j)
theorem AllK.below {w w' : World} {L : List Kv} {l : List Kc} {B : Nat} (h : AllK w L l) (hb : Below B w w') (hB : w.heap.size ≤ B) : AllK w' L l := ⟨h.1, fun j hj => (h.2 j hj).below hb hB⟩
/-- numbers of 64 bits, and not too many -/
structure GoodK (k : Kc) : Prop where
  c : k.c.length ≤ 100000
  i : k.i.length ≤ 100000
  w : Wfs k.c
def GoodL (l : List Kc) : Prop := ∀ k ∈ l, GoodK k
theorem GoodL.at {l : List Kc} (h : GoodL l) {j : Nat} (hj : j < l.length) : GoodK (kcAt l j) := by
  have : kcAt l j = l[j] := by simp [kcAt, List.getD, hj]
  rw [this]
  exact h _ (List.getElem_mem _)
def curV (L : List Kv) : Option Nat → Kv
  | none => zKv
  | some j => kvAt L j
def curC (l : List Kc) : Option Nat → Kc
  | none => zKc
  | some j => kcAt l j
theorem blk_own {W W' : World} {row : Option Nat} {g : Nat} {t : TypeId} {cs : Array Value} (h : Blk W g t cs) (hg : W.grownBy W' row) (hr : ∀ r, row = some r → ∃ o : Obj, W.heap[r]? = some o ∧ o.isCells = false) : Blk W' g t cs :=
  h.grown hg (fun e => by
    obtain ⟨o, ho, hc⟩ := hr g e.symm
    unfold Blk at h
    rw [h] at ho
    injection ho with ho
    subst ho
    cases hc)
theorem keeps_below {B : Nat} {W W' : World} (h : Below W.heap.size W W') : KeepsFrom B W W' := ⟨h.size, fun k o _ hk _ => (h.block k (Array.getElem?_eq_some_iff.1 hk).1).trans hk⟩
def FindIs (r : Option Kc) (w : World) (e : Ending) (w' : World) : Prop := ∃ x : Kv, e = .returned (.tuple #[.agg x.cells, .bool r.isSome]) ∧ x.d = (r.getD zKc).d ∧ w'.ownsRow w.heap.size 3 1 x.c.val (ivs (r.getD zKc).c).length (ivs (r.getD zKc).c) ∧ w'.ownsRow w.heap.size 4 1 x.i.val (bvs (r.getD zKc).i).length (bvs (r.getD zKc).i) ∧ Below w.heap.size w w'
def Z3 : Array Value := #[.slice none 0 0, .int .i64 0, .slice none 0 0]
/-- what is known between the rounds -/
structure Fx (w : World) (st : Value) (v : Kv) (f : Bool) (W : World) : Prop where
  bel : Below w.heap.size w W
  b0 : Blk W w.heap.size 59 #[st]
  b1 : Blk W (w.heap.size + 1) 66 Z3
  b2 : Blk W (w.heap.size + 1 + 1) 66 v.cells
  b3 : Blk W (w.heap.size + 1 + 1 + 1) 4 #[.bool f]
theorem Fx.step {w W W' : World} {st : Value} {v : Kv} {f : Bool} (h : Fx w st v f W) (hb : Below W.heap.size W W') : Fx w st v f W' :=
  ⟨h.bel.trans (hb.mono h.bel.size), h.b0.below hb h.b0.lt, h.b1.below hb h.b1.lt, h.b2.below hb h.b2.lt, h.b3.below hb h.b3.lt⟩
theorem Fx.own {w W W' : World} {st : Value} {v : Kv} {f : Bool} {row : Option Nat} {n : Nat} (h : Fx w st v f W) (hn : w.heap.size ≤ n) (hg : W.grownBy W' row) (hr : ∀ r, row = some r → n ≤ r ∧ ∃ o : Obj, W.heap[r]? = some o ∧ o.isCells = false) : Fx w st v f W' :=
  have hr' : ∀ r, row = some r → ∃ o : Obj, W.heap[r]? = some o ∧ o.isCells = false := fun r e => (hr r e).2
  ⟨h.bel.grown hg h.bel.size (fun k e => Nat.le_trans hn (hr k e).1), blk_own h.b0 hg hr', blk_own h.b1 hg hr', blk_own h.b2 hg hr', blk_own h.b3 hg hr'⟩
theorem Fx.set {w W : World} {st : Value} {v : Kv} {f : Bool} (x : Kv) (h : Fx w st v f W) :
    Fx w st x true ((((W.setCell ⟨w.heap.size + 1 + 1, 0, none⟩ x.c.val).setCell ⟨w.heap.size + 1 + 1, 1, none⟩ (.int .i64 x.d)).setCell ⟨w.heap.size + 1 + 1, 2, none⟩ x.i.val).setCell ⟨w.heap.size + 1 + 1 + 1, 0, none⟩ (.bool true)) where
  bel := (((h.bel.setCell (p := ⟨w.heap.size + 1 + 1, 0, none⟩) (by show w.heap.size ≤ w.heap.size + 1 + 1; omega) _).setCell (p := ⟨w.heap.size + 1 + 1, 1, none⟩) (by show w.heap.size ≤ w.heap.size + 1 + 1; omega) _).setCell (p := ⟨w.heap.size + 1 + 1, 2, none⟩) (by show w.heap.size ≤ w.heap.size + 1 + 1; omega) _).setCell (p := ⟨w.heap.size + 1 + 1 + 1, 0, none⟩) (by show w.heap.size ≤ w.heap.size + 1 + 1 + 1; omega) _
  b0 := (((h.b0.far (by simp <;> omega) _).far (by simp <;> omega) _).far (by simp <;> omega) _).far (by simp <;> omega) _
  b1 := (((h.b1.far (by simp) _).far (by simp) _).far (by simp) _).far (by simp <;> omega) _
  b2 := by
    have := (((h.b2.set_ 0 x.c.val).set_ 1 (.int .i64 x.d)).set_ 2 x.i.val).far (p := ⟨w.heap.size + 1 + 1 + 1, 0, none⟩) (by simp) (.bool true)
    simpa using this
  b3 := by
    have := (((h.b3.far (p := ⟨w.heap.size + 1 + 1, 0, none⟩) (by simp) x.c.val).far (p := ⟨w.heap.size + 1 + 1, 1, none⟩) (by simp) (.int .i64 x.d)).far (p := ⟨w.heap.size + 1 + 1, 2, none⟩) (by simp) x.i.val).set_ 0 (.bool true)
    simpa using this
theorem set_keeps {w W : World} (B : Nat) (x : Kv) : KeepsFrom B W ((((W.setCell ⟨w.heap.size + 1 + 1, 0, none⟩ x.c.val).setCell ⟨w.heap.size + 1 + 1, 1, none⟩ (.int .i64 x.d)).setCell ⟨w.heap.size + 1 + 1, 2, none⟩ x.i.val).setCell ⟨w.heap.size + 1 + 1 + 1, 0, none⟩ (.bool true)) := ((((KeepsOthers.setCell _ _ _).trans (KeepsOthers.setCell _ _ _)).trans (KeepsOthers.setCell _ _ _)).trans (KeepsOthers.setCell _ _ _)).from _
theorem set_below {w W : World} (x : Kv) : Below w.heap.size W ((((W.setCell ⟨w.heap.size + 1 + 1, 0, none⟩ x.c.val).setCell ⟨w.heap.size + 1 + 1, 1, none⟩ (.int .i64 x.d)).setCell ⟨w.heap.size + 1 + 1, 2, none⟩ x.i.val).setCell ⟨w.heap.size + 1 + 1 + 1, 0, none⟩ (.bool true)) :=
  ((((Below.refl w.heap.size W).setCell (p := ⟨w.heap.size + 1 + 1, 0, none⟩) (by show w.heap.size ≤ w.heap.size + 1 + 1; omega) _).setCell (p := ⟨w.heap.size + 1 + 1, 1, none⟩) (by show w.heap.size ≤ w.heap.size + 1 + 1; omega) _).setCell (p := ⟨w.heap.size + 1 + 1, 2, none⟩) (by show w.heap.size ≤ w.heap.size + 1 + 1; omega) _).setCell (p := ⟨w.heap.size + 1 + 1 + 1, 0, none⟩) (by show w.heap.size ≤ w.heap.size + 1 + 1 + 1; omega) _
theorem KvR.cur {w : World} {L : List Kv} {l : List Kc} (h : AllK w L l) (b : Option Nat) (hb : ∀ j, b = some j → j < L.length) : KvR w (curV L b) (curC l b) := by
  cases b with
  | none => exact ⟨rfl, Rd.nil w none, Rd.nil w none⟩
  | some j => exact h.2 j (hb j rfl)
theorem GoodL.cur {L : List Kv} {l : List Kc} (h : GoodL l) (hl : L.length = l.length) (b : Option Nat) (hb : ∀ j, b = some j → j < L.length) : GoodK (curC l b) := by
  cases b with
  | none => exact ⟨Nat.zero_le _, Nat.zero_le _, fun x hx => by cases hx⟩
  | some j => exact h.at (by have := hb j rfl; omega)
theorem cur_getD (l : List Kc) (b : Option Nat) : ((b.map (kcAt l)).getD zKc) = curC l b := by cases b <;> rfl
set_option maxRecDepth 8000 in
set_option maxHeartbeats 4000000 in
theorem store_FindE (q : Option Addr) (L : List Kv) (l : List Kc) (s : List Bool) (B : Option Addr) (m cd : Nat) (w : World) (hK : Keeps w.heap.size w q L) (hA : AllK w L l) (hrs : Rd w B m (bvs s)) (hm : L.length ≠ 0 → m ≤ 1000000) (hg : GoodL l) (hL : L.length ≤ 1000000) :
    Calls Try.prog 50 #[.pointer q, .slice B m cd] w (FindIs ((bestN l s (List.range L.length)).map (kcAt l)) w) := by
  refine (callsIn_wide (n := 10)).1 ?_
  refine callsIn_of_wp_marks Try.func50 rfl trivial ?_ rfl
  simp only [Try.ntmps50, List.size_toArray, List.length_cons, List.length_nil, Nat.reduceAdd, Nat.reduceSub, Array.replicate_succ, Array.replicate_zero, List.push_toArray, List.append_toArray, List.nil_append, List.cons_append]
  gi_wp2_with (refine ⟨trivial, ?_⟩; gi_at_call 101; refine (all_in Fence.wide _ trivial rfl _ _).mono ?_; rintro e w' ⟨rfl, rfl⟩)
  obtain ⟨W0, hW0⟩ : ∃ W0, (((((w.alloc (.cells #[.slice B m cd] 59)).alloc (.cells Z3 66)).alloc (.cells Z3 66)).alloc (.cells #[.bool false] 4)).alloc (.cells #[.pointer q] 61)) = W0 := ⟨_, rfl⟩
  have hI0 : Fx w (.slice B m cd) zKv false W0 ∧ Blk W0 (w.heap.size + 1 + 1 + 1 + 1) 61 #[.pointer q] ∧ W0.heap.size = w.heap.size + 5 := by
    subst hW0
    have e0 := Blk.new w 59 #[.slice B m cd]
    have e1 := Blk.new (w.alloc (.cells #[.slice B m cd] 59)) 66 Z3
    have e2 := Blk.new ((w.alloc (.cells #[.slice B m cd] 59)).alloc (.cells Z3 66)) 66 Z3
    have e3 := Blk.new (((w.alloc (.cells #[.slice B m cd] 59)).alloc (.cells Z3 66)).alloc (.cells Z3 66)) 4 #[.bool false]
    have e4 := Blk.new ((((w.alloc (.cells #[.slice B m cd] 59)).alloc (.cells Z3 66)).alloc (.cells Z3 66)).alloc (.cells #[.bool false] 4)) 61 #[.pointer q]
    simp only [World.size_alloc] at e1 e2 e3 e4
    exact ⟨⟨((((((Below.refl _ w).alloc (Nat.le_refl _) _).alloc (by simp) _).alloc (by simp; omega) _).alloc (by simp; omega) _).alloc (by simp; omega) _), (((e0.alloc _).alloc _).alloc _).alloc _, ((e1.alloc _).alloc _).alloc _, (e2.alloc _).alloc _, e3.alloc _⟩, e4, by simp⟩
  obtain ⟨hI0, hb4, hsz⟩ := hI0
  unfold Z3 at hW0
  simp only [hW0]
  clear hW0
  refine wpIn_rangeFunc_ownH rfl (by omega) (gf := 134) (lb := #[.pointer (some ⟨w.heap.size + 1 + 1 + 1 + 1, 0, none⟩)]) rfl trivial (enters_of Try.func134 (by kernel_rfl) rfl)
    (all_stops Fence.wide _ trivial rfl (by omega) (w.heap.size + 1 + 1 + 1 + 1) w.heap.size q L hL W0 (by omega) (by omega) (hb4.cell 0) (hK.below hI0.bel (by omega))) belowK_t (belowK_b (by omega)) (Below.refl _ _) (fun _ => rfl)
    (fun pre W => Fx w (.slice B m cd) (curV L (bestN l s (pre.map Fin.val))) (bestN l s (pre.map Fin.val)).isSome W)
    (fun _ _ _ => False)
    (fun pre X Y row hs hg hr => hs.own (by omega) hg hr)
    (fun _ _ _ _ _ hs _ _ => hs)
    hI0
    (fun x a' W => ∃ Bx, w.heap.size + 4 ≤ Bx ∧ Blk W Bx 66 (kvAt L x.1).cells ∧ a' = { tmps := #[.pointer q, .slice B m cd, undef, .pointer (some ⟨w.heap.size, 0, none⟩), .pointer (some ⟨w.heap.size + 1, 0, none⟩), .bool false, .pointer (some ⟨w.heap.size + 1 + 1, 0, none⟩), .pointer (some ⟨w.heap.size + 1 + 1 + 1, 0, none⟩), undef, .pointer (some ⟨Bx, 0, none⟩), .pointer q, .func (.func 134) #[] #[.pointer (some ⟨w.heap.size + 1 + 1 + 1 + 1, 0, none⟩)], .int .i64 (x.1 : Int), .agg (kvAt L x.1).cells, undef, undef, undef, undef, undef, undef, undef, undef, undef, undef, undef, undef, undef, undef, undef, undef, undef, undef, undef], defers := [] })
    (fun x a' _ X Y row hs hg hr => by obtain ⟨Bx, h1, h2, h3⟩ := hs; exact ⟨Bx, h1, blk_own h2 hg (fun r e => (hr r e).2), h3⟩)
    ?assign ?body ?done ?stop
  case assign =>
    rintro l0 pre x W K hI hK
    have hbs := hI.bel.size
    have hb3 := hI.b3.lt
    dsimp only [encsF]
    gi_wp2
    exact hK _ _ ((KeepsOthers.alloc _ _).from _) ((Below.refl _ W).alloc hbs _) (hI.step ((Below.refl _ W).alloc (Nat.le_refl _) _)) ⟨W.heap.size, by have := hI.b3.lt; omega, Blk.new W _ _, rfl⟩
  case body =>
    rintro l0 pre x a' W hl ⟨r, hr⟩ hI ⟨Bx, hBx, bX, rfl⟩ hlt
    have hkv := (hA.2 x.1 x.2).below hI.bel (Nat.le_refl _)
    have hgk := hg.at (j := x.1) (by have := hA.1; have := x.2; omega)
    have hst := hrs.below hI.bel (Nat.le_refl _)
    generalize hxv : kvAt L x.1 = xv at *
    have hcl := hkv.c.len
    have hhas := cube_Has xv.c.A B xv.c.n m xv.c.c cd (kcAt l x.1).c s W (by have := hgk.c; omega) (hm (by have := x.2; omega)) hkv.c hst hgk.w
    have cX0 : W.cell? ⟨Bx, 0, none⟩ = some (.slice xv.c.A xv.c.n xv.c.c) := bX.cell 0
    have cX1 : W.cell? ⟨Bx, 1, none⟩ = some (.int .i64 xv.d) := bX.cell 1
    have cX2 : W.cell? ⟨Bx, 2, none⟩ = some (.slice xv.i.A xv.i.n xv.i.c) := bX.cell 2
    have cS : W.cell? ⟨w.heap.size, 0, none⟩ = some (.slice B m cd) := hI.b0.cell 0
    have cF : W.cell? ⟨w.heap.size + 1 + 1 + 1, 0, none⟩ = some (.bool (bestN l s (pre.map Fin.val)).isSome) := hI.b3.cell 0
    have fF := hI.b3.frozen 0
    have hb' : bestN l s ((pre ++ [x]).map Fin.val) = stepB l s (bestN l s (pre.map Fin.val)) x.1 := by rw [List.map_append, List.map_cons, List.map_nil, bestN_snoc]
    have hbm : ∀ j, bestN l s (pre.map Fin.val) = some j → j < L.length := fun j hj => by
      obtain ⟨y, _, hy⟩ := List.mem_map.1 (bestN_mem _ hj)
      rw [← hy]; exact y.2
    generalize bestN l s (pre.map Fin.val) = b at hI hb' hbm cF
    have cB0 : W.cell? ⟨w.heap.size + 1 + 1, 0, none⟩ = some (.slice (curV L b).c.A (curV L b).c.n (curV L b).c.c) := hI.b2.cell 0
    have cB1 : W.cell? ⟨w.heap.size + 1 + 1, 1, none⟩ = some (.int .i64 (curV L b).d) := hI.b2.cell 1
    have cB2 : W.cell? ⟨w.heap.size + 1 + 1, 2, none⟩ = some (.slice (curV L b).i.A (curV L b).i.n (curV L b).i.c) := hI.b2.cell 2
    have fB0 := hI.b2.frozen 0
    have fB1 := hI.b2.frozen 1
    have fB2 := hI.b2.frozen 2
    have hN : 1 ≤ 10 - 1 - 1 := by omega
    cases hh : hasS (kcAt l x.1).c s with
    | false =>
      rw [stepB_no hh] at hb'
      rw [hh] at hhas
      gi_wp2_with (refine ⟨trivial, ?_⟩; gi_at_call 106; refine (CallsIn.inRound l0 (callsIn_wide.2 hhas)).mono ?_; rintro e w' ⟨rfl, rfl⟩)
      exact ⟨KeepsFrom.refl _ _, Below.refl _ _, by show Fx w _ (curV L (bestN l s ((pre ++ [x]).map Fin.val))) (bestN l s ((pre ++ [x]).map Fin.val)).isSome _; rw [hb']; exact hI⟩
    | true =>
      rw [hh] at hhas
      cases b with
      | none =>
        rw [stepB_none hh] at hb'
        have cF : W.cell? ⟨w.heap.size + 1 + 1 + 1, 0, none⟩ = some (.bool false) := hI.b3.cell 0
        gi_wp2_with (refine ⟨trivial, ?_⟩; gi_at_call 106; refine (CallsIn.inRound l0 (callsIn_wide.2 hhas)).mono ?_; rintro e w' ⟨rfl, rfl⟩)
        exact ⟨set_keeps _ xv, set_below xv, by show Fx w _ (curV L (bestN l s ((pre ++ [x]).map Fin.val))) (bestN l s ((pre ++ [x]).map Fin.val)).isSome _; rw [hb']; show Fx w _ (kvAt L x.1) true _; rw [hxv]; exact hI.set xv⟩
      | some j =>
        have cF : W.cell? ⟨w.heap.size + 1 + 1 + 1, 0, none⟩ = some (.bool true) := hI.b3.cell 0
        have hjd := (hA.2 j (hbm j rfl)).d
        have hxd := hkv.d
        clear hkv hgk
        by_cases hd : (kcAt l x.1).d < (kcAt l j).d
        · rw [stepB_lt hh hd] at hb'
          have hd' : xv.d < (curV L (some j)).d := by show xv.d < (kvAt L j).d; omega
          clear hxd hjd
          gi_wp2_with (refine ⟨trivial, ?_⟩; gi_at_call 106; refine (CallsIn.inRound l0 (callsIn_wide.2 hhas)).mono ?_; rintro e w' ⟨rfl, rfl⟩)
          exact ⟨set_keeps _ xv, set_below xv, by show Fx w _ (curV L (bestN l s ((pre ++ [x]).map Fin.val))) (bestN l s ((pre ++ [x]).map Fin.val)).isSome _; rw [hb']; show Fx w _ (kvAt L x.1) true _; rw [hxv]; exact hI.set xv⟩
        · rw [stepB_ge hd] at hb'
          have hd' : ¬ xv.d < (curV L (some j)).d := by show ¬ xv.d < (kvAt L j).d; omega
          clear hxd hjd
          gi_wp2_with (refine ⟨trivial, ?_⟩; gi_at_call 106; refine (CallsIn.inRound l0 (callsIn_wide.2 hhas)).mono ?_; rintro e w' ⟨rfl, rfl⟩)
          exact ⟨KeepsFrom.refl _ _, Below.refl _ _, by show Fx w _ (curV L (bestN l s ((pre ++ [x]).map Fin.val))) (bestN l s ((pre ++ [x]).map Fin.val)).isSome _; rw [hb']; exact hI⟩
  case done =>
    rintro D ys W hD rfl hI hKD
    have hys : (upF L.length L.length).map Fin.val = List.range L.length := by rw [upF_all]; exact List.ext_getElem (by simp) (fun i h1 h2 => by simp)
    have hI : Fx w (.slice B m cd) (curV L (bestN l s ((upF L.length L.length).map Fin.val))) (bestN l s ((upF L.length L.length).map Fin.val)).isSome W := hI
    rw [hys] at hI
    have hbm : ∀ j, bestN l s (List.range L.length) = some j → j < L.length := fun j hj => List.mem_range.1 (bestN_mem _ hj)
    obtain ⟨b, hbe⟩ : ∃ b, bestN l s (List.range L.length) = b := ⟨_, rfl⟩
    rw [hbe] at hI hbm
    have hbe := hide hbe
    have hkv := KvR.cur hA b hbm
    have hgk := hg.cur hA.1 b hbm
    gi_wp2
    refine wpIn_wide.2 ?_
    refine wp_region_inv3 (fun D_ az wz => ∃ x5 x30 x31 x32 u0 u1 u2 : Value, az = ⟨#[.pointer q, .slice B m cd, undef, .pointer (some ⟨w.heap.size, 0, none⟩), .pointer (some ⟨w.heap.size + 1, 0, none⟩), x5, .pointer (some ⟨w.heap.size + 1 + 1, 0, none⟩), .pointer (some ⟨w.heap.size + 1 + 1 + 1, 0, none⟩), undef, undef, .pointer q, .func (.func 134) #[] #[.pointer (some ⟨w.heap.size + 1 + 1 + 1 + 1, 0, none⟩)], undef, undef, undef, undef, undef, undef, undef, undef, undef, undef, undef, undef, undef, undef, undef, undef, undef, undef, x30, x31, x32], [{ target := .collected D, args := #[] }]⟩ ∧ (Below w.heap.size w wz ∧ w.heap.size + 4 ≤ wz.heap.size ∧ Blk wz (w.heap.size + 1) 66 #[u0, u1, u2] ∧ Blk wz (w.heap.size + 1 + 1) 66 (curV L b).cells ∧ Blk wz (w.heap.size + 1 + 1 + 1) 4 #[.bool b.isSome] ∧ wz.heap[D]? = some (.deferred (some []))) ∧ (D_ 0 → x30 = .agg (curV L b).cells) ∧ (D_ 1 → ∃ y : Kv, x31 = .agg y.cells ∧ y.d = (curC l b).d ∧ wz.ownsRow (w.heap.size + 4) 3 1 y.c.val (ivs (curC l b).c).length (ivs (curC l b).c) ∧ wz.ownsRow (w.heap.size + 4) 4 1 y.i.val (bvs (curC l b).i).length (bvs (curC l b).i)) ∧ (D_ 2 → x32 = .bool b.isSome) ∧ (D_ 3 → (D_ 1 ∧ x31 = .agg #[u0, u1, u2])) ∧ (D_ 4 → (D_ 2 ∧ x5 = x32))) (by kernel_rfl) (by kernel_rfl) ?h0 ?hstep ?hdone
    case h0 =>
      have hI := hI.step (Dr.below (Dr.refl _).drew _)
      refine ⟨_, _, _, _, _, _, _, rfl, ⟨hI.bel, by have := hI.b3.lt; omega, hI.b1, hI.b2, hI.b3, hKD⟩, fun h => absurd h (by decide), fun h => absurd h (by decide), fun h => absurd h (by decide), fun h => absurd h (by decide), fun h => absurd h (by decide)⟩
    case hstep =>
      intro D_ az wz i hi' hn hd' hI2
      obtain ⟨x5, x30, x31, x32, u0, u1, u2, rfl, ⟨hbz, hsz2, b1, b2, b3, bD⟩, f0, f1, f2, f3, f4⟩ := hI2
      have hi' : i < 5 := hi'
      rcases (show i = 0 ∨ i = 1 ∨ i = 2 ∨ i = 3 ∨ i = 4 by omega) with rfl | rfl | rfl | rfl | rfl
      · -- 0
        refine wpOp_step rfl (fun K hK => ?_)
        have hK : Shut _ := hK
        have c0 : wz.cell? ⟨w.heap.size + 1 + 1, 0, none⟩ = some ((curV L b).c.val) := b2.cell 0
        have c1 : wz.cell? ⟨w.heap.size + 1 + 1, 1, none⟩ = some (.int .i64 (curV L b).d) := b2.cell 1
        have c2 : wz.cell? ⟨w.heap.size + 1 + 1, 2, none⟩ = some ((curV L b).i.val) := b2.cell 2
        go_simp
        try simp only [Act.put, List.getElem_toArray, List.getElem_cons_succ, List.getElem_cons_zero, List.setIfInBounds_toArray, List.set_cons_zero, List.set_cons_succ]
        refine hK.out _ _ ⟨_, _, _, _, _, _, _, rfl, ⟨hbz, hsz2, b1, b2, b3, bD⟩, fun _ => rfl, fun h => h.elim (fun e => absurd e (by decide)) f1, fun h => h.elim (fun e => absurd e (by decide)) f2, fun h => h.elim (fun e => absurd e (by decide)) (fun h => ⟨Or.inr (f3 h).1, (f3 h).2⟩), fun h => h.elim (fun e => absurd e (by decide)) (fun h => ⟨Or.inr (f4 h).1, (f4 h).2⟩)⟩
      · -- 1
        have d0 := f0 (hd' 0 (by kernel_rfl))
        refine wpOp_step rfl (fun K hK => ?_)
        have hK : Shut _ := hK
        subst d0
        go_wp2_with (go_at_call 105; refine (store_own (curV L b) (curC l b).c (curC l b).i wz (hkv.c.below hbz (Nat.le_refl _)) (hkv.i.below hbz (Nat.le_refl _)) (by have := hkv.c.len; have := hgk.c; omega) (by have : (curC l b).i.length = (curV L b).i.n := hkv.i.len; have := hgk.i; omega)).mono ?_; rintro e wy ⟨y, rfl, hyd, hyc, hyi, hbs⟩)
        try simp only [Act.put, List.getElem_toArray, List.getElem_cons_succ, List.getElem_cons_zero, List.setIfInBounds_toArray, List.set_cons_zero, List.set_cons_succ]
        exact ⟨_, _, _, _, _, _, _, rfl, ⟨hbz.trans (hbs.mono hbz.size), Nat.le_trans hsz2 hbs.size, b1.below hbs b1.lt, b2.below hbs b2.lt, b3.below hbs b3.lt, (hbs.block D (Array.getElem?_eq_some_iff.1 bD).1).trans bD⟩, fun _ => rfl, fun _ => ⟨y, rfl, hyd.trans hkv.d, own_low hyc hsz2, own_low hyi hsz2⟩, fun h => h.elim (fun e => absurd e (by decide)) f2, fun h => h.elim (fun e => absurd e (by decide)) (fun h => absurd (f3 h).1 hn), fun h => h.elim (fun e => absurd e (by decide)) (fun h => ⟨Or.inr (f4 h).1, (f4 h).2⟩)⟩
      · -- 2
        refine wpOp_step rfl (fun K hK => ?_)
        have hK : Shut _ := hK
        have c0 : wz.cell? ⟨w.heap.size + 1 + 1 + 1, 0, none⟩ = some (.bool b.isSome) := b3.cell 0
        go_simp
        try simp only [Act.put, List.getElem_toArray, List.getElem_cons_succ, List.getElem_cons_zero, List.setIfInBounds_toArray, List.set_cons_zero, List.set_cons_succ]
        refine hK.out _ _ ⟨_, _, _, _, _, _, _, rfl, ⟨hbz, hsz2, b1, b2, b3, bD⟩, fun h => h.elim (fun e => absurd e (by decide)) f0, fun h => h.elim (fun e => absurd e (by decide)) f1, fun _ => rfl, fun h => h.elim (fun e => absurd e (by decide)) (fun h => ⟨Or.inr (f3 h).1, (f3 h).2⟩), fun h => h.elim (fun e => absurd e (by decide)) (fun h => absurd (f4 h).1 hn)⟩
      · -- 3
        have d1 := f1 (hd' 1 (by kernel_rfl))
        refine wpOp_step rfl (fun K hK => ?_)
        have hK : Shut _ := hK
        have m1 : D_ 1 := hd' 1 (by kernel_rfl)
        obtain ⟨y, rfl, hyd, hyc, hyi⟩ := d1
        have c0 : wz.cell? ⟨w.heap.size + 1, 0, none⟩ = some u0 := b1.cell 0
        have c1 : wz.cell? ⟨w.heap.size + 1, 1, none⟩ = some u1 := b1.cell 1
        have c2 : wz.cell? ⟨w.heap.size + 1, 2, none⟩ = some u2 := b1.cell 2
        have y0 := b1.frozen 0
        have y1 := b1.frozen 1
        have y2 := b1.frozen 2
        have hl1 : w.heap.size ≤ w.heap.size + 1 := by omega
        have hl2 : w.heap.size + 1 < w.heap.size + 4 := by omega
        have hDne : D ≠ w.heap.size + 1 := by intro e; subst e; unfold Blk at b1; rw [b1] at bD; cases bD
        have n1 := hide (((hbz.setCell (p := ⟨w.heap.size + 1, 0, none⟩) hl1 (y.c.val)).setCell (p := ⟨w.heap.size + 1, 1, none⟩) hl1 (.int .i64 y.d)).setCell (p := ⟨w.heap.size + 1, 2, none⟩) hl1 (y.i.val))
        have n2 : Hid (Blk (((wz.setCell ⟨w.heap.size + 1, 0, none⟩ y.c.val).setCell ⟨w.heap.size + 1, 1, none⟩ (.int .i64 y.d)).setCell ⟨w.heap.size + 1, 2, none⟩ y.i.val) (w.heap.size + 1) 66 #[y.c.val, .int .i64 y.d, y.i.val]) := by have := (((b1.set_ 0 (y.c.val)).set_ 1 (.int .i64 y.d)).set_ 2 (y.i.val)); exact hide this
        have n3 := hide (((b2.far (p := ⟨w.heap.size + 1, 0, none⟩) (by simp <;> omega) (y.c.val)).far (p := ⟨w.heap.size + 1, 1, none⟩) (by simp <;> omega) (.int .i64 y.d)).far (p := ⟨w.heap.size + 1, 2, none⟩) (by simp <;> omega) (y.i.val))
        have n4 := hide (((b3.far (p := ⟨w.heap.size + 1, 0, none⟩) (by simp <;> omega) (y.c.val)).far (p := ⟨w.heap.size + 1, 1, none⟩) (by simp <;> omega) (.int .i64 y.d)).far (p := ⟨w.heap.size + 1, 2, none⟩) (by simp <;> omega) (y.i.val))
        have n5 := hide (ownsRow_setCell_below (ownsRow_setCell_below (ownsRow_setCell_below hyc (a := ⟨w.heap.size + 1, 0, none⟩) hl2 (y.c.val)) (a := ⟨w.heap.size + 1, 1, none⟩) hl2 (.int .i64 y.d)) (a := ⟨w.heap.size + 1, 2, none⟩) hl2 (y.i.val))
        have n6 := hide (ownsRow_setCell_below (ownsRow_setCell_below (ownsRow_setCell_below hyi (a := ⟨w.heap.size + 1, 0, none⟩) hl2 (y.c.val)) (a := ⟨w.heap.size + 1, 1, none⟩) hl2 (.int .i64 y.d)) (a := ⟨w.heap.size + 1, 2, none⟩) hl2 (y.i.val))
        have hyd2 := hide hyd
        clear hyd
        go_simp
        try simp only [Act.put, List.getElem_toArray, List.getElem_cons_succ, List.getElem_cons_zero, List.setIfInBounds_toArray, List.set_cons_zero, List.set_cons_succ]
        refine hK.out _ _ ⟨_, _, _, _, _, _, _, rfl, ⟨n1.out, by simpa using hsz2, n2.out, n3.out, n4.out, by rw [Below.heap_setCell _ _ _ _ (by simpa using hDne), Below.heap_setCell _ _ _ _ (by simpa using hDne), Below.heap_setCell _ _ _ _ (by simpa using hDne)]; exact bD⟩, fun h => h.elim (fun e => absurd e (by decide)) f0, fun _ => ⟨y, rfl, hyd2.out, n5.out, n6.out⟩, fun h => h.elim (fun e => absurd e (by decide)) f2, fun _ => ⟨Or.inr m1, rfl⟩, fun h => h.elim (fun e => absurd e (by decide)) (fun h => ⟨Or.inr (f4 h).1, (f4 h).2⟩)⟩
      · -- 4
        have d2 := f2 (hd' 2 (by kernel_rfl))
        refine wpOp_step rfl (fun K hK => ?_)
        have hK : Shut _ := hK
        have m2 : D_ 2 := hd' 2 (by kernel_rfl)
        subst d2
        go_simp
        try simp only [Act.put, List.getElem_toArray, List.getElem_cons_succ, List.getElem_cons_zero, List.setIfInBounds_toArray, List.set_cons_zero, List.set_cons_succ]
        refine hK.out _ _ ⟨_, _, _, _, _, _, _, rfl, ⟨hbz, hsz2, b1, b2, b3, bD⟩, fun h => h.elim (fun e => absurd e (by decide)) f0, fun h => h.elim (fun e => absurd e (by decide)) f1, fun _ => rfl, fun h => h.elim (fun e => absurd e (by decide)) (fun h => ⟨Or.inr (f3 h).1, (f3 h).2⟩), fun _ => ⟨Or.inr m2, rfl⟩⟩
    case hdone =>
      rintro D_ az wz hDD ⟨x5, x30, x31, x32, u0, u1, u2, rfl, ⟨hbz, hsz2, b1, b2, b3, bD⟩, f0, f1, f2, f3, f4⟩
      have d0 := f0 (hDD 0)
      have d1 := f1 (hDD 1)
      have d2 := f2 (hDD 2)
      have d3 := f3 (hDD 3)
      have d4 := f4 (hDD 4)
      clear f0 f1 f2 f3 f4
      dsimp only
      obtain ⟨y, rfl, hyd, hyc, hyi⟩ := d1
      have hyd := hide hyd
      obtain ⟨_, rfl⟩ := d4
      obtain ⟨_, he⟩ := d3
      injection he with he
      have e0 : y.c.val = u0 := by injection he with he; injection he
      have e1 : Value.int .i64 y.d = u1 := by injection he with he; injection he with _ he; injection he
      have e2 : y.i.val = u2 := by injection he with he; injection he with _ he; injection he with _ he; injection he
      subst e0 e1 e2 d2
      clear he d0
      have k0 : wz.cell? ⟨w.heap.size + 1, 0, none⟩ = some y.c.val := b1.cell 0
      have k1 : wz.cell? ⟨w.heap.size + 1, 1, none⟩ = some (.int .i64 y.d) := b1.cell 1
      have k2 : wz.cell? ⟨w.heap.size + 1, 2, none⟩ = some y.i.val := b1.cell 2
      gi_wp2
      refine ⟨by simp, .inl ⟨_, _, rfl, run_takeDeferred bD, ?_⟩⟩
      have hgr := grownBy_putObj' wz D (.deferred none)
      have hro : ∀ r, some D = some r → ∃ o : Obj, wz.heap[r]? = some o ∧ o.isCells = false := fun r e => by cases e; exact ⟨_, bD, rfl⟩
      have b1' := blk_own b1 hgr hro
      have k0 : (wz.putObj D (.deferred none)).cell? ⟨w.heap.size + 1, 0, none⟩ = some y.c.val := b1'.cell 0
      have k1 : (wz.putObj D (.deferred none)).cell? ⟨w.heap.size + 1, 1, none⟩ = some (.int .i64 y.d) := b1'.cell 1
      have k2 : (wz.putObj D (.deferred none)).cell? ⟨w.heap.size + 1, 2, none⟩ = some y.i.val := b1'.cell 2
      refine ⟨.tuple #[.agg y.cells, .bool b.isSome], ?_, ?_⟩
      · simp [results, Try.results50, go_sem, k0, k1, k2]
      · have hlow : w.heap.size ≤ D := by have := hI0.bel.size; omega
        refine ⟨y, by rw [hbe.out]; simp, ?_⟩
        rw [hbe.out, cur_getD]
        exact ⟨hyd.out, own_low (ownsRow_putObj hyc _ bD rfl) (by omega), own_low (ownsRow_putObj hyi _ bD rfl) (by omega), hbz.trans (belowK_b (w := w) (Nat.le_refl _) wz D _ _ hlow bD rfl rfl)⟩
  case stop =>
    rintro D c pre W _ _ h _
    exact h.elim
theorem store_Find (q : Option Addr) (L : List Kv) (l : List Kc) (s : List Bool) (B : Option Addr) (m cd : Nat) (w : World) (hK : Keeps w.heap.size w q L) (hA : AllK w L l) (hrs : Rd w B m (bvs s)) (hm : m ≤ 1000000) (hg : GoodL l) (hL : L.length ≤ 1000000) :
    Calls Try.prog 50 #[.pointer q, .slice B m cd] w (FindIs ((bestN l s (List.range L.length)).map (kcAt l)) w)  :=
  store_FindE q L l s B m cd w hK hA hrs (fun _ => hm) hg hL
end Go.Proofs.Ytcjoohaagdihlaa.Kept
end

section
/- An argument that is a slice of kept cubes, read as a list. -/
namespace Go.Proofs.Ytcjoohaagdihlaa.Kept
open Go.RowKit Go.ChangeShapes Go.WideShapes Go.Deep Go.Lt Go.Proofs.Ytcjoohaagdihlaa.Lit Go.Proofs.Ytcjoohaagdihlaa.CubeHas
set_option linter.unusedVariables false
set_option linter.unusedSimpArgs false

theorem add_add (a : Addr) (n j : Nat) : (a.add n).add j = a.add (n + j) := by
  unfold Addr.add
  by_cases hn : n = 0 <;> by_cases hj : j = 0 <;> simp_all [Nat.add_assoc]
theorem list3 {cs : List Value} {a b c : Value} (hl : cs.length = 3) (h0 : (cs.drop 0).take 1 = [a]) (h1 : (cs.drop 1).take 1 = [b]) (h2 : (cs.drop 2).take 1 = [c]) : cs = [a, b, c] := by
  match cs, hl with
  | [x, y, z], _ => simp_all
section
variable {H : Type} {enc : TypeId × Value → H} {P : Program} {w : World} {base : Nat} {held : Bool}
theorem ints_cells {fuel : Nat} {t e : TypeId} {cs : List Value} {x : DataW H × List MemPlace} (ht : P.underlying t = some (.slice e)) (he : P.underlying e = some (.int .i64)) (hc : P.cellsOf e = 1)
    (h : DataW.trod enc P w base (fun _ => true) held fuel t cs = some x) :
    ∃ (a : Option Addr) (n c : Nat) (l : List Int), cs = [.slice a n c] ∧ n ≤ c ∧ c ≤ maxLen ∧ Rd w a n (ivs l) ∧ ∀ x ∈ l, (Lit.int .i64 x).wf = true := by
  rcases open_ints ht he hc h with ⟨hcs, _⟩ | ⟨x, n, c, zs, hcs, _, hl, hm, hz, _, hcell, hwz⟩
  · exact ⟨none, 0, 0, [], hcs, Nat.le_refl _, Nat.zero_le _, Rd.nil _ _, fun x hx => by cases hx⟩
  · have hz : zs.length = c := by simpa using hz
    refine ⟨some x, n, c, zs.take n, hcs, hl, hm, rd_cells (by simp [ivs]; omega) fun i u hu => ?_, fun y hy => hwz y (List.mem_of_mem_take hy)⟩
    have hi : i < n := by have := (List.getElem?_eq_some_iff.1 hu).1; simp [ivs] at this; omega
    rw [hcell i (by omega)]
    unfold ivs at hu
    rw [List.getElem?_map, List.getElem?_take, if_pos hi, List.getElem?_eq_getElem (by omega)] at hu
    rw [List.getD_eq_getElem?_getD, List.getElem?_eq_getElem (by omega)]
    exact hu
theorem bools_cells {fuel : Nat} {t e : TypeId} {cs : List Value} {x : DataW H × List MemPlace} (ht : P.underlying t = some (.slice e)) (he : P.underlying e = some .bool) (hc : P.cellsOf e = 1)
    (h : DataW.trod enc P w base (fun _ => true) held fuel t cs = some x) :
    ∃ (a : Option Addr) (n c : Nat) (l : List Bool), cs = [.slice a n c] ∧ n ≤ c ∧ c ≤ maxLen ∧ Rd w a n (bvs l) := by
  rcases open_bools ht he hc h with ⟨hcs, _⟩ | ⟨x, l, c', B, hcs, _, hl, hm, _, hcell⟩
  · exact ⟨none, 0, 0, [], hcs, Nat.le_refl _, Nat.zero_le _, Rd.nil _ _⟩
  · refine ⟨some x, l, c', (List.range l).map B, hcs, hl, hm, rd_cells (by simp [bvs]) fun i u hu => ?_⟩
    have hi : i < l := by have := (List.getElem?_eq_some_iff.1 hu).1; simpa [bvs] using this
    rw [hcell i (by omega)]
    unfold bvs at hu
    rw [List.getElem?_map, List.getElem?_map, List.getElem?_range hi] at hu
    exact hu
theorem open_kept_rd {r : Reach} {b0 : Nat} {t e eI eB : TypeId} {f0 f1 f2 : Field} {v : Value} {d : DataW H} {ps : List MemPlace} (ht : P.underlying t = some (.slice e)) (he : P.underlying e = some (.struct #[f0, f1, f2])) (hc : P.cellsOf e = 3)
    (h0 : P.underlying f0.type = some (.slice eI)) (hI : P.underlying eI = some (.int .i64)) (cI : P.cellsOf eI = 1) (h1 : P.underlying f1.type = some (.int .i64)) (h2 : P.underlying f2.type = some (.slice eB)) (hB : P.underlying eB = some .bool) (cB : P.cellsOf eB = 1) (c0 : P.cellsOf f0.type = 1) (c1 : P.cellsOf f1.type = 1) (c2 : P.cellsOf f2.type = 1) (o0 : f0.offset = 0) (o1 : f1.offset = 1) (o2 : f2.offset = 2)
    (hval : Value.okWide P w r b0 t v) (h : DataW.Trod enc P w base (fun _ => true) held t v d ps) :
    ∃ (a : Option Addr) (n c : Nat) (L : List Kv) (l : List Kc), v = .slice a n c ∧ n ≤ c ∧ c ≤ maxLen ∧ RdK w a n L ∧ AllK w L l ∧ (∀ k ∈ l, Wfs k.c) ∧ ∀ k ∈ l, (Lit.int .i64 k.d).wf = true := by
  obtain ⟨a, n, c, rfl⟩ := okWide_slice ht hval
  obtain ⟨fuel, hf⟩ := h
  rcases DataW.trod_slice ht hf with ⟨hcs, _⟩ | ⟨x, len, cap, elems, rest, k, _, hcs, _, _, hl, hm, hlen, hel, _, _⟩
  · simp [Value.cells] at hcs
    obtain ⟨rfl, rfl, rfl⟩ := hcs
    exact ⟨none, 0, 0, [], [], rfl, Nat.le_refl _, Nat.zero_le _, RdK.nil _ _, ⟨rfl, fun j hj => absurd hj (Nat.not_lt_zero _)⟩, fun x hx => (by cases hx), fun x hx => (by cases hx)⟩
  · simp [Value.cells] at hcs
    obtain ⟨rfl, rfl, rfl⟩ := hcs
    have each : ∀ i, ∃ z : Kv × Kc, i < n → w.cell? (x.add (i * 3)) = some z.1.c.val ∧ w.cell? (x.add (i * 3 + 1)) = some (.int .i64 z.1.d) ∧ w.cell? (x.add (i * 3 + 2)) = some z.1.i.val ∧ KvR w z.1 z.2 ∧ Wfs z.2.c ∧ (Lit.int .i64 z.2.d).wf = true := by
      intro i
      by_cases hi : i < n
      · have hE := hel i hi
        rw [hc, List.getElem?_eq_getElem (by omega), Option.bind_eq_some_iff] at hE
        obtain ⟨cs', hcs, hy⟩ := hE
        obtain ⟨_, _, hcell⟩ := World.cells?_some hcs
        obtain ⟨y0, y1, y2, m, _, hl2, hy0, hy1, hy2⟩ := trod_struct3 he hy
        rw [c0] at hy0
        rw [c2] at hy2
        obtain ⟨a0, n0, k0, l0, e0, _, _, r0, w0⟩ := ints_cells h0 hI cI hy0
        obtain ⟨q, e1, _, w1⟩ := DataW.trod_int h1 hy1
        obtain ⟨a2, n2, k2, l2, e2, _, _, r2⟩ := bools_cells h2 hB cB hy2
        rw [o0] at e0
        rw [o1, c1] at e1
        rw [o2] at e2
        have := list3 (by rw [hl2, hc]) e0 e1 e2
        subst this
        have g0 := hcell 0 (by omega)
        have g1 := hcell 1 (by omega)
        have g2 := hcell 2 (by omega)
        rw [add_add] at g0 g1 g2
        refine ⟨⟨⟨⟨a0, n0, k0⟩, q, ⟨a2, n2, k2⟩⟩, ⟨l0, q, l2⟩⟩, fun _ => ⟨g0, g1, g2, ⟨rfl, r0, r2⟩, fun y hy => ?_, w1⟩⟩
        have := w0 y hy
        simp [Lit.wf, IntKind.min, IntKind.max, IntKind.signed, IntKind.bits] at this
        omega
      · exact ⟨⟨zKv, zKc⟩, fun h => absurd h hi⟩
    obtain ⟨g, hg⟩ := Classical.axiomOfChoice each
    have e1 : ∀ i, i < n → kvAt ((List.range n).map fun i => (g i).1) i = (g i).1 := fun i hi => by
      unfold kvAt; rw [List.getD_eq_getElem?_getD, List.getElem?_map, List.getElem?_range hi]; rfl
    have e2 : ∀ i, i < n → kcAt ((List.range n).map fun i => (g i).2) i = (g i).2 := fun i hi => by
      unfold kcAt; rw [List.getD_eq_getElem?_getD, List.getElem?_map, List.getElem?_range hi]; rfl
    refine ⟨some x, n, c, (List.range n).map fun i => (g i).1, (List.range n).map fun i => (g i).2, rfl, hl, hm, ⟨by simp, fun i hi => ?_⟩, ⟨by simp, fun i hi => ?_⟩, fun z hz => ?_, fun z hz => ?_⟩
    · obtain ⟨g0, g1, g2, _⟩ := hg i hi
      refine ⟨x, (g i).1, rfl, ?_, by rw [List.getElem?_map, List.getElem?_range hi]; rfl, g0, g1, g2⟩
      have := World.block_lt_of_cell? w _ g0
      rwa [add_block] at this
    · have hi : i < n := by simpa using hi
      rw [e1 i hi, e2 i hi]
      exact (hg i hi).2.2.2.1
    · obtain ⟨i, hi, rfl⟩ := List.mem_map.1 hz
      exact (hg i (List.mem_range.1 hi)).2.2.2.2.1
    · obtain ⟨i, hi, rfl⟩ := List.mem_map.1 hz
      exact (hg i (List.mem_range.1 hi)).2.2.2.2.2
end
end Go.Proofs.Ytcjoohaagdihlaa.Kept
end

section
/- An argument that is a slice of clauses, read as a list of lists. -/
namespace Go.Proofs.Ytcjoohaagdihlaa.Learn
open Go.RowKit Go.ChangeShapes Go.WideShapes Go.Deep Go.Lt Go.Proofs.Ytcjoohaagdihlaa.Lit Go.Proofs.Ytcjoohaagdihlaa.CubeHas
open Go.Proofs.Ytcjoohaagdihlaa.Kept (Sl Sl.val ints_cells)
set_option linter.unusedVariables false
set_option linter.unusedSimpArgs false

section
variable {H : Type} {enc : TypeId × Value → H} {P : Program} {w : World} {base : Nat} {held : Bool}
theorem open_rows_rd {r : Reach} {b0 : Nat} {t e eI : TypeId} {v : Value} {d : DataW H} {ps : List MemPlace} (ht : P.underlying t = some (.slice e)) (he : P.underlying e = some (.slice eI)) (hc : P.cellsOf e = 1) (hI : P.underlying eI = some (.int .i64)) (cI : P.cellsOf eI = 1)
    (hval : Value.okWide P w r b0 t v) (h : DataW.Trod enc P w base (fun _ => true) held t v d ps) :
    ∃ (a : Option Addr) (n c : Nat) (l : List (List Int)), v = .slice a n c ∧ n ≤ c ∧ c ≤ maxLen ∧ RdR w a n l := by
  obtain ⟨a, n, c, rfl⟩ := okWide_slice ht hval
  obtain ⟨fuel, hf⟩ := h
  rcases DataW.trod_slice ht hf with ⟨hcs, _⟩ | ⟨x, len, cap, elems, rest, k, _, hcs, _, _, hl, hm, hlen, hel, _, _⟩
  · simp [Value.cells] at hcs
    obtain ⟨rfl, rfl, rfl⟩ := hcs
    exact ⟨none, 0, 0, [], rfl, Nat.le_refl _, Nat.zero_le _, ⟨rfl, fun k hk => absurd hk (Nat.not_lt_zero _)⟩⟩
  · simp [Value.cells] at hcs
    obtain ⟨rfl, rfl, rfl⟩ := hcs
    have each : ∀ i, ∃ z : List Int × Sl, i < n → w.cell? (x.add i) = some z.2.val ∧ Rd w z.2.A z.2.n (ivs z.1) := by
      intro i
      by_cases hi : i < n
      · have hE := hel i hi
        rw [hc, List.getElem?_eq_getElem (by omega), Option.bind_eq_some_iff] at hE
        obtain ⟨cs', hcs, hy⟩ := hE
        obtain ⟨_, _, hcell⟩ := World.cells?_some hcs
        obtain ⟨a2, n2, k2, l2, e2, _, _, r2, w2⟩ := ints_cells he hI cI hy
        subst e2
        have g0 := hcell 0 (by omega)
        rw [Kept.add_add] at g0
        exact ⟨⟨l2, ⟨a2, n2, k2⟩⟩, fun _ => ⟨by simpa using g0, r2⟩⟩
      · exact ⟨⟨[], ⟨none, 0, 0⟩⟩, fun h => absurd h hi⟩
    obtain ⟨g, hg⟩ := Classical.axiomOfChoice each
    refine ⟨some x, n, c, (List.range n).map fun i => (g i).1, rfl, hl, hm, ⟨by simp, fun i hi => ?_⟩⟩
    obtain ⟨g0, g1⟩ := hg i hi
    refine ⟨x, (g i).1, (g i).2, rfl, ?_, by rw [List.getElem?_map, List.getElem?_range hi]; rfl, g0, g1⟩
    have := World.block_lt_of_cell? w _ g0
    rwa [add_block] at this
end
end Go.Proofs.Ytcjoohaagdihlaa.Learn
end
