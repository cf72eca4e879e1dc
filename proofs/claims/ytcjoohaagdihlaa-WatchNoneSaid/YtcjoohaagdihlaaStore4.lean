/- What a store has of a state: the cube of the least depth. -/
import Derived.Test.YtcjoohaagdihlaaStore1
import Derived.Test.YtcjoohaagdihlaaStore3
import Derived.Test.YtcjoohaagdihlaaCubeHas
import Derived.Test.YtcjoohaagdihlaaRegInv2
namespace Go.Proofs.Ytcjoohaagdihlaa.Kept
open Go.RowKit Go.Shelf Go.Lt Go.Proofs.Ytcjoohaagdihlaa.Lit Go.Proofs.Ytcjoohaagdihlaa.CubeHas
set_option linter.unusedVariables false
set_option linter.unusedSimpArgs false
attribute [local go_sem] Oper.semAt_some

def zKc : Kc := ⟨[], 0, []⟩
def kcAt (l : List Kc) (i : Nat) : Kc := l.getD i zKc
/-- the best one so far -/
def stepB (l : List Kc) (s : List Bool) (b : Option Nat) (i : Nat) : Option Nat :=
  if hasS (kcAt l i).c s && (match b with | none => true | some j => decide ((kcAt l i).d < (kcAt l j).d)) then some i else b
def bestN (l : List Kc) (s : List Bool) (pre : List Nat) : Option Nat := pre.foldl (stepB l s) none
theorem bestN_snoc (l : List Kc) (s : List Bool) (pre : List Nat) (i : Nat) : bestN l s (pre ++ [i]) = stepB l s (bestN l s pre) i := by simp [bestN]
theorem stepB_no {l : List Kc} {s : List Bool} {b : Option Nat} {i : Nat} (h : hasS (kcAt l i).c s = false) : stepB l s b i = b := by simp [stepB, h]
theorem stepB_none {l : List Kc} {s : List Bool} {i : Nat} (h : hasS (kcAt l i).c s = true) : stepB l s none i = some i := by simp [stepB, h]
theorem stepB_lt {l : List Kc} {s : List Bool} {i j : Nat} (h : hasS (kcAt l i).c s = true) (hd : (kcAt l i).d < (kcAt l j).d) : stepB l s (some j) i = some i := by simp [stepB, h, hd]
theorem stepB_ge {l : List Kc} {s : List Bool} {i j : Nat} (hd : ¬ (kcAt l i).d < (kcAt l j).d) : stepB l s (some j) i = some j := by simp [stepB, hd]
theorem ite_or {α : Type} {c : Prop} [Decidable c] (a b : α) : (if c then a else b) = a ∨ (if c then a else b) = b := by by_cases h : c <;> simp [h]
theorem stepB_or (l : List Kc) (s : List Bool) (b : Option Nat) (i : Nat) : stepB l s b i = some i ∨ stepB l s b i = b := ite_or _ _
theorem foldB_mem {l : List Kc} {s : List Bool} {j : Nat} : ∀ (pre : List Nat) (b : Option Nat), pre.foldl (stepB l s) b = some j → b = some j ∨ j ∈ pre
  | [], _, h => .inl h
  | i :: pre, b, h => by
    rcases foldB_mem pre _ h with h1 | h1
    · rcases stepB_or l s b i with h2 | h2
      · rw [h2] at h1; injection h1 with h1; subst h1; exact .inr (by simp)
      · rw [h2] at h1; exact .inl h1
    · exact .inr (List.mem_cons_of_mem _ h1)
theorem bestN_mem {l : List Kc} {s : List Bool} {j : Nat} (pre : List Nat) (h : bestN l s pre = some j) : j ∈ pre := by
  rcases foldB_mem pre none h with h1 | h1
  · cases h1
  · exact h1
/-- one that is kept reads as this -/
structure KvR (w : World) (x : Kv) (k : Kc) : Prop where
  d : x.d = k.d
  c : Rd w x.c.A x.c.n (ivs k.c)
  i : Rd w x.i.A x.i.n (bvs k.i)
theorem KvR.below {w w' : World} {x : Kv} {k : Kc} {B : Nat} (h : KvR w x k) (hb : Below B w w') (hB : w.heap.size ≤ B) : KvR w' x k := ⟨h.d, h.c.below hb hB, h.i.below hb hB⟩
/-- all of them -/
def AllK (w : World) (L : List Kv) (l : List Kc) : Prop := L.length = l.length ∧ ∀ j, j < L.length → KvR w (kvAt L j) (kcAt l j)
theorem AllK.below {w w' : World} {L : List Kv} {l : List Kc} {B : Nat} (h : AllK w L l) (hb : Below B w w') (hB : w.heap.size ≤ B) : AllK w' L l := ⟨h.1, fun j hj => (h.2 j hj).below hb hB⟩
/-- numbers of 64 bits, and not too many -/
structure GoodK (k : Kc) : Prop where
  c : k.c.length ≤ 100000
  i : k.i.length ≤ 100000
  w : Wfs k.c
def GoodL (l : List Kc) : Prop := ∀ k ∈ l, GoodK k
theorem GoodL.at {l : List Kc} (h : GoodL l) {j : Nat} (hj : j < l.length) : GoodK (kcAt l j) := by
  have : kcAt l j = l[j] := by simp [kcAt, List.getD, hj]
  rw [this]
  exact h _ (List.getElem_mem _)
def curV (L : List Kv) : Option Nat → Kv
  | none => zKv
  | some j => kvAt L j
def curC (l : List Kc) : Option Nat → Kc
  | none => zKc
  | some j => kcAt l j
theorem blk_own {W W' : World} {row : Option Nat} {g : Nat} {t : TypeId} {cs : Array Value} (h : Blk W g t cs) (hg : W.grownBy W' row) (hr : ∀ r, row = some r → ∃ o : Obj, W.heap[r]? = some o ∧ o.isCells = false) : Blk W' g t cs :=
  h.grown hg (fun e => by
    obtain ⟨o, ho, hc⟩ := hr g e.symm
    unfold Blk at h
    rw [h] at ho
    injection ho with ho
    subst ho
    cases hc)
theorem keeps_below {B : Nat} {W W' : World} (h : Below W.heap.size W W') : KeepsFrom B W W' := ⟨h.size, fun k o _ hk _ => (h.block k (Array.getElem?_eq_some_iff.1 hk).1).trans hk⟩
def FindIs (r : Option Kc) (w : World) (e : Ending) (w' : World) : Prop := ∃ x : Kv, e = .returned (.tuple #[.agg x.cells, .bool r.isSome]) ∧ x.d = (r.getD zKc).d ∧ w'.ownsRow w.heap.size 3 1 x.c.val (ivs (r.getD zKc).c).length (ivs (r.getD zKc).c) ∧ w'.ownsRow w.heap.size 4 1 x.i.val (bvs (r.getD zKc).i).length (bvs (r.getD zKc).i) ∧ Below w.heap.size w w'
def Z3 : Array Value := #[.slice none 0 0, .int .i64 0, .slice none 0 0]
/-- what is known between the rounds -/
structure Fx (w : World) (st : Value) (v : Kv) (f : Bool) (W : World) : Prop where
  bel : Below w.heap.size w W
  b0 : Blk W w.heap.size 59 #[st]
  b1 : Blk W (w.heap.size + 1) 66 Z3
  b2 : Blk W (w.heap.size + 1 + 1) 66 v.cells
  b3 : Blk W (w.heap.size + 1 + 1 + 1) 4 #[.bool f]
theorem Fx.step {w W W' : World} {st : Value} {v : Kv} {f : Bool} (h : Fx w st v f W) (hb : Below W.heap.size W W') : Fx w st v f W' :=
  ⟨h.bel.trans (hb.mono h.bel.size), h.b0.below hb h.b0.lt, h.b1.below hb h.b1.lt, h.b2.below hb h.b2.lt, h.b3.below hb h.b3.lt⟩
theorem Fx.own {w W W' : World} {st : Value} {v : Kv} {f : Bool} {row : Option Nat} {n : Nat} (h : Fx w st v f W) (hn : w.heap.size ≤ n) (hg : W.grownBy W' row) (hr : ∀ r, row = some r → n ≤ r ∧ ∃ o : Obj, W.heap[r]? = some o ∧ o.isCells = false) : Fx w st v f W' :=
  have hr' : ∀ r, row = some r → ∃ o : Obj, W.heap[r]? = some o ∧ o.isCells = false := fun r e => (hr r e).2
  ⟨h.bel.grown hg h.bel.size (fun k e => Nat.le_trans hn (hr k e).1), blk_own h.b0 hg hr', blk_own h.b1 hg hr', blk_own h.b2 hg hr', blk_own h.b3 hg hr'⟩
theorem Fx.set {w W : World} {st : Value} {v : Kv} {f : Bool} (x : Kv) (h : Fx w st v f W) :
    Fx w st x true ((((W.setCell ⟨w.heap.size + 1 + 1, 0, none⟩ x.c.val).setCell ⟨w.heap.size + 1 + 1, 1, none⟩ (.int .i64 x.d)).setCell ⟨w.heap.size + 1 + 1, 2, none⟩ x.i.val).setCell ⟨w.heap.size + 1 + 1 + 1, 0, none⟩ (.bool true)) where
  bel := (((h.bel.setCell (p := ⟨w.heap.size + 1 + 1, 0, none⟩) (by show w.heap.size ≤ w.heap.size + 1 + 1; omega) _).setCell (p := ⟨w.heap.size + 1 + 1, 1, none⟩) (by show w.heap.size ≤ w.heap.size + 1 + 1; omega) _).setCell (p := ⟨w.heap.size + 1 + 1, 2, none⟩) (by show w.heap.size ≤ w.heap.size + 1 + 1; omega) _).setCell (p := ⟨w.heap.size + 1 + 1 + 1, 0, none⟩) (by show w.heap.size ≤ w.heap.size + 1 + 1 + 1; omega) _
  b0 := (((h.b0.far (by simp <;> omega) _).far (by simp <;> omega) _).far (by simp <;> omega) _).far (by simp <;> omega) _
  b1 := (((h.b1.far (by simp) _).far (by simp) _).far (by simp) _).far (by simp <;> omega) _
  b2 := by
    have := (((h.b2.set_ 0 x.c.val).set_ 1 (.int .i64 x.d)).set_ 2 x.i.val).far (p := ⟨w.heap.size + 1 + 1 + 1, 0, none⟩) (by simp) (.bool true)
    simpa using this
  b3 := by
    have := (((h.b3.far (p := ⟨w.heap.size + 1 + 1, 0, none⟩) (by simp) x.c.val).far (p := ⟨w.heap.size + 1 + 1, 1, none⟩) (by simp) (.int .i64 x.d)).far (p := ⟨w.heap.size + 1 + 1, 2, none⟩) (by simp) x.i.val).set_ 0 (.bool true)
    simpa using this
theorem set_keeps {w W : World} (B : Nat) (x : Kv) : KeepsFrom B W ((((W.setCell ⟨w.heap.size + 1 + 1, 0, none⟩ x.c.val).setCell ⟨w.heap.size + 1 + 1, 1, none⟩ (.int .i64 x.d)).setCell ⟨w.heap.size + 1 + 1, 2, none⟩ x.i.val).setCell ⟨w.heap.size + 1 + 1 + 1, 0, none⟩ (.bool true)) := ((((KeepsOthers.setCell _ _ _).trans (KeepsOthers.setCell _ _ _)).trans (KeepsOthers.setCell _ _ _)).trans (KeepsOthers.setCell _ _ _)).from _
theorem set_below {w W : World} (x : Kv) : Below w.heap.size W ((((W.setCell ⟨w.heap.size + 1 + 1, 0, none⟩ x.c.val).setCell ⟨w.heap.size + 1 + 1, 1, none⟩ (.int .i64 x.d)).setCell ⟨w.heap.size + 1 + 1, 2, none⟩ x.i.val).setCell ⟨w.heap.size + 1 + 1 + 1, 0, none⟩ (.bool true)) :=
  ((((Below.refl w.heap.size W).setCell (p := ⟨w.heap.size + 1 + 1, 0, none⟩) (by show w.heap.size ≤ w.heap.size + 1 + 1; omega) _).setCell (p := ⟨w.heap.size + 1 + 1, 1, none⟩) (by show w.heap.size ≤ w.heap.size + 1 + 1; omega) _).setCell (p := ⟨w.heap.size + 1 + 1, 2, none⟩) (by show w.heap.size ≤ w.heap.size + 1 + 1; omega) _).setCell (p := ⟨w.heap.size + 1 + 1 + 1, 0, none⟩) (by show w.heap.size ≤ w.heap.size + 1 + 1 + 1; omega) _
theorem KvR.cur {w : World} {L : List Kv} {l : List Kc} (h : AllK w L l) (b : Option Nat) (hb : ∀ j, b = some j → j < L.length) : KvR w (curV L b) (curC l b) := by
  cases b with
  | none => exact ⟨rfl, Rd.nil w none, Rd.nil w none⟩
  | some j => exact h.2 j (hb j rfl)
theorem GoodL.cur {L : List Kv} {l : List Kc} (h : GoodL l) (hl : L.length = l.length) (b : Option Nat) (hb : ∀ j, b = some j → j < L.length) : GoodK (curC l b) := by
  cases b with
  | none => exact ⟨Nat.zero_le _, Nat.zero_le _, fun x hx => by cases hx⟩
  | some j => exact h.at (by have := hb j rfl; omega)
theorem cur_getD (l : List Kc) (b : Option Nat) : ((b.map (kcAt l)).getD zKc) = curC l b := by cases b <;> rfl
set_option maxRecDepth 8000 in
set_option maxHeartbeats 4000000 in
theorem store_FindE (q : Option Addr) (L : List Kv) (l : List Kc) (s : List Bool) (B : Option Addr) (m cd : Nat) (w : World) (hK : Keeps w.heap.size w q L) (hA : AllK w L l) (hrs : Rd w B m (bvs s)) (hm : L.length ≠ 0 → m ≤ 1000000) (hg : GoodL l) (hL : L.length ≤ 1000000) :
    Calls Try.prog 50 #[.pointer q, .slice B m cd] w (FindIs ((bestN l s (List.range L.length)).map (kcAt l)) w) := by
  refine (callsIn_wide (n := 10)).1 ?_
  refine callsIn_of_wp_marks Try.func50 rfl trivial ?_ rfl
  simp only [Try.ntmps50, List.size_toArray, List.length_cons, List.length_nil, Nat.reduceAdd, Nat.reduceSub, Array.replicate_succ, Array.replicate_zero, List.push_toArray, List.append_toArray, List.nil_append, List.cons_append]
  gi_wp2_with (refine ⟨trivial, ?_⟩; gi_at_call 101; refine (all_in Fence.wide _ trivial rfl _ _).mono ?_; rintro e w' ⟨rfl, rfl⟩)
  obtain ⟨W0, hW0⟩ : ∃ W0, (((((w.alloc (.cells #[.slice B m cd] 59)).alloc (.cells Z3 66)).alloc (.cells Z3 66)).alloc (.cells #[.bool false] 4)).alloc (.cells #[.pointer q] 61)) = W0 := ⟨_, rfl⟩
  have hI0 : Fx w (.slice B m cd) zKv false W0 ∧ Blk W0 (w.heap.size + 1 + 1 + 1 + 1) 61 #[.pointer q] ∧ W0.heap.size = w.heap.size + 5 := by
    subst hW0
    have e0 := Blk.new w 59 #[.slice B m cd]
    have e1 := Blk.new (w.alloc (.cells #[.slice B m cd] 59)) 66 Z3
    have e2 := Blk.new ((w.alloc (.cells #[.slice B m cd] 59)).alloc (.cells Z3 66)) 66 Z3
    have e3 := Blk.new (((w.alloc (.cells #[.slice B m cd] 59)).alloc (.cells Z3 66)).alloc (.cells Z3 66)) 4 #[.bool false]
    have e4 := Blk.new ((((w.alloc (.cells #[.slice B m cd] 59)).alloc (.cells Z3 66)).alloc (.cells Z3 66)).alloc (.cells #[.bool false] 4)) 61 #[.pointer q]
    simp only [World.size_alloc] at e1 e2 e3 e4
    exact ⟨⟨((((((Below.refl _ w).alloc (Nat.le_refl _) _).alloc (by simp) _).alloc (by simp; omega) _).alloc (by simp; omega) _).alloc (by simp; omega) _), (((e0.alloc _).alloc _).alloc _).alloc _, ((e1.alloc _).alloc _).alloc _, (e2.alloc _).alloc _, e3.alloc _⟩, e4, by simp⟩
  obtain ⟨hI0, hb4, hsz⟩ := hI0
  unfold Z3 at hW0
  simp only [hW0]
  clear hW0
  refine wpIn_rangeFunc_ownH rfl (by omega) (gf := 134) (lb := #[.pointer (some ⟨w.heap.size + 1 + 1 + 1 + 1, 0, none⟩)]) rfl trivial (enters_of Try.func134 (by kernel_rfl) rfl)
    (all_stops Fence.wide _ trivial rfl (by omega) (w.heap.size + 1 + 1 + 1 + 1) w.heap.size q L hL W0 (by omega) (by omega) (hb4.cell 0) (hK.below hI0.bel (by omega))) belowK_t (belowK_b (by omega)) (Below.refl _ _) (fun _ => rfl)
    (fun pre W => Fx w (.slice B m cd) (curV L (bestN l s (pre.map Fin.val))) (bestN l s (pre.map Fin.val)).isSome W)
    (fun _ _ _ => False)
    (fun pre X Y row hs hg hr => hs.own (by omega) hg hr)
    (fun _ _ _ _ _ hs _ _ => hs)
    hI0
    (fun x a' W => ∃ Bx, w.heap.size + 4 ≤ Bx ∧ Blk W Bx 66 (kvAt L x.1).cells ∧ a' = { tmps := #[.pointer q, .slice B m cd, undef, .pointer (some ⟨w.heap.size, 0, none⟩), .pointer (some ⟨w.heap.size + 1, 0, none⟩), .bool false, .pointer (some ⟨w.heap.size + 1 + 1, 0, none⟩), .pointer (some ⟨w.heap.size + 1 + 1 + 1, 0, none⟩), undef, .pointer (some ⟨Bx, 0, none⟩), .pointer q, .func (.func 134) #[] #[.pointer (some ⟨w.heap.size + 1 + 1 + 1 + 1, 0, none⟩)], .int .i64 (x.1 : Int), .agg (kvAt L x.1).cells, undef, undef, undef, undef, undef, undef, undef, undef, undef, undef, undef, undef, undef, undef, undef, undef, undef, undef, undef], defers := [] })
    (fun x a' _ X Y row hs hg hr => by obtain ⟨Bx, h1, h2, h3⟩ := hs; exact ⟨Bx, h1, blk_own h2 hg (fun r e => (hr r e).2), h3⟩)
    ?assign ?body ?done ?stop
  case assign =>
    rintro l0 pre x W K hI hK
    have hbs := hI.bel.size
    have hb3 := hI.b3.lt
    dsimp only [encsF]
    gi_wp2
    exact hK _ _ ((KeepsOthers.alloc _ _).from _) ((Below.refl _ W).alloc hbs _) (hI.step ((Below.refl _ W).alloc (Nat.le_refl _) _)) ⟨W.heap.size, by have := hI.b3.lt; omega, Blk.new W _ _, rfl⟩
  case body =>
    rintro l0 pre x a' W hl ⟨r, hr⟩ hI ⟨Bx, hBx, bX, rfl⟩ hlt
    have hkv := (hA.2 x.1 x.2).below hI.bel (Nat.le_refl _)
    have hgk := hg.at (j := x.1) (by have := hA.1; have := x.2; omega)
    have hst := hrs.below hI.bel (Nat.le_refl _)
    generalize hxv : kvAt L x.1 = xv at *
    have hcl := hkv.c.len
    have hhas := cube_Has xv.c.A B xv.c.n m xv.c.c cd (kcAt l x.1).c s W (by have := hgk.c; omega) (hm (by have := x.2; omega)) hkv.c hst hgk.w
    have cX0 : W.cell? ⟨Bx, 0, none⟩ = some (.slice xv.c.A xv.c.n xv.c.c) := bX.cell 0
    have cX1 : W.cell? ⟨Bx, 1, none⟩ = some (.int .i64 xv.d) := bX.cell 1
    have cX2 : W.cell? ⟨Bx, 2, none⟩ = some (.slice xv.i.A xv.i.n xv.i.c) := bX.cell 2
    have cS : W.cell? ⟨w.heap.size, 0, none⟩ = some (.slice B m cd) := hI.b0.cell 0
    have cF : W.cell? ⟨w.heap.size + 1 + 1 + 1, 0, none⟩ = some (.bool (bestN l s (pre.map Fin.val)).isSome) := hI.b3.cell 0
    have fF := hI.b3.frozen 0
    have hb' : bestN l s ((pre ++ [x]).map Fin.val) = stepB l s (bestN l s (pre.map Fin.val)) x.1 := by rw [List.map_append, List.map_cons, List.map_nil, bestN_snoc]
    have hbm : ∀ j, bestN l s (pre.map Fin.val) = some j → j < L.length := fun j hj => by
      obtain ⟨y, _, hy⟩ := List.mem_map.1 (bestN_mem _ hj)
      rw [← hy]; exact y.2
    generalize bestN l s (pre.map Fin.val) = b at hI hb' hbm cF
    have cB0 : W.cell? ⟨w.heap.size + 1 + 1, 0, none⟩ = some (.slice (curV L b).c.A (curV L b).c.n (curV L b).c.c) := hI.b2.cell 0
    have cB1 : W.cell? ⟨w.heap.size + 1 + 1, 1, none⟩ = some (.int .i64 (curV L b).d) := hI.b2.cell 1
    have cB2 : W.cell? ⟨w.heap.size + 1 + 1, 2, none⟩ = some (.slice (curV L b).i.A (curV L b).i.n (curV L b).i.c) := hI.b2.cell 2
    have fB0 := hI.b2.frozen 0
    have fB1 := hI.b2.frozen 1
    have fB2 := hI.b2.frozen 2
    have hN : 1 ≤ 10 - 1 - 1 := by omega
    cases hh : hasS (kcAt l x.1).c s with
    | false =>
      rw [stepB_no hh] at hb'
      rw [hh] at hhas
      gi_wp2_with (refine ⟨trivial, ?_⟩; gi_at_call 106; refine (CallsIn.inRound l0 (callsIn_wide.2 hhas)).mono ?_; rintro e w' ⟨rfl, rfl⟩)
      exact ⟨KeepsFrom.refl _ _, Below.refl _ _, by show Fx w _ (curV L (bestN l s ((pre ++ [x]).map Fin.val))) (bestN l s ((pre ++ [x]).map Fin.val)).isSome _; rw [hb']; exact hI⟩
    | true =>
      rw [hh] at hhas
      cases b with
      | none =>
        rw [stepB_none hh] at hb'
        have cF : W.cell? ⟨w.heap.size + 1 + 1 + 1, 0, none⟩ = some (.bool false) := hI.b3.cell 0
        gi_wp2_with (refine ⟨trivial, ?_⟩; gi_at_call 106; refine (CallsIn.inRound l0 (callsIn_wide.2 hhas)).mono ?_; rintro e w' ⟨rfl, rfl⟩)
        exact ⟨set_keeps _ xv, set_below xv, by show Fx w _ (curV L (bestN l s ((pre ++ [x]).map Fin.val))) (bestN l s ((pre ++ [x]).map Fin.val)).isSome _; rw [hb']; show Fx w _ (kvAt L x.1) true _; rw [hxv]; exact hI.set xv⟩
      | some j =>
        have cF : W.cell? ⟨w.heap.size + 1 + 1 + 1, 0, none⟩ = some (.bool true) := hI.b3.cell 0
        have hjd := (hA.2 j (hbm j rfl)).d
        have hxd := hkv.d
        clear hkv hgk
        by_cases hd : (kcAt l x.1).d < (kcAt l j).d
        · rw [stepB_lt hh hd] at hb'
          have hd' : xv.d < (curV L (some j)).d := by show xv.d < (kvAt L j).d; omega
          clear hxd hjd
          gi_wp2_with (refine ⟨trivial, ?_⟩; gi_at_call 106; refine (CallsIn.inRound l0 (callsIn_wide.2 hhas)).mono ?_; rintro e w' ⟨rfl, rfl⟩)
          exact ⟨set_keeps _ xv, set_below xv, by show Fx w _ (curV L (bestN l s ((pre ++ [x]).map Fin.val))) (bestN l s ((pre ++ [x]).map Fin.val)).isSome _; rw [hb']; show Fx w _ (kvAt L x.1) true _; rw [hxv]; exact hI.set xv⟩
        · rw [stepB_ge hd] at hb'
          have hd' : ¬ xv.d < (curV L (some j)).d := by show ¬ xv.d < (kvAt L j).d; omega
          clear hxd hjd
          gi_wp2_with (refine ⟨trivial, ?_⟩; gi_at_call 106; refine (CallsIn.inRound l0 (callsIn_wide.2 hhas)).mono ?_; rintro e w' ⟨rfl, rfl⟩)
          exact ⟨KeepsFrom.refl _ _, Below.refl _ _, by show Fx w _ (curV L (bestN l s ((pre ++ [x]).map Fin.val))) (bestN l s ((pre ++ [x]).map Fin.val)).isSome _; rw [hb']; exact hI⟩
  case done =>
    rintro D ys W hD rfl hI hKD
    have hys : (upF L.length L.length).map Fin.val = List.range L.length := by rw [upF_all]; exact List.ext_getElem (by simp) (fun i h1 h2 => by simp)
    have hI : Fx w (.slice B m cd) (curV L (bestN l s ((upF L.length L.length).map Fin.val))) (bestN l s ((upF L.length L.length).map Fin.val)).isSome W := hI
    rw [hys] at hI
    have hbm : ∀ j, bestN l s (List.range L.length) = some j → j < L.length := fun j hj => List.mem_range.1 (bestN_mem _ hj)
    obtain ⟨b, hbe⟩ : ∃ b, bestN l s (List.range L.length) = b := ⟨_, rfl⟩
    rw [hbe] at hI hbm
    have hbe := hide hbe
    have hkv := KvR.cur hA b hbm
    have hgk := hg.cur hA.1 b hbm
    gi_wp2
    refine wpIn_wide.2 ?_
    refine wp_region_inv3 (fun D_ az wz => ∃ x5 x30 x31 x32 u0 u1 u2 : Value, az = ⟨#[.pointer q, .slice B m cd, undef, .pointer (some ⟨w.heap.size, 0, none⟩), .pointer (some ⟨w.heap.size + 1, 0, none⟩), x5, .pointer (some ⟨w.heap.size + 1 + 1, 0, none⟩), .pointer (some ⟨w.heap.size + 1 + 1 + 1, 0, none⟩), undef, undef, .pointer q, .func (.func 134) #[] #[.pointer (some ⟨w.heap.size + 1 + 1 + 1 + 1, 0, none⟩)], undef, undef, undef, undef, undef, undef, undef, undef, undef, undef, undef, undef, undef, undef, undef, undef, undef, undef, x30, x31, x32], [{ target := .collected D, args := #[] }]⟩ ∧ (Below w.heap.size w wz ∧ w.heap.size + 4 ≤ wz.heap.size ∧ Blk wz (w.heap.size + 1) 66 #[u0, u1, u2] ∧ Blk wz (w.heap.size + 1 + 1) 66 (curV L b).cells ∧ Blk wz (w.heap.size + 1 + 1 + 1) 4 #[.bool b.isSome] ∧ wz.heap[D]? = some (.deferred (some []))) ∧ (D_ 0 → x30 = .agg (curV L b).cells) ∧ (D_ 1 → ∃ y : Kv, x31 = .agg y.cells ∧ y.d = (curC l b).d ∧ wz.ownsRow (w.heap.size + 4) 3 1 y.c.val (ivs (curC l b).c).length (ivs (curC l b).c) ∧ wz.ownsRow (w.heap.size + 4) 4 1 y.i.val (bvs (curC l b).i).length (bvs (curC l b).i)) ∧ (D_ 2 → x32 = .bool b.isSome) ∧ (D_ 3 → (D_ 1 ∧ x31 = .agg #[u0, u1, u2])) ∧ (D_ 4 → (D_ 2 ∧ x5 = x32))) (by kernel_rfl) (by kernel_rfl) ?h0 ?hstep ?hdone
    case h0 =>
      have hI := hI.step (Dr.below (Dr.refl _).drew _)
      refine ⟨_, _, _, _, _, _, _, rfl, ⟨hI.bel, by have := hI.b3.lt; omega, hI.b1, hI.b2, hI.b3, hKD⟩, fun h => absurd h (by decide), fun h => absurd h (by decide), fun h => absurd h (by decide), fun h => absurd h (by decide), fun h => absurd h (by decide)⟩
    case hstep =>
      intro D_ az wz i hi' hn hd' hI2
      obtain ⟨x5, x30, x31, x32, u0, u1, u2, rfl, ⟨hbz, hsz2, b1, b2, b3, bD⟩, f0, f1, f2, f3, f4⟩ := hI2
      have hi' : i < 5 := hi'
      rcases (show i = 0 ∨ i = 1 ∨ i = 2 ∨ i = 3 ∨ i = 4 by omega) with rfl | rfl | rfl | rfl | rfl
      · -- 0
        refine wpOp_step rfl (fun K hK => ?_)
        have hK : Shut _ := hK
        have c0 : wz.cell? ⟨w.heap.size + 1 + 1, 0, none⟩ = some ((curV L b).c.val) := b2.cell 0
        have c1 : wz.cell? ⟨w.heap.size + 1 + 1, 1, none⟩ = some (.int .i64 (curV L b).d) := b2.cell 1
        have c2 : wz.cell? ⟨w.heap.size + 1 + 1, 2, none⟩ = some ((curV L b).i.val) := b2.cell 2
        go_simp
        try simp only [Act.put, List.getElem_toArray, List.getElem_cons_succ, List.getElem_cons_zero, List.setIfInBounds_toArray, List.set_cons_zero, List.set_cons_succ]
        refine hK.out _ _ ⟨_, _, _, _, _, _, _, rfl, ⟨hbz, hsz2, b1, b2, b3, bD⟩, fun _ => rfl, fun h => h.elim (fun e => absurd e (by decide)) f1, fun h => h.elim (fun e => absurd e (by decide)) f2, fun h => h.elim (fun e => absurd e (by decide)) (fun h => ⟨Or.inr (f3 h).1, (f3 h).2⟩), fun h => h.elim (fun e => absurd e (by decide)) (fun h => ⟨Or.inr (f4 h).1, (f4 h).2⟩)⟩
      · -- 1
        have d0 := f0 (hd' 0 (by kernel_rfl))
        refine wpOp_step rfl (fun K hK => ?_)
        have hK : Shut _ := hK
        subst d0
        go_wp2_with (go_at_call 105; refine (store_own (curV L b) (curC l b).c (curC l b).i wz (hkv.c.below hbz (Nat.le_refl _)) (hkv.i.below hbz (Nat.le_refl _)) (by have := hkv.c.len; have := hgk.c; omega) (by have : (curC l b).i.length = (curV L b).i.n := hkv.i.len; have := hgk.i; omega)).mono ?_; rintro e wy ⟨y, rfl, hyd, hyc, hyi, hbs⟩)
        try simp only [Act.put, List.getElem_toArray, List.getElem_cons_succ, List.getElem_cons_zero, List.setIfInBounds_toArray, List.set_cons_zero, List.set_cons_succ]
        exact ⟨_, _, _, _, _, _, _, rfl, ⟨hbz.trans (hbs.mono hbz.size), Nat.le_trans hsz2 hbs.size, b1.below hbs b1.lt, b2.below hbs b2.lt, b3.below hbs b3.lt, (hbs.block D (Array.getElem?_eq_some_iff.1 bD).1).trans bD⟩, fun _ => rfl, fun _ => ⟨y, rfl, hyd.trans hkv.d, own_low hyc hsz2, own_low hyi hsz2⟩, fun h => h.elim (fun e => absurd e (by decide)) f2, fun h => h.elim (fun e => absurd e (by decide)) (fun h => absurd (f3 h).1 hn), fun h => h.elim (fun e => absurd e (by decide)) (fun h => ⟨Or.inr (f4 h).1, (f4 h).2⟩)⟩
      · -- 2
        refine wpOp_step rfl (fun K hK => ?_)
        have hK : Shut _ := hK
        have c0 : wz.cell? ⟨w.heap.size + 1 + 1 + 1, 0, none⟩ = some (.bool b.isSome) := b3.cell 0
        go_simp
        try simp only [Act.put, List.getElem_toArray, List.getElem_cons_succ, List.getElem_cons_zero, List.setIfInBounds_toArray, List.set_cons_zero, List.set_cons_succ]
        refine hK.out _ _ ⟨_, _, _, _, _, _, _, rfl, ⟨hbz, hsz2, b1, b2, b3, bD⟩, fun h => h.elim (fun e => absurd e (by decide)) f0, fun h => h.elim (fun e => absurd e (by decide)) f1, fun _ => rfl, fun h => h.elim (fun e => absurd e (by decide)) (fun h => ⟨Or.inr (f3 h).1, (f3 h).2⟩), fun h => h.elim (fun e => absurd e (by decide)) (fun h => absurd (f4 h).1 hn)⟩
      · -- 3
        have d1 := f1 (hd' 1 (by kernel_rfl))
        refine wpOp_step rfl (fun K hK => ?_)
        have hK : Shut _ := hK
        have m1 : D_ 1 := hd' 1 (by kernel_rfl)
        obtain ⟨y, rfl, hyd, hyc, hyi⟩ := d1
        have c0 : wz.cell? ⟨w.heap.size + 1, 0, none⟩ = some u0 := b1.cell 0
        have c1 : wz.cell? ⟨w.heap.size + 1, 1, none⟩ = some u1 := b1.cell 1
        have c2 : wz.cell? ⟨w.heap.size + 1, 2, none⟩ = some u2 := b1.cell 2
        have y0 := b1.frozen 0
        have y1 := b1.frozen 1
        have y2 := b1.frozen 2
        have hl1 : w.heap.size ≤ w.heap.size + 1 := by omega
        have hl2 : w.heap.size + 1 < w.heap.size + 4 := by omega
        have hDne : D ≠ w.heap.size + 1 := by intro e; subst e; unfold Blk at b1; rw [b1] at bD; cases bD
        have n1 := hide (((hbz.setCell (p := ⟨w.heap.size + 1, 0, none⟩) hl1 (y.c.val)).setCell (p := ⟨w.heap.size + 1, 1, none⟩) hl1 (.int .i64 y.d)).setCell (p := ⟨w.heap.size + 1, 2, none⟩) hl1 (y.i.val))
        have n2 : Hid (Blk (((wz.setCell ⟨w.heap.size + 1, 0, none⟩ y.c.val).setCell ⟨w.heap.size + 1, 1, none⟩ (.int .i64 y.d)).setCell ⟨w.heap.size + 1, 2, none⟩ y.i.val) (w.heap.size + 1) 66 #[y.c.val, .int .i64 y.d, y.i.val]) := by have := (((b1.set_ 0 (y.c.val)).set_ 1 (.int .i64 y.d)).set_ 2 (y.i.val)); exact hide this
        have n3 := hide (((b2.far (p := ⟨w.heap.size + 1, 0, none⟩) (by simp <;> omega) (y.c.val)).far (p := ⟨w.heap.size + 1, 1, none⟩) (by simp <;> omega) (.int .i64 y.d)).far (p := ⟨w.heap.size + 1, 2, none⟩) (by simp <;> omega) (y.i.val))
        have n4 := hide (((b3.far (p := ⟨w.heap.size + 1, 0, none⟩) (by simp <;> omega) (y.c.val)).far (p := ⟨w.heap.size + 1, 1, none⟩) (by simp <;> omega) (.int .i64 y.d)).far (p := ⟨w.heap.size + 1, 2, none⟩) (by simp <;> omega) (y.i.val))
        have n5 := hide (ownsRow_setCell_below (ownsRow_setCell_below (ownsRow_setCell_below hyc (a := ⟨w.heap.size + 1, 0, none⟩) hl2 (y.c.val)) (a := ⟨w.heap.size + 1, 1, none⟩) hl2 (.int .i64 y.d)) (a := ⟨w.heap.size + 1, 2, none⟩) hl2 (y.i.val))
        have n6 := hide (ownsRow_setCell_below (ownsRow_setCell_below (ownsRow_setCell_below hyi (a := ⟨w.heap.size + 1, 0, none⟩) hl2 (y.c.val)) (a := ⟨w.heap.size + 1, 1, none⟩) hl2 (.int .i64 y.d)) (a := ⟨w.heap.size + 1, 2, none⟩) hl2 (y.i.val))
        have hyd2 := hide hyd
        clear hyd
        go_simp
        try simp only [Act.put, List.getElem_toArray, List.getElem_cons_succ, List.getElem_cons_zero, List.setIfInBounds_toArray, List.set_cons_zero, List.set_cons_succ]
        refine hK.out _ _ ⟨_, _, _, _, _, _, _, rfl, ⟨n1.out, by simpa using hsz2, n2.out, n3.out, n4.out, by rw [Below.heap_setCell _ _ _ _ (by simpa using hDne), Below.heap_setCell _ _ _ _ (by simpa using hDne), Below.heap_setCell _ _ _ _ (by simpa using hDne)]; exact bD⟩, fun h => h.elim (fun e => absurd e (by decide)) f0, fun _ => ⟨y, rfl, hyd2.out, n5.out, n6.out⟩, fun h => h.elim (fun e => absurd e (by decide)) f2, fun _ => ⟨Or.inr m1, rfl⟩, fun h => h.elim (fun e => absurd e (by decide)) (fun h => ⟨Or.inr (f4 h).1, (f4 h).2⟩)⟩
      · -- 4
        have d2 := f2 (hd' 2 (by kernel_rfl))
        refine wpOp_step rfl (fun K hK => ?_)
        have hK : Shut _ := hK
        have m2 : D_ 2 := hd' 2 (by kernel_rfl)
        subst d2
        go_simp
        try simp only [Act.put, List.getElem_toArray, List.getElem_cons_succ, List.getElem_cons_zero, List.setIfInBounds_toArray, List.set_cons_zero, List.set_cons_succ]
        refine hK.out _ _ ⟨_, _, _, _, _, _, _, rfl, ⟨hbz, hsz2, b1, b2, b3, bD⟩, fun h => h.elim (fun e => absurd e (by decide)) f0, fun h => h.elim (fun e => absurd e (by decide)) f1, fun _ => rfl, fun h => h.elim (fun e => absurd e (by decide)) (fun h => ⟨Or.inr (f3 h).1, (f3 h).2⟩), fun _ => ⟨Or.inr m2, rfl⟩⟩
    case hdone =>
      rintro D_ az wz hDD ⟨x5, x30, x31, x32, u0, u1, u2, rfl, ⟨hbz, hsz2, b1, b2, b3, bD⟩, f0, f1, f2, f3, f4⟩
      have d0 := f0 (hDD 0)
      have d1 := f1 (hDD 1)
      have d2 := f2 (hDD 2)
      have d3 := f3 (hDD 3)
      have d4 := f4 (hDD 4)
      clear f0 f1 f2 f3 f4
      dsimp only
      obtain ⟨y, rfl, hyd, hyc, hyi⟩ := d1
      have hyd := hide hyd
      obtain ⟨_, rfl⟩ := d4
      obtain ⟨_, he⟩ := d3
      injection he with he
      have e0 : y.c.val = u0 := by injection he with he; injection he
      have e1 : Value.int .i64 y.d = u1 := by injection he with he; injection he with _ he; injection he
      have e2 : y.i.val = u2 := by injection he with he; injection he with _ he; injection he with _ he; injection he
      subst e0 e1 e2 d2
      clear he d0
      have k0 : wz.cell? ⟨w.heap.size + 1, 0, none⟩ = some y.c.val := b1.cell 0
      have k1 : wz.cell? ⟨w.heap.size + 1, 1, none⟩ = some (.int .i64 y.d) := b1.cell 1
      have k2 : wz.cell? ⟨w.heap.size + 1, 2, none⟩ = some y.i.val := b1.cell 2
      gi_wp2
      refine ⟨by simp, .inl ⟨_, _, rfl, run_takeDeferred bD, ?_⟩⟩
      have hgr := grownBy_putObj' wz D (.deferred none)
      have hro : ∀ r, some D = some r → ∃ o : Obj, wz.heap[r]? = some o ∧ o.isCells = false := fun r e => by cases e; exact ⟨_, bD, rfl⟩
      have b1' := blk_own b1 hgr hro
      have k0 : (wz.putObj D (.deferred none)).cell? ⟨w.heap.size + 1, 0, none⟩ = some y.c.val := b1'.cell 0
      have k1 : (wz.putObj D (.deferred none)).cell? ⟨w.heap.size + 1, 1, none⟩ = some (.int .i64 y.d) := b1'.cell 1
      have k2 : (wz.putObj D (.deferred none)).cell? ⟨w.heap.size + 1, 2, none⟩ = some y.i.val := b1'.cell 2
      refine ⟨.tuple #[.agg y.cells, .bool b.isSome], ?_, ?_⟩
      · simp [results, Try.results50, go_sem, k0, k1, k2]
      · have hlow : w.heap.size ≤ D := by have := hI0.bel.size; omega
        refine ⟨y, by rw [hbe.out]; simp, ?_⟩
        rw [hbe.out, cur_getD]
        exact ⟨hyd.out, own_low (ownsRow_putObj hyc _ bD rfl) (by omega), own_low (ownsRow_putObj hyi _ bD rfl) (by omega), hbz.trans (belowK_b (w := w) (Nat.le_refl _) wz D _ _ hlow bD rfl rfl)⟩
  case stop =>
    rintro D c pre W _ _ h _
    exact h.elim
theorem store_Find (q : Option Addr) (L : List Kv) (l : List Kc) (s : List Bool) (B : Option Addr) (m cd : Nat) (w : World) (hK : Keeps w.heap.size w q L) (hA : AllK w L l) (hrs : Rd w B m (bvs s)) (hm : m ≤ 1000000) (hg : GoodL l) (hL : L.length ≤ 1000000) :
    Calls Try.prog 50 #[.pointer q, .slice B m cd] w (FindIs ((bestN l s (List.range L.length)).map (kcAt l)) w)  :=
  store_FindE q L l s B m cd w hK hA hrs (fun _ => hm) hg hL
end Go.Proofs.Ytcjoohaagdihlaa.Kept
