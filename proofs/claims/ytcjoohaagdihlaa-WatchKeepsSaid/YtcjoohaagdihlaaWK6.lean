/- Texts behind a row, one behind the other: LearnOpen, RegSlots, Learn1. -/
import Derived.Test.YtcjoohaagdihlaaWK3
import Derived.Test.YtcjoohaagdihlaaWK5
section
/- An argument that is a slice of steps, read as a list. -/
namespace Go.Proofs.Ytcjoohaagdihlaa.Learn
open Go.RowKit Go.ChangeShapes Go.WideShapes Go.Deep Go.Lt Go.Proofs.Ytcjoohaagdihlaa.Lit Go.Proofs.Ytcjoohaagdihlaa.CubeHas
open Go.Proofs.Ytcjoohaagdihlaa.Kept (Sl Sl.val addr_off list3 ints_cells)
set_option linter.unusedVariables false
set_option linter.unusedSimpArgs false

structure WfSt (s : St) : Prop where
  lit : (Lit.int .i64 s.lit).wf = true
  lev : (Lit.int .i64 s.lev).wf = true
  why : ∀ x ∈ s.why, (Lit.int .i64 x).wf = true
section
variable {H : Type} {enc : TypeId × Value → H} {P : Program} {w : World} {base : Nat} {held : Bool}
theorem open_steps_rd {r : Reach} {b0 : Nat} {t e eI : TypeId} {f0 f1 f2 : Field} {v : Value} {d : DataW H} {ps : List MemPlace} (ht : P.underlying t = some (.slice e)) (he : P.underlying e = some (.struct #[f0, f1, f2])) (hc : P.cellsOf e = 3)
    (h0 : P.underlying f0.type = some (.int .i64)) (h1 : P.underlying f1.type = some (.int .i64)) (h2 : P.underlying f2.type = some (.slice eI)) (hI : P.underlying eI = some (.int .i64)) (cI : P.cellsOf eI = 1) (c0 : P.cellsOf f0.type = 1) (c1 : P.cellsOf f1.type = 1) (c2 : P.cellsOf f2.type = 1) (o0 : f0.offset = 0) (o1 : f1.offset = 1) (o2 : f2.offset = 2)
    (hval : Value.okWide P w r b0 t v) (h : DataW.Trod enc P w base (fun _ => true) held t v d ps) :
    ∃ (a : Option Addr) (n c : Nat) (l : List St), v = .slice a n c ∧ n ≤ c ∧ c ≤ maxLen ∧ RdT w a n l ∧ ∀ s ∈ l, WfSt s := by
  obtain ⟨a, n, c, rfl⟩ := okWide_slice ht hval
  obtain ⟨fuel, hf⟩ := h
  rcases DataW.trod_slice ht hf with ⟨hcs, _⟩ | ⟨x, len, cap, elems, rest, k, _, hcs, _, _, hl, hm, hlen, hel, _, _⟩
  · simp [Value.cells] at hcs
    obtain ⟨rfl, rfl, rfl⟩ := hcs
    exact ⟨none, 0, 0, [], rfl, Nat.le_refl _, Nat.zero_le _, RdT.nil _ _, fun x hx => (by cases hx)⟩
  · simp [Value.cells] at hcs
    obtain ⟨rfl, rfl, rfl⟩ := hcs
    have each : ∀ i, ∃ z : St × Sl, i < n → w.cell? (x.add (i * 3)) = some (.int .i64 z.1.lit) ∧ w.cell? (x.add (i * 3 + 1)) = some (.int .i64 z.1.lev) ∧ w.cell? (x.add (i * 3 + 2)) = some z.2.val ∧ Rd w z.2.A z.2.n (ivs z.1.why) ∧ WfSt z.1 := by
      intro i
      by_cases hi : i < n
      · have hE := hel i hi
        rw [hc, List.getElem?_eq_getElem (by omega), Option.bind_eq_some_iff] at hE
        obtain ⟨cs', hcs, hy⟩ := hE
        obtain ⟨_, _, hcell⟩ := World.cells?_some hcs
        obtain ⟨y0, y1, y2, m, _, hl2, hy0, hy1, hy2⟩ := trod_struct3 he hy
        rw [c2] at hy2
        obtain ⟨q, e0, _, w0⟩ := DataW.trod_int h0 hy0
        obtain ⟨p, e1, _, w1⟩ := DataW.trod_int h1 hy1
        obtain ⟨a2, n2, k2, l2, e2, _, _, r2, w2⟩ := ints_cells h2 hI cI hy2
        rw [o0, c0] at e0
        rw [o1, c1] at e1
        rw [o2] at e2
        have := list3 (by rw [hl2, hc]) e0 e1 e2
        subst this
        have g0 := hcell 0 (by omega)
        have g1 := hcell 1 (by omega)
        have g2 := hcell 2 (by omega)
        rw [Kept.add_add] at g0 g1 g2
        exact ⟨⟨⟨q, p, l2⟩, ⟨a2, n2, k2⟩⟩, fun _ => ⟨g0, g1, g2, r2, ⟨w0, w1, w2⟩⟩⟩
      · exact ⟨⟨zSt, ⟨none, 0, 0⟩⟩, fun h => absurd h hi⟩
    obtain ⟨g, hg⟩ := Classical.axiomOfChoice each
    refine ⟨some x, n, c, (List.range n).map fun i => (g i).1, rfl, hl, hm, ⟨by simp, fun i hi => ?_⟩, fun z hz => ?_⟩
    · obtain ⟨g0, g1, g2, g3, _⟩ := hg i hi
      refine ⟨x, (g i).1, (g i).2, rfl, ?_, by rw [List.getElem?_map, List.getElem?_range hi]; rfl, g0, g1, g2, g3⟩
      have := World.block_lt_of_cell? w _ g0
      rwa [add_block] at this
    · obtain ⟨i, hi, rfl⟩ := List.mem_map.1 hz
      exact (hg i (List.mem_range.1 hi)).2.2.2.2
end
end Go.Proofs.Ytcjoohaagdihlaa.Learn
end

section
/- A region that draws its order, by one invariant over what lies in the slots that it writes. No program in sight. -/
namespace Go.Lt
open Go.RowKit
set_option linter.unusedVariables false
set_option linter.unusedSimpArgs false

/-- another operation's fact, as it was -/
theorem kp {i j : Nat} {D : Nat → Prop} {F : Prop} (f : D j → F) (hne : j ≠ i := by decide) : j = i ∨ D j → F := fun h => h.elim (fun e => absurd e hne) f
/-- none yet -/
theorem nt0 {n j : Nat} {F : Prop} (hne : ¬ n ≤ j := by decide) : n ≤ j → F := fun h => absurd h hne
section
variable {P : Program} {ops : Array Oper} {Q : Exit → Act → World → Prop}
/-- the slots behind an operation -/
def updG (g : Nat → Value) (dst : Option Tmp) (v : Value) : Nat → Value :=
  match dst with
  | some d => fun i => if i = d then v else g i
  | none => g
/-- the slots that an act has -/
structure SlotsAre (n : Nat) (az : Act) (g : Nat → Value) : Prop where
  size : az.tmps.size = n
  get : ∀ i, az.tmps.getD i undef = g i
/-- one operation, on slots -/
def slotOp (P : Program) (ops : Array Oper) (Q : Exit → Act → World → Prop) (n i : Nat) (g : Nat → Value) (wz : World) (K : (Nat → Value) → World → Prop) : Prop :=
  ∀ o, ops[i]? = some o → ∀ (az : Act), SlotsAre n az g → ∀ K' : Act → World → Prop, (∀ v w', K (updG g o.dst v) w' → K' (az.put o.dst v) w') →
    if Region.wanted o (yielded ops az.tmps) = true then Oper.wp P o az wz K' Q else K' (az.put o.dst undef) wz
theorem SlotsAre.eval {n i : Nat} {az : Act} {g : Nat → Value} (h : SlotsAre n az g) {v : Value} (hv : g i = v) : az.eval (.tmp i) = v := (h.get i).trans hv
theorem slot_step {n i : Nat} {o : Oper} {g : Nat → Value} {wz : World} {K : (Nat → Value) → World → Prop} (ho : ops[i]? = some o) (hgd : o.guard = none)
    (h : ∀ (az : Act), SlotsAre n az g → ∀ K' : Act → World → Prop, (∀ v w', K (updG g o.dst v) w' → K' (az.put o.dst v) w') → Oper.wp P o az wz K' Q) : slotOp P ops Q n i g wz K := by
  intro o' ho' az hs K' hK
  rw [ho] at ho'
  injection ho' with ho'
  subst ho'
  rw [if_pos (by simp [Region.wanted, hgd])]
  exact h az hs K' hK
theorem yielded_is {n j d : Nat} {b : Bool} {az : Act} {g : Nat → Value} (hs : SlotsAre n az g) (hd : ((ops[j]?).bind (·.dst)) = some d) (hn : d < n) (hg : g d = .bool b) : yielded ops az.tmps j = some b := by
  unfold yielded
  have h1 := hs.get d
  rw [hg] at h1
  have h2 : az.tmps[d]? = some (.bool b) := by
    have hlt : d < az.tmps.size := by rw [hs.size]; exact hn
    rw [Array.getElem?_eq_getElem hlt]
    simp [Array.getD, hlt] at h1
    rw [h1]
  have h3 : ((ops[j]?.bind fun x => x.dst).bind fun x => az.tmps[x]?) = some (.bool b) := by rw [hd]; exact h2
  rw [h3]
/-- a guarded operation that comes up -/
theorem slot_step_yes {n i j d : Nat} {b : Bool} {o : Oper} {g : Nat → Value} {wz : World} {K : (Nat → Value) → World → Prop} (ho : ops[i]? = some o) (hgd : o.guard = some (j, b)) (hd : ((ops[j]?).bind (·.dst)) = some d) (hn : d < n) (hg : g d = .bool b)
    (h : ∀ (az : Act), SlotsAre n az g → ∀ K' : Act → World → Prop, (∀ v w', K (updG g o.dst v) w' → K' (az.put o.dst v) w') → Oper.wp P o az wz K' Q) : slotOp P ops Q n i g wz K := by
  intro o' ho' az hs K' hK
  rw [ho] at ho'
  injection ho' with ho'
  subst ho'
  rw [if_pos (by simp [Region.wanted, hgd, yielded_is hs hd hn hg])]
  exact h az hs K' hK
/-- a guarded operation that is left out -/
theorem slot_step_no {n i j d : Nat} {b : Bool} {o : Oper} {g : Nat → Value} {wz : World} {K : (Nat → Value) → World → Prop} (ho : ops[i]? = some o) (hgd : o.guard = some (j, b)) (hd : ((ops[j]?).bind (·.dst)) = some d) (hn : d < n) (hg : g d = .bool (!b))
    (h : K (updG g o.dst undef) wz) : slotOp P ops Q n i g wz K := by
  intro o' ho' az hs K' hK
  rw [ho] at ho'
  injection ho' with ho'
  subst ho'
  rw [if_neg (by simp [Region.wanted, hgd, yielded_is hs hd hn hg])]
  exact hK _ _ h
/-- .. whose guard was itself left out -/
theorem slot_step_nou {n i j d : Nat} {b : Bool} {o : Oper} {g : Nat → Value} {wz : World} {K : (Nat → Value) → World → Prop} (ho : ops[i]? = some o) (hgd : o.guard = some (j, b)) (hd : ((ops[j]?).bind (·.dst)) = some d) (hn : d < n) (hg : g d = undef)
    (h : K (updG g o.dst undef) wz) : slotOp P ops Q n i g wz K := by
  intro o' ho' az hs K' hK
  rw [ho] at ho'
  injection ho' with ho'
  subst ho'
  have hy : yielded ops az.tmps j = none := by
    unfold yielded
    have h1 := hs.get d
    rw [hg] at h1
    have h2 : az.tmps[d]? = some undef := by
      have hlt : d < az.tmps.size := by rw [hs.size]; exact hn
      rw [Array.getElem?_eq_getElem hlt]
      simp [Array.getD, hlt] at h1
      rw [h1]
    have h3 : ((ops[j]?.bind fun x => x.dst).bind fun x => az.tmps[x]?) = some undef := by rw [hd]; exact h2
    rw [h3]
    rfl
  rw [if_neg (by simp [Region.wanted, hgd, hy])]
  exact hK _ _ h
theorem getD_set {t : Array Value} {d i : Nat} {v : Value} (h : d < t.size) : (t.setIfInBounds d v).getD i undef = if i = d then v else t.getD i undef := by
  by_cases hi : i = d
  · subst hi; simp [Array.getD, h]
  · rw [if_neg hi]
    by_cases hl : i < t.size
    · simp [Array.getD, hl, Array.getElem_setIfInBounds, Ne.symm hi]
    · simp [Array.getD, hl]
theorem slots_put {n : Nat} {az : Act} {g : Nat → Value} (hs : SlotsAre n az g) {dst : Option Tmp} (hd : ∀ d, dst = some d → d < n) (v : Value) : SlotsAre n (az.put dst v) (updG g dst v) := by
  cases dst with
  | none => exact hs
  | some d =>
    refine ⟨by simp [Act.put, hs.size], fun i => ?_⟩
    show (az.tmps.setIfInBounds d v).getD i undef = if i = d then v else g i
    rw [getD_set (by rw [hs.size]; exact hd d rfl), hs.get]
def slotsB (ops : Array Oper) (S : List Nat) (n : Nat) : Bool := S.all (fun s => decide (s < n)) && ops.toList.all fun o => match o.dst with | none => true | some d => S.contains d
def setAll (t : Array Value) (S : List Nat) (g : Nat → Value) : Array Value := S.foldl (fun t s => t.setIfInBounds s (g s)) t
theorem setAll_size (S : List Nat) (g : Nat → Value) : ∀ t : Array Value, (setAll t S g).size = t.size := by
  induction S with
  | nil => intro t; rfl
  | cons s S ih => intro t; unfold setAll at ih ⊢; rw [List.foldl_cons, ih]; simp
theorem setAll_get (S : List Nat) (g : Nat → Value) : ∀ (t : Array Value) (i : Nat), (∀ s ∈ S, s < t.size) → (setAll t S g).getD i undef = if i ∈ S then g i else t.getD i undef := by
  induction S with
  | nil => intro t i _; simp [setAll]
  | cons s S ih =>
    intro t i h
    have h1 : setAll t (s :: S) g = setAll (t.setIfInBounds s (g s)) S g := rfl
    rw [h1, ih _ i (fun x hx => by simpa using h x (List.mem_cons_of_mem _ hx)), getD_set (h s List.mem_cons_self)]
    by_cases hi : i ∈ S
    · simp [hi]
    · by_cases he : i = s
      · subst he; simp [hi]
      · simp [hi, he]
theorem array_ext_getD {a b : Array Value} (hs : a.size = b.size) (h : ∀ i, a.getD i undef = b.getD i undef) : a = b := by
  apply Array.ext hs
  intro i h1 h2
  have := h i
  simpa [Array.getD, h1, h2] using this
/-- the law -/
theorem wp_region_slots {id : Nat} {a : Act} {w : World} (S : List Nat) (J : (Nat → Prop) → (Nat → Value) → World → Prop) (hm : P.follows .mixedOrders = true)
    (hwf : (ops.toList.zipIdx.all fun p => p.1.after.all fun e => !Region.binds .any e || decide (e.on < p.2)) = true)
    (n : Nat) (hn : a.tmps.size = n) (hS : slotsB ops S n = true)
    (h0 : J (fun j => ops.size ≤ j) (fun i => a.tmps.getD i undef) w.drew)
    (hstep : ∀ D g wz i, i < ops.size → ¬ D i → (∀ j, depsB ops i j = true → D j) → J D g wz → slotOp P ops Q n i g wz (fun g' w' => J (fun j => j = i ∨ D j) g' w'))
    (hdone : ∀ D g w', (∀ j, D j) → J D g w' → Q .normal ⟨setAll a.tmps S g, a.defers⟩ w') : (Code.region id ops true).wp P Q a w := by
  unfold slotsB at hS
  rw [Bool.and_eq_true, List.all_eq_true, List.all_eq_true] at hS
  obtain ⟨hS1, hS2⟩ := hS
  have hSn : ∀ s ∈ S, s < n := fun s hs => by simpa using hS1 s hs
  have hdst : ∀ (i : Nat) (o : Oper), ops[i]? = some o → ∀ d, o.dst = some d → d ∈ S := fun i o ho d hd => by
    have h1 := hS2 o (Array.mem_toList_iff.2 (Array.mem_of_getElem? ho))
    rw [hd] at h1
    simpa using h1
  refine wp_region_inv3 (fun D az wz => ∃ g, SlotsAre n az g ∧ az.defers = a.defers ∧ (∀ i, i ∉ S → g i = a.tmps.getD i undef) ∧ J D g wz) hm hwf ⟨_, ⟨hn, fun _ => rfl⟩, rfl, fun _ _ => rfl, h0⟩ ?_ ?_
  · rintro D az wz i hi hni hd ⟨g, hs, hdf, hoth, hJ⟩
    have ho : ops[i]? = some ops[i] := Array.getElem?_eq_getElem hi
    refine wpOp_step ho (fun K' hK => hstep D g wz i hi hni hd hJ _ ho az hs K' (fun v w' hJ' => hK _ _ ⟨updG g ops[i].dst v, slots_put hs (fun d hd => hSn d (hdst i _ ho d hd)) v, ?_, ?_, hJ'⟩))
    · cases hdd : ops[i].dst <;> exact hdf
    · intro q hq
      cases hdd : ops[i].dst with
      | none => exact hoth q hq
      | some d =>
        have hm : d ∈ S := hdst i _ ho d hdd
        show (if q = d then v else g q) = _
        rw [if_neg (fun e : q = d => hq (by rw [e]; exact hm))]
        exact hoth q hq
  · rintro D az wz hD ⟨g, hs, hdf, hoth, hJ⟩
    have he : az = ⟨setAll a.tmps S g, a.defers⟩ := by
      obtain ⟨t, df⟩ := az
      have h1 : t = setAll a.tmps S g := array_ext_getD (by rw [setAll_size, hn]; exact hs.size) (fun i => by
        rw [setAll_get S g _ i (fun s h => by rw [hn]; exact hSn s h)]
        have h2 := hs.get i
        by_cases hi : i ∈ S
        · rw [if_pos hi]; exact h2
        · rw [if_neg hi, ← hoth i hi]; exact h2)
      have h2 : df = a.defers := hdf
      rw [h1, h2]
    rw [he]
    exact hdone D g wz hD hJ
end
section
variable {P : Program} {w : World} {base e bytes m c size g : Nat} {z : Value} {A : Option Addr} {news : List Value}
/-- append of a whole slice onto a literal that holds nothing, as one operation: all that lies stays -/
theorem oper_append_lit {o : Oper} {a : Act} {K : Act → World → Prop} {Q : Exit → Act → World → Prop} (s x : Operand) (t : TypeId)
    (ho : o.op = .call { callee := .builtin .append, args := #[s, x], argTypes := #[t, t] })
    (ht : P.underlying t = some (.slice e)) (hi : (P.info? e).map (fun i => (i.zero, i.size, i.bytes)) = some (some z, size, bytes)) (hzs : z.cells.size = size) (hsz : 0 < size)
    (hs : a.eval s = .slice (some ⟨g, 0, none⟩) 0 0) (hx : a.eval x = .slice A m c) (hg : Blk w g e #[]) (hbg : base ≤ g) (hr : RdS w A m size news) (h1 : ∀ u ∈ news, u.oneCell' = true) (h63 : m ≤ maxLen) (hby : m * bytes ≤ 140737488355328)
    (h : ∀ v' w', w'.ownsRow base e size v' m news → Below w.heap.size w w' → K (a.put o.dst v') w') : Oper.wp P o a w K Q := by
  obtain ⟨v', w', hrun, h2, h3⟩ := run_append_lit (c := c) t o.type ht hi hzs hsz hg hbg hr h1 h63 hby
  unfold Oper.wp execOp
  simp only [ho, resolve, invoke, builtin, Sem.run_bind, Sem.run_pure, Result.andThen_ok, List.map_toArray, List.map_cons, List.map_nil, hs, hx, hrun]
  exact h v' w' h2 h3
end
end Go.Lt
end

section
/- The document's place and zero of steps. -/
namespace Go.Proofs.Ytcjoohaagdihlaa.Learn
open Go.RowKit Go.Lt Go.Proofs.Ytcjoohaagdihlaa.Lit Go.Proofs.Ytcjoohaagdihlaa.Sorted
open Go.Proofs.Ytcjoohaagdihlaa.Kept (Sl Sl.val addr_off)
set_option linter.unusedVariables false
set_option linter.unusedSimpArgs false

theorem tdiv_is (x : Int) (h : 0 ≤ x) : x.tdiv 2 = x / 2 := Int.tdiv_eq_ediv_of_nonneg h
set_option maxRecDepth 8000 in
set_option maxHeartbeats 1000000 in
theorem ref_place (A : Option Addr) (n c : Nat) (l : List St) (x : Int) (w : World) (hn : n ≤ 1000) (hr : RdT w A n l) (hl : ∀ s ∈ l, 2 ≤ s.lit ∧ s.lit ≤ 33554433) (hx : 0 ≤ x ∧ x ≤ 33554433) :
    Calls Try.prog 89 #[.slice A n c, .int .i64 x] w fun e w' => e = .returned (.int .i64 (placeZ (placeO l x))) ∧ w = w' := by
  have hnI : (n : Int) ≤ 1000 := by omega
  have hll := hide hr.1
  obtain ⟨hx0, hx1⟩ := hx
  have hxd := tdiv_is x hx0
  have hxw : IntKind.i64.wrap (x / 2) = x / 2 := IntWalk.i64_in _ (by omega)
  obtain ⟨X2, hX2⟩ : ∃ X2, x / 2 = X2 := ⟨_, rfl⟩
  have hHX := hide hX2
  rw [hX2] at hxd hxw
  clear hX2 hn
  replace hl := hide hl
  go_enter Try.func89, Try.ntmps89
  go_wp2
  go_loop [5] (fun i => ∃ k : Nat, k ≤ n ∧ i = .int .i64 k ∧ Hid (placeO (l.take k) x = none)) (fun i => n - (intOf i).toNat)
  case atStart => exact ⟨0, Nat.zero_le _, rfl, rfl⟩
  case round =>
    obtain ⟨k, hk, rfl, hno⟩ := hrel
    have hkI : (k : Int) ≤ 1000 := by omega
    by_cases hlt : k < n
    · obtain ⟨ad, s, z, rfl, hB, hs, c0, c1, c2, hw⟩ := hr.get hlt
      obtain ⟨hs0, hs1⟩ := hl.out s (List.mem_of_getElem? hs)
      have hsd := tdiv_is s.lit (by omega)
      have hsw : IntKind.i64.wrap (s.lit / 2) = s.lit / 2 := IntWalk.i64_in _ (by omega)
      by_cases he : s.lit / 2 = X2
      · have hF := hide (find_step hs hno.out (he.trans hHX.out.symm))
        have hq : (s.lit / 2 == X2) = true := by simp [he]
        rw [he] at hsd hsw hq
        clear hs c1 c2 hw hs0 hs1 he
        go_wp2
        go_ret
        exact ⟨ret_int (by rw [hF.out]; rfl), rfl⟩
      · have hN := hide (find_next hs hno.out (fun h => he (h.trans hHX.out)))
        have hq : (s.lit / 2 == X2) = false := by simp [he]
        obtain ⟨S2, hS2⟩ : ∃ S2, s.lit / 2 = S2 := ⟨_, rfl⟩
        rw [hS2] at hsd hsw hq he
        clear hs c1 c2 hw hs0 hs1 hS2
        go_wp2
        go_round
        case rel => exact ⟨k + 1, hlt, by go_num, hN⟩
        case measure => simp [intOf]; omega
    · have hkn : n = k := by omega
      subst hkn
      have hF := hide (show placeZ (placeO l x) = -1 by rw [← List.take_length (l := l), hll.out, hno.out]; rfl)
      go_wp2
      go_ret
      exact ⟨ret_int hF.out.symm, rfl⟩
set_option maxRecDepth 8000 in
set_option maxHeartbeats 1000000 in
theorem ref_zero (A : Option Addr) (n c : Nat) (l : List St) (x : Int) (w : World) (hn : n ≤ 1000) (hr : RdT w A n l) :
    Calls Try.prog 96 #[.slice A n c, .int .i64 x] w fun e w' => e = .returned (.bool (zeroB l x)) ∧ Dr w w' := by
  have hnI : (n : Int) ≤ 1000 := by omega
  have hll := hide hr.1
  clear hn
  by_cases hx0 : x = 0
  · have hF := hide (show zeroB l x = true by unfold zeroB; rw [decide_eq_true hx0]; rfl)
    go_enter Try.func96, Try.ntmps96
    go_wp2
    go_ret
    exact ⟨ret_bool hF.out.symm, Dr.refl _⟩
  · have hq0 : (x == 0) = false := by simp [hx0]
    have hX := hide hx0
    go_enter Try.func96, Try.ntmps96
    go_wp2
    go_loopw [5] (fun i wr => ∃ k : Nat, k ≤ n ∧ i = .int .i64 k ∧ Dr w wr ∧ Hid (∀ j : Nat, j < k → ∀ s, l[j]? = some s → litGood x = true → s.lit ≠ litNot x)) (fun i _ => n - (intOf i).toNat)
    case atStart => exact ⟨0, Nat.zero_le _, rfl, Dr.refl _, fun j hj => absurd hj (Nat.not_lt_zero _)⟩
    case round =>
      obtain ⟨k, hk, rfl, hd, hno⟩ := hrel
      have hkI : (k : Int) ≤ 1000 := by omega
      by_cases hlt : k < n
      · obtain ⟨ad, s, z, rfl, hB, hs, c0, c1, c2, hw⟩ := hr.get hlt
        have c0 := (hd.cell _).trans c0
        have hstep := hide (fun (h : litGood x = true → s.lit ≠ litNot x) => (show ∀ j : Nat, j < k + 1 → ∀ s, l[j]? = some s → litGood x = true → s.lit ≠ litNot x from fun j hj y hy hg => by
          by_cases h1 : j = k
          · subst h1; rw [hs] at hy; injection hy with hy; rw [← hy]; exact h hg
          · exact hno.out j (by omega) y hy hg))
        have hhit := hide (fun hg h => zero_hit (x := x) hs hg h)
        have HG := hide (fun m => ref_Good x (wr.drewN m))
        have HN := hide (fun m => ref_Not x (wr.drewN m))
        clear hs c1 c2 hw
        obtain ⟨b, hg⟩ : ∃ b, litGood x = b := ⟨_, rfl⟩
        cases b with
        | false =>
          have hst := hide (hstep.out (fun h => by rw [hg] at h; cases h))
          rw [hg] at HG
          clear hstep hhit hg
          go_wp2
          go_quiet ((go_at_call 33; exact quiet_eq (HG.out _)))
          go_wp2
          go_roundw
          case rel => exact ⟨k + 1, hlt, by go_num, hd.more _, hst⟩
          case measure => simp [intOf]; omega
        | true =>
          rw [hg] at HG
          by_cases he : s.lit = litNot x
          · have hF := hide (hhit.out hg he)
            have hq : (s.lit == litNot x) = true := by simp [he]
            obtain ⟨L, hL⟩ : ∃ L, litNot x = L := ⟨_, rfl⟩
            rw [hL] at HN hq
            clear hstep hhit hg he hL
            go_wp2
            go_quiet ((first | (go_at_call 33; exact quiet_eq (HG.out _)) | (go_at_call 34; exact quiet_eq (HN.out _))))
            go_wp2
            go_ret
            exact ⟨ret_bool hF.out.symm, hd.more _⟩
          · have hst := hide (hstep.out (fun _ => he))
            have hq : (s.lit == litNot x) = false := by simp [he]
            obtain ⟨L, hL⟩ : ∃ L, litNot x = L := ⟨_, rfl⟩
            rw [hL] at HN hq he
            clear hstep hhit hg hL
            go_wp2
            go_quiet ((first | (go_at_call 33; exact quiet_eq (HG.out _)) | (go_at_call 34; exact quiet_eq (HN.out _))))
            go_wp2
            go_roundw
            case rel => exact ⟨k + 1, hlt, by go_num, hd.more _, hst⟩
            case measure => simp [intOf]; omega
      · have hkn : n = k := by omega
        subst hkn
        have hF := hide (zero_miss (x := x) hX.out (fun j hj => hno.out j (by have := hll.out; omega)))
        go_wp2
        go_ret
        exact ⟨ret_bool hF.out.symm, hd⟩
end Go.Proofs.Ytcjoohaagdihlaa.Learn
end
