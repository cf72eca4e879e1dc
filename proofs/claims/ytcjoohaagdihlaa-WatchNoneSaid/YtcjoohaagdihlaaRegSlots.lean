/- A region that draws its order, by one invariant over what lies in the slots that it writes. No program in sight. -/
import Derived.Test.YtcjoohaagdihlaaRegInv2
namespace Go.Lt
open Go.RowKit
set_option linter.unusedVariables false
set_option linter.unusedSimpArgs false

/-- another operation's fact, as it was -/
theorem kp {i j : Nat} {D : Nat → Prop} {F : Prop} (f : D j → F) (hne : j ≠ i := by decide) : j = i ∨ D j → F := fun h => h.elim (fun e => absurd e hne) f
/-- none yet -/
theorem nt0 {n j : Nat} {F : Prop} (hne : ¬ n ≤ j := by decide) : n ≤ j → F := fun h => absurd h hne
section
variable {P : Program} {ops : Array Oper} {Q : Exit → Act → World → Prop}
/-- the slots behind an operation -/
def updG (g : Nat → Value) (dst : Option Tmp) (v : Value) : Nat → Value :=
  match dst with
  | some d => fun i => if i = d then v else g i
  | none => g
/-- the slots that an act has -/
structure SlotsAre (n : Nat) (az : Act) (g : Nat → Value) : Prop where
  size : az.tmps.size = n
  get : ∀ i, az.tmps.getD i undef = g i
/-- one operation, on slots -/
def slotOp (P : Program) (ops : Array Oper) (Q : Exit → Act → World → Prop) (n i : Nat) (g : Nat → Value) (wz : World) (K : (Nat → Value) → World → Prop) : Prop :=
  ∀ o, ops[i]? = some o → ∀ (az : Act), SlotsAre n az g → ∀ K' : Act → World → Prop, (∀ v w', K (updG g o.dst v) w' → K' (az.put o.dst v) w') →
    if Region.wanted o (yielded ops az.tmps) = true then Oper.wp P o az wz K' Q else K' (az.put o.dst undef) wz
theorem SlotsAre.eval {n i : Nat} {az : Act} {g : Nat → Value} (h : SlotsAre n az g) {v : Value} (hv : g i = v) : az.eval (.tmp i) = v := (h.get i).trans hv
theorem slot_step {n i : Nat} {o : Oper} {g : Nat → Value} {wz : World} {K : (Nat → Value) → World → Prop} (ho : ops[i]? = some o) (hgd : o.guard = none)
    (h : ∀ (az : Act), SlotsAre n az g → ∀ K' : Act → World → Prop, (∀ v w', K (updG g o.dst v) w' → K' (az.put o.dst v) w') → Oper.wp P o az wz K' Q) : slotOp P ops Q n i g wz K := by
  intro o' ho' az hs K' hK
  rw [ho] at ho'
  injection ho' with ho'
  subst ho'
  rw [if_pos (by simp [Region.wanted, hgd])]
  exact h az hs K' hK
theorem yielded_is {n j d : Nat} {b : Bool} {az : Act} {g : Nat → Value} (hs : SlotsAre n az g) (hd : ((ops[j]?).bind (·.dst)) = some d) (hn : d < n) (hg : g d = .bool b) : yielded ops az.tmps j = some b := by
  unfold yielded
  have h1 := hs.get d
  rw [hg] at h1
  have h2 : az.tmps[d]? = some (.bool b) := by
    have hlt : d < az.tmps.size := by rw [hs.size]; exact hn
    rw [Array.getElem?_eq_getElem hlt]
    simp [Array.getD, hlt] at h1
    rw [h1]
  have h3 : ((ops[j]?.bind fun x => x.dst).bind fun x => az.tmps[x]?) = some (.bool b) := by rw [hd]; exact h2
  rw [h3]
/-- a guarded operation that comes up -/
theorem slot_step_yes {n i j d : Nat} {b : Bool} {o : Oper} {g : Nat → Value} {wz : World} {K : (Nat → Value) → World → Prop} (ho : ops[i]? = some o) (hgd : o.guard = some (j, b)) (hd : ((ops[j]?).bind (·.dst)) = some d) (hn : d < n) (hg : g d = .bool b)
    (h : ∀ (az : Act), SlotsAre n az g → ∀ K' : Act → World → Prop, (∀ v w', K (updG g o.dst v) w' → K' (az.put o.dst v) w') → Oper.wp P o az wz K' Q) : slotOp P ops Q n i g wz K := by
  intro o' ho' az hs K' hK
  rw [ho] at ho'
  injection ho' with ho'
  subst ho'
  rw [if_pos (by simp [Region.wanted, hgd, yielded_is hs hd hn hg])]
  exact h az hs K' hK
/-- a guarded operation that is left out -/
theorem slot_step_no {n i j d : Nat} {b : Bool} {o : Oper} {g : Nat → Value} {wz : World} {K : (Nat → Value) → World → Prop} (ho : ops[i]? = some o) (hgd : o.guard = some (j, b)) (hd : ((ops[j]?).bind (·.dst)) = some d) (hn : d < n) (hg : g d = .bool (!b))
    (h : K (updG g o.dst undef) wz) : slotOp P ops Q n i g wz K := by
  intro o' ho' az hs K' hK
  rw [ho] at ho'
  injection ho' with ho'
  subst ho'
  rw [if_neg (by simp [Region.wanted, hgd, yielded_is hs hd hn hg])]
  exact hK _ _ h
/-- .. whose guard was itself left out -/
theorem slot_step_nou {n i j d : Nat} {b : Bool} {o : Oper} {g : Nat → Value} {wz : World} {K : (Nat → Value) → World → Prop} (ho : ops[i]? = some o) (hgd : o.guard = some (j, b)) (hd : ((ops[j]?).bind (·.dst)) = some d) (hn : d < n) (hg : g d = undef)
    (h : K (updG g o.dst undef) wz) : slotOp P ops Q n i g wz K := by
  intro o' ho' az hs K' hK
  rw [ho] at ho'
  injection ho' with ho'
  subst ho'
  have hy : yielded ops az.tmps j = none := by
    unfold yielded
    have h1 := hs.get d
    rw [hg] at h1
    have h2 : az.tmps[d]? = some undef := by
      have hlt : d < az.tmps.size := by rw [hs.size]; exact hn
      rw [Array.getElem?_eq_getElem hlt]
      simp [Array.getD, hlt] at h1
      rw [h1]
    have h3 : ((ops[j]?.bind fun x => x.dst).bind fun x => az.tmps[x]?) = some undef := by rw [hd]; exact h2
    rw [h3]
    rfl
  rw [if_neg (by simp [Region.wanted, hgd, hy])]
  exact hK _ _ h
theorem getD_set {t : Array Value} {d i : Nat} {v : Value} (h : d < t.size) : (t.setIfInBounds d v).getD i undef = if i = d then v else t.getD i undef := by
  by_cases hi : i = d
  · subst hi; simp [Array.getD, h]
  · rw [if_neg hi]
    by_cases hl : i < t.size
    · simp [Array.getD, hl, Array.getElem_setIfInBounds, Ne.symm hi]
    · simp [Array.getD, hl]
theorem slots_put {n : Nat} {az : Act} {g : Nat → Value} (hs : SlotsAre n az g) {dst : Option Tmp} (hd : ∀ d, dst = some d → d < n) (v : Value) : SlotsAre n (az.put dst v) (updG g dst v) := by
  cases dst with
  | none => exact hs
  | some d =>
    refine ⟨by simp [Act.put, hs.size], fun i => ?_⟩
    show (az.tmps.setIfInBounds d v).getD i undef = if i = d then v else g i
    rw [getD_set (by rw [hs.size]; exact hd d rfl), hs.get]
def slotsB (ops : Array Oper) (S : List Nat) (n : Nat) : Bool := S.all (fun s => decide (s < n)) && ops.toList.all fun o => match o.dst with | none => true | some d => S.contains d
def setAll (t : Array Value) (S : List Nat) (g : Nat → Value) : Array Value := S.foldl (fun t s => t.setIfInBounds s (g s)) t
theorem setAll_size (S : List Nat) (g : Nat → Value) : ∀ t : Array Value, (setAll t S g).size = t.size := by
  induction S with
  | nil => intro t; rfl
  | cons s S ih => intro t; unfold setAll at ih ⊢; rw [List.foldl_cons, ih]; simp
theorem setAll_get (S : List Nat) (g : Nat → Value) : ∀ (t : Array Value) (i : Nat), (∀ s ∈ S, s < t.size) → (setAll t S g).getD i undef = if i ∈ S then g i else t.getD i undef := by
  induction S with
  | nil => intro t i _; simp [setAll]
  | cons s S ih =>
    intro t i h
    have h1 : setAll t (s :: S) g = setAll (t.setIfInBounds s (g s)) S g := rfl
    rw [h1, ih _ i (fun x hx => by simpa using h x (List.mem_cons_of_mem _ hx)), getD_set (h s List.mem_cons_self)]
    by_cases hi : i ∈ S
    · simp [hi]
    · by_cases he : i = s
      · subst he; simp [hi]
      · simp [hi, he]
theorem array_ext_getD {a b : Array Value} (hs : a.size = b.size) (h : ∀ i, a.getD i undef = b.getD i undef) : a = b := by
  apply Array.ext hs
  intro i h1 h2
  have := h i
  simpa [Array.getD, h1, h2] using this
/-- the law -/
theorem wp_region_slots {id : Nat} {a : Act} {w : World} (S : List Nat) (J : (Nat → Prop) → (Nat → Value) → World → Prop) (hm : P.follows .mixedOrders = true)
    (hwf : (ops.toList.zipIdx.all fun p => p.1.after.all fun e => !Region.binds .any e || decide (e.on < p.2)) = true)
    (n : Nat) (hn : a.tmps.size = n) (hS : slotsB ops S n = true)
    (h0 : J (fun j => ops.size ≤ j) (fun i => a.tmps.getD i undef) w.drew)
    (hstep : ∀ D g wz i, i < ops.size → ¬ D i → (∀ j, depsB ops i j = true → D j) → J D g wz → slotOp P ops Q n i g wz (fun g' w' => J (fun j => j = i ∨ D j) g' w'))
    (hdone : ∀ D g w', (∀ j, D j) → J D g w' → Q .normal ⟨setAll a.tmps S g, a.defers⟩ w') : (Code.region id ops true).wp P Q a w := by
  unfold slotsB at hS
  rw [Bool.and_eq_true, List.all_eq_true, List.all_eq_true] at hS
  obtain ⟨hS1, hS2⟩ := hS
  have hSn : ∀ s ∈ S, s < n := fun s hs => by simpa using hS1 s hs
  have hdst : ∀ (i : Nat) (o : Oper), ops[i]? = some o → ∀ d, o.dst = some d → d ∈ S := fun i o ho d hd => by
    have h1 := hS2 o (Array.mem_toList_iff.2 (Array.mem_of_getElem? ho))
    rw [hd] at h1
    simpa using h1
  refine wp_region_inv3 (fun D az wz => ∃ g, SlotsAre n az g ∧ az.defers = a.defers ∧ (∀ i, i ∉ S → g i = a.tmps.getD i undef) ∧ J D g wz) hm hwf ⟨_, ⟨hn, fun _ => rfl⟩, rfl, fun _ _ => rfl, h0⟩ ?_ ?_
  · rintro D az wz i hi hni hd ⟨g, hs, hdf, hoth, hJ⟩
    have ho : ops[i]? = some ops[i] := Array.getElem?_eq_getElem hi
    refine wpOp_step ho (fun K' hK => hstep D g wz i hi hni hd hJ _ ho az hs K' (fun v w' hJ' => hK _ _ ⟨updG g ops[i].dst v, slots_put hs (fun d hd => hSn d (hdst i _ ho d hd)) v, ?_, ?_, hJ'⟩))
    · cases hdd : ops[i].dst <;> exact hdf
    · intro q hq
      cases hdd : ops[i].dst with
      | none => exact hoth q hq
      | some d =>
        have hm : d ∈ S := hdst i _ ho d hdd
        show (if q = d then v else g q) = _
        rw [if_neg (fun e : q = d => hq (by rw [e]; exact hm))]
        exact hoth q hq
  · rintro D az wz hD ⟨g, hs, hdf, hoth, hJ⟩
    have he : az = ⟨setAll a.tmps S g, a.defers⟩ := by
      obtain ⟨t, df⟩ := az
      have h1 : t = setAll a.tmps S g := array_ext_getD (by rw [setAll_size, hn]; exact hs.size) (fun i => by
        rw [setAll_get S g _ i (fun s h => by rw [hn]; exact hSn s h)]
        have h2 := hs.get i
        by_cases hi : i ∈ S
        · rw [if_pos hi]; exact h2
        · rw [if_neg hi, ← hoth i hi]; exact h2)
      have h2 : df = a.defers := hdf
      rw [h1, h2]
    rw [he]
    exact hdone D g wz hD hJ
end
section
variable {P : Program} {w : World} {base e bytes m c size g : Nat} {z : Value} {A : Option Addr} {news : List Value}
/-- append of a whole slice onto a literal that holds nothing, as one operation: all that lies stays -/
theorem oper_append_lit {o : Oper} {a : Act} {K : Act → World → Prop} {Q : Exit → Act → World → Prop} (s x : Operand) (t : TypeId)
    (ho : o.op = .call { callee := .builtin .append, args := #[s, x], argTypes := #[t, t] })
    (ht : P.underlying t = some (.slice e)) (hi : (P.info? e).map (fun i => (i.zero, i.size, i.bytes)) = some (some z, size, bytes)) (hzs : z.cells.size = size) (hsz : 0 < size)
    (hs : a.eval s = .slice (some ⟨g, 0, none⟩) 0 0) (hx : a.eval x = .slice A m c) (hg : Blk w g e #[]) (hbg : base ≤ g) (hr : RdS w A m size news) (h1 : ∀ u ∈ news, u.oneCell' = true) (h63 : m ≤ maxLen) (hby : m * bytes ≤ 140737488355328)
    (h : ∀ v' w', w'.ownsRow base e size v' m news → Below w.heap.size w w' → K (a.put o.dst v') w') : Oper.wp P o a w K Q := by
  obtain ⟨v', w', hrun, h2, h3⟩ := run_append_lit (c := c) t o.type ht hi hzs hsz hg hbg hr h1 h63 hby
  unfold Oper.wp execOp
  simp only [ho, resolve, invoke, builtin, Sem.run_bind, Sem.run_pure, Result.andThen_ok, List.map_toArray, List.map_cons, List.map_nil, hs, hx, hrun]
  exact h v' w' h2 h3
end
end Go.Lt
