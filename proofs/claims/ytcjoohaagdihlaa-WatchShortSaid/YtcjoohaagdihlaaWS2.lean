/- Texts behind a row, one behind the other: RegInv, Kept0, Sorted1, Learn0, RegInv2. -/
import Derived.Test.YtcjoohaagdihlaaWS1
import Derived.Deep.RegionHeld
import Derived.Maps.AppendAt
import Derived.OwnWalk
import Derived.Shelf.Slices.CompactI
section
/- A region that draws its order, by one invariant over what has come up; an append onto a literal that holds nothing leaves all that lies. No program in sight. -/
namespace Go.Lt
open Go.RowKit
set_option linter.unusedVariables false
set_option linter.unusedSimpArgs false

section
variable {P : Program} {ops : Array Oper} {Q : Exit → Act → World → Prop}
def leftN (listed : Array Bool) : Nat := listed.toList.countP (fun b => !b)
theorem getD_false {listed : Array Bool} {i : Nat} (h : listed.getD i true = false) : ∃ hi : i < listed.toList.length, listed.toList[i] = false := by
  by_cases hi : i < listed.size
  · refine ⟨by simpa using hi, ?_⟩
    simpa [Array.getD, hi] using h
  · simp [Array.getD, hi] at h
theorem leftN_set {listed : Array Bool} {i : Nat} (h : listed.getD i true = false) : leftN (listed.setIfInBounds i true) + 1 = leftN listed := by
  obtain ⟨hi, h2⟩ := getD_false h
  unfold leftN
  rw [Array.toList_setIfInBounds, List.countP_set hi, h2]
  have hp : 0 < listed.toList.countP (fun b => !b) := List.countP_pos_iff.2 ⟨false, by rw [← h2]; exact List.getElem_mem _, rfl⟩
  simp only [Bool.not_false, Bool.not_true, if_true, Bool.false_eq_true, if_false]
  omega
theorem leftN_pos {listed : Array Bool} {i : Nat} (h : listed.getD i true = false) : 0 < leftN listed := by
  have := leftN_set h; omega
theorem all_listed {listed : Array Bool} (hwf : ∀ (j : Nat) o, ops[j]? = some o → ∀ e ∈ o.after, e.on < j) (hs : listed.size = ops.size) (hr : Region.ready .any ops listed = []) : ∀ j, listed.getD j true = true := by
  intro j
  induction j using Nat.strongRecOn with
  | _ j ih =>
    cases hj : listed.getD j true with
    | true => rfl
    | false =>
      have hlt : j < ops.size := by
        obtain ⟨hi, _⟩ := getD_false hj
        rw [← hs]; simpa using hi
      have ho : ops[j]? = some ops[j] := Array.getElem?_eq_getElem hlt
      have : j ∈ Region.ready .any ops listed := mem_ready.2 ⟨hj, _, ho, fun e he _ => by
        have h1 := ih e.on (hwf j _ ho e he)
        have h2 : e.on < listed.size := by have := hwf j _ ho e he; omega
        simpa [Array.getD, h2] using h1⟩
      rw [hr] at this
      cases this
theorem getD_put {listed : Array Bool} {i : Nat} (j : Nat) : (listed.setIfInBounds i true).getD j true = true ↔ j = i ∨ listed.getD j true = true := by
  by_cases hj : j < listed.size
  · by_cases hi : j = i
    · subst hi; simp [Array.getD, hj]
    · simp [Array.getD, hj, hi, Array.getElem_setIfInBounds, Ne.symm hi]
  · simp [Array.getD, hj]
theorem wpAny_inv (I : (Nat → Prop) → Act → World → Prop) (hwf : ∀ (j : Nat) o, ops[j]? = some o → ∀ e ∈ o.after, e.on < j)
    (hstep : ∀ D a w i o, ops[i]? = some o → (∀ e ∈ o.after, Region.binds .any e = true → D e.on) → I D a w → wpOp P ops Q i (fun a' w' => I (fun j => j = i ∨ D j) a' w') a w)
    (hdone : ∀ D a w, (∀ j, D j) → I D a w → Q .normal a w) :
    ∀ (fuel : Nat) (listed : Array Bool) (a : Act) (w : World), listed.size = ops.size → leftN listed ≤ fuel → I (fun j => listed.getD j true = true) a w → wpAny P .any ops Q fuel listed a w
  | 0, listed, a, w, hs, hf, hI => by
    have hr : Region.ready .any ops listed = [] := by
      cases h : Region.ready .any ops listed with
      | nil => rfl
      | cons i rs =>
        have hi : i ∈ Region.ready .any ops listed := by rw [h]; simp
        have := leftN_pos (mem_ready.1 hi).1
        omega
    exact ⟨hr, hdone _ a w (all_listed hwf hs hr) hI⟩
  | fuel + 1, listed, a, w, hs, hf, hI => by
    refine ⟨fun hr => hdone _ a w (all_listed hwf hs hr) hI, fun i hi => ?_⟩
    obtain ⟨hn, o, ho, hd⟩ := mem_ready.1 hi
    refine wpOp_mono (fun a' w' hI' => ?_) (hstep _ a w i o ho (fun e he hb => ?_) hI)
    · refine wpAny_inv I hwf hstep hdone fuel _ a' w' (by simpa using hs) (by have := leftN_set hn; omega) ?_
      have hfun : (fun j => (listed.setIfInBounds i true).getD j true = true) = fun j => j = i ∨ listed.getD j true = true := funext fun j => propext (getD_put j)
      rw [hfun]
      exact hI'
    · have h1 := hd e he hb
      have h2 : e.on < listed.size := by
        rcases Nat.lt_or_ge e.on listed.size with h | h
        · exact h
        · simp [Array.getD, Nat.not_lt.2 h] at h1
      simpa [Array.getD, h2] using h1
/-- A region that draws its order: what holds of what has come up (D), whatever the order is. -/
theorem wp_region_inv {id : Nat} {a : Act} {w : World} (I : (Nat → Prop) → Act → World → Prop) (hm : P.follows .mixedOrders = true)
    (hwf : (ops.toList.zipIdx.all fun p => p.1.after.all fun e => decide (e.on < p.2)) = true)
    (h0 : I (fun j => ops.size ≤ j) a w.drew)
    (hstep : ∀ D a w i o, ops[i]? = some o → (∀ e ∈ o.after, Region.binds .any e = true → D e.on) → I D a w → wpOp P ops Q i (fun a' w' => I (fun j => j = i ∨ D j) a' w') a w)
    (hdone : ∀ D a w, (∀ j, D j) → I D a w → Q .normal a w) : (Code.region id ops true).wp P Q a w := by
  refine wp_region_any hm (wpAny_inv I (fun j o ho e he => ?_) hstep hdone ops.size _ a _ (by simp) (by unfold leftN; simp [List.countP_replicate]) ?_)
  · have hlt : j < ops.size := (Array.getElem?_eq_some_iff.1 ho).1
    have hp : (o, j) ∈ ops.toList.zipIdx := by
      rw [List.mem_iff_getElem?]
      exact ⟨j, by rw [List.getElem?_zipIdx, Array.getElem?_toList, ho]; simp⟩
    have h1 := List.all_eq_true.1 hwf _ hp
    have h2 := Array.all_eq_true_iff_forall_mem.1 h1 e he
    simpa using h2
  · have hfun : (fun j => (Array.replicate ops.size false).getD j true = true) = fun j => ops.size ≤ j := funext fun j => propext (by
      by_cases hj : j < ops.size
      · simp [Array.getD, hj]
      · simp [Array.getD, hj]; omega)
    rw [hfun]
    exact h0
end
section
variable {P : Program} {w : World} {base e bytes m c size g : Nat} {z : Value} {A : Option Addr} {news : List Value}
theorem run_append_lit (t ty : TypeId) (ht : P.underlying t = some (.slice e)) (hi : (P.info? e).map (fun i => (i.zero, i.size, i.bytes)) = some (some z, size, bytes)) (hzs : z.cells.size = size) (hsz : 0 < size)
    (hg : Blk w g e #[]) (hbg : base ≤ g) (hr : RdS w A m size news) (h1 : ∀ u ∈ news, u.oneCell' = true) (h63 : m ≤ maxLen) (hby : m * bytes ≤ 140737488355328) :
    ∃ v' w', (Builtin.append_ #[t, t] ty #[.slice (some ⟨g, 0, none⟩) 0 0, .slice A m c]).run P w = .ok v' w' ∧ w'.ownsRow base e size v' m news ∧ Below w.heap.size w w' := by
  obtain ⟨i, hi0, hz, hs1, hs2⟩ := info_parts hi
  have hown : w.ownsRow base e size (.slice (some ⟨g, 0, none⟩) 0 0) 0 [] := ⟨by simp, .inr ⟨g, 0, #[], rfl, hbg, hg, Nat.le_refl _, Nat.zero_le _, by simp, by simp⟩⟩
  rcases Nat.eq_zero_or_pos m with h0 | h0
  · subst h0
    have hn : news = [] := List.eq_nil_of_length_eq_zero (by rw [hr.1]; simp)
    subst hn
    refine ⟨.slice (some ⟨g, 0, none⟩) 0 0, w, ?_, hown, Below.refl _ _⟩
    rcases A with _ | ad
    · simp [Builtin.append_, run_underlying ht, sizeOf, typeInfo, hi0, Builtin.lenOf, Builtin.firstCells, storeCells]
    · simp [Builtin.append_, run_underlying ht, sizeOf, typeInfo, hi0, Builtin.lenOf, Builtin.firstCells, storeCells, loadCells, loadCellsFrom]
  · obtain ⟨ad, rfl, hblk, hcell⟩ := hr.2.resolve_left (by omega)
    obtain ⟨v', w', hrun, h2, h3, _, _⟩ := run_append_own_at (P := P) w base t ty e i z size bytes ht hi0 hz hs1 hs2 hzs hsz _ 0 [] hown ad m c news hr.1 hcell h1 (by omega) (by simpa using hby) (by have := hg.lt; omega)
    subst hs1 hs2
    have hrun2 := run_append_grow (P := P) w t ty e i z ht hi0 hz ⟨g, 0, none⟩ 0 0 [] (by simp) (fun j u hu => by simp at hu) ad m c news hr.1 hcell (by omega) (by unfold maxLen at h63; omega) (growslice_fits (by omega) (by simpa using hby))
    rw [hrun] at hrun2
    injection hrun2 with e1 e2
    refine ⟨v', w', hrun, by simpa using h2, ?_⟩
    rw [e2]
    exact ((Dr.below ⟨1, rfl⟩ w.heap.size).alloc (Nat.le_refl _) _)
/-- append of a whole slice onto a literal that holds nothing, as a step of a region that draws its order: all that lies stays -/
theorem step_append_lit {ops : Array Oper} {o : Oper} {a : Act} {K : Act → World → Prop} {Q : Exit → Act → World → Prop} {E : Prop} (hgd : o.guard = none) (s x : Operand) (t : TypeId)
    (ho : o.op = .call { callee := .builtin .append, args := #[s, x], argTypes := #[t, t] })
    (ht : P.underlying t = some (.slice e)) (hi : (P.info? e).map (fun i => (i.zero, i.size, i.bytes)) = some (some z, size, bytes)) (hzs : z.cells.size = size) (hsz : 0 < size)
    (hs : a.eval s = .slice (some ⟨g, 0, none⟩) 0 0) (hx : a.eval x = .slice A m c) (hg : Blk w g e #[]) (hbg : base ≤ g) (hr : RdS w A m size news) (h1 : ∀ u ∈ news, u.oneCell' = true) (h63 : m ≤ maxLen) (hby : m * bytes ≤ 140737488355328)
    (h : ∀ v' w', w'.ownsRow base e size v' m news → Below w.heap.size w w' → K (a.put o.dst v') w') :
    if Region.wanted o (yielded ops a.tmps) = true then Oper.wp P o a w K Q else E := by
  have hw : Region.wanted o (yielded ops a.tmps) = true := by simp [Region.wanted, hgd]
  rw [if_pos hw]
  obtain ⟨v', w', hrun, h2, h3⟩ := run_append_lit (c := c) t o.type ht hi hzs hsz hg hbg hr h1 h63 hby
  unfold Oper.wp execOp
  simp only [ho, resolve, invoke, builtin, Sem.run_bind, Sem.run_pure, Result.andThen_ok, List.map_toArray, List.map_cons, List.map_nil, hs, hx, hrun]
  exact h v' w' h2 h3
end
section
variable {P : Program} {w : World} {base e bytes n m c size : Nat} {z v : Value} {A : Option Addr} {xs news : List Value}
theorem run_append_rdS (t ty : TypeId) (ht : P.underlying t = some (.slice e)) (hi : (P.info? e).map (fun i => (i.zero, i.size, i.bytes)) = some (some z, size, bytes)) (hzs : z.cells.size = size) (hsz : 0 < size)
    (hown : w.ownsRow base e size v n xs) (hbase : base ≤ w.heap.size) (hr : RdS w A m size news) (h1 : ∀ u ∈ news, u.oneCell' = true) (h63 : n + m ≤ maxLen) (hby : (n + m) * bytes ≤ 140737488355328) :
    ∃ v' w', (Builtin.append_ #[t, t] ty #[v, .slice A m c]).run P w = .ok v' w' ∧ w'.ownsRow base e size v' (n + m) (xs ++ news) ∧ w.grownBy w' v.ownBlock := by
  obtain ⟨i, hi0, hz, hs1, hs2⟩ := info_parts hi
  have hsome : (∃ ad, A = some ad ∧ ∀ k u, news[k]? = some u → w.cell? (ad.add k) = some u) ∨ (A = none ∧ m = 0) := by
    rcases hr.2 with hm | ⟨ad, h3, _, h5⟩
    · rcases A with _ | ad
      · exact .inr ⟨rfl, hm⟩
      · refine .inl ⟨ad, rfl, fun k u hk => ?_⟩
        have : news = [] := List.eq_nil_of_length_eq_zero (by rw [hr.1, hm]; simp)
        rw [this] at hk; cases hk
    · exact .inl ⟨ad, h3, h5⟩
  rcases hsome with ⟨ad, rfl, hcell⟩ | ⟨rfl, rfl⟩
  · obtain ⟨v', w', hrun, h2, h3, _, _⟩ := run_append_own_at (P := P) w base t ty e i z size bytes ht hi0 hz hs1 hs2 hzs hsz v n xs hown ad m c news hr.1 hcell h1 h63 hby hbase
    exact ⟨v', w', hrun, h2, h3⟩
  · have hn : news = [] := List.eq_nil_of_length_eq_zero (by rw [hr.1]; simp)
    subst hn
    refine ⟨v, w, ?_, by simpa using hown, World.grownBy.refl _ _⟩
    rcases hown.2 with ⟨rfl, rfl⟩ | ⟨g, cap, cur, rfl, _, _, hnc, _⟩
    · simp [Builtin.append_, run_underlying ht, sizeOf, typeInfo, hi0, Builtin.lenOf, Builtin.firstCells]
    · simp [Builtin.append_, run_underlying ht, sizeOf, typeInfo, hi0, Builtin.lenOf, Builtin.firstCells, hnc, storeCells]
/-- append of a whole slice, as a step of a region that draws its order -/
theorem step_append_rdS {ops : Array Oper} {o : Oper} {a : Act} {K : Act → World → Prop} {Q : Exit → Act → World → Prop} {E : Prop} (hgd : o.guard = none) (s x : Operand) (t : TypeId)
    (ho : o.op = .call { callee := .builtin .append, args := #[s, x], argTypes := #[t, t] })
    (ht : P.underlying t = some (.slice e)) (hi : (P.info? e).map (fun i => (i.zero, i.size, i.bytes)) = some (some z, size, bytes)) (hzs : z.cells.size = size) (hsz : 0 < size)
    (hs : a.eval s = v) (hx : a.eval x = .slice A m c) (hown : w.ownsRow base e size v n xs) (hbase : base ≤ w.heap.size) (hr : RdS w A m size news) (h1 : ∀ u ∈ news, u.oneCell' = true) (h63 : n + m ≤ maxLen) (hby : (n + m) * bytes ≤ 140737488355328)
    (h : ∀ v' w', w'.ownsRow base e size v' (n + m) (xs ++ news) → w.grownBy w' v.ownBlock → K (a.put o.dst v') w') :
    if Region.wanted o (yielded ops a.tmps) = true then Oper.wp P o a w K Q else E := by
  have hw : Region.wanted o (yielded ops a.tmps) = true := by simp [Region.wanted, hgd]
  rw [if_pos hw]
  obtain ⟨v', w', hrun, h2, h3⟩ := run_append_rdS (c := c) t o.type ht hi hzs hsz hown hbase hr h1 h63 hby
  unfold Oper.wp execOp
  simp only [ho, resolve, invoke, builtin, Sem.run_bind, Sem.run_pure, Result.andThen_ok, List.map_toArray, List.map_cons, List.map_nil, hs, hx, hrun]
  exact h v' w' h2 h3
end
theorem rd_rdS {w : World} {A : Option Addr} {n : Nat} {xs : List Value} (h : Rd w A n xs) : RdS w A n 1 xs := by
  refine ⟨by rw [h.1, Nat.mul_one], ?_⟩
  rcases Nat.eq_zero_or_pos n with h0 | h0
  · exact .inl h0
  · obtain ⟨ad, h1, h2⟩ := h.addr h0
    refine .inr ⟨ad, h1, h2, fun k u hk => ?_⟩
    have hkn : k < n := by have := (List.getElem?_eq_some_iff.1 hk).1; rw [h.1] at this; exact this
    obtain ⟨ad', u', h1', _, h3, h4⟩ := h.2 k hkn
    rw [h1] at h1'
    injection h1' with h1'
    subst h1'
    rw [hk] at h3
    injection h3 with h3
    subst h3
    exact h4
theorem lit2_rdS (w : World) (t : TypeId) (a b : Value) : RdS (w.alloc (.cells #[a, b] t)) (some ⟨w.heap.size, 0, none⟩) 2 1 [a, b] := by
  refine ⟨rfl, .inr ⟨_, rfl, by simp, fun k u hk => ?_⟩⟩
  have : (⟨w.heap.size, 0, none⟩ : Addr).add k = ⟨w.heap.size, k, none⟩ := by unfold Addr.add; split <;> simp_all
  rw [this, World.cell?_alloc_new]
  simpa using hk
/-- make of a row, as a step of a region that draws its order -/
theorem step_make {P : Program} {w : World} {ops : Array Oper} {o : Oper} {a : Act} {K : Act → World → Prop} {Q : Exit → Act → World → Prop} {E : Prop} (hgd : o.guard = none) (l c : Operand) (t : TypeId) (hop : o.op = Op.makeSlice t l c)
    (e : TypeId) {z : Value} {size bytes : Nat} (ht : P.underlying t = some (.slice e)) (hi : (P.info? e).map (fun i => (i.zero, i.size, i.bytes)) = some (some z, size, bytes))
    (kl kc : IntKind) (n : Nat) (hl : a.eval l = .int kl n) (hc : a.eval c = .int kc n) (b2 : bytes * n ≤ 281474976710656) (b3 : n ≤ maxLen)
    (h : ∀ w', w'.ownsRow w.heap.size e size (.slice (some ⟨w.heap.size, 0, none⟩) n n) n (madeCells z.cells (n * size)).toList → Below w.heap.size w w' → K (a.put o.dst (.slice (some ⟨w.heap.size, 0, none⟩) n n)) w') :
    if Region.wanted o (yielded ops a.tmps) = true then Oper.wp P o a w K Q else E := by
  obtain ⟨i, hi0, hz, hs1, hs2⟩ := info_parts hi
  have hw : Region.wanted o (yielded ops a.tmps) = true := by simp [Region.wanted, hgd]
  rw [if_pos hw]
  obtain ⟨w', hrun, r1, r2⟩ := run_make_full (P := P) w w.heap.size t e i z size ht hi0 hz hs1 kl kc n (by rw [hs2]; exact b2) b3 (Nat.le_refl _)
  unfold Oper.wp
  simp [execOp, hop, hl, hc, hrun, Result.andThen]
  exact h w' r1 ((Below.refl w.heap.size w).grown r2 (Nat.le_refl _) (by simp))
theorem keepCell {w w' : World} {p : Addr} {u : Value} (hb : Below w.heap.size w w') (h : w.cell? p = some u) : w'.cell? p = some u := (hb.cell (World.block_lt_of_cell? _ _ h)).trans h
section
variable {P : Program} {ops : Array Oper} {Q : Exit → Act → World → Prop}
def depsB (ops : Array Oper) (i j : Nat) : Bool := ((ops[i]?).map fun o => o.after.toList.any fun e => Region.binds .any e && e.on == j).getD false
/-- the law, by the operations' numbers -/
theorem wp_region_inv2 {id : Nat} {a : Act} {w : World} (I : (Nat → Prop) → Act → World → Prop) (hm : P.follows .mixedOrders = true)
    (hwf : (ops.toList.zipIdx.all fun p => p.1.after.all fun e => decide (e.on < p.2)) = true)
    (h0 : I (fun j => ops.size ≤ j) a w.drew)
    (hstep : ∀ D a w i, i < ops.size → (∀ j, depsB ops i j = true → D j) → I D a w → wpOp P ops Q i (fun a' w' => I (fun j => j = i ∨ D j) a' w') a w)
    (hdone : ∀ D a w, (∀ j, D j) → I D a w → Q .normal a w) : (Code.region id ops true).wp P Q a w := by
  refine wp_region_inv I hm hwf h0 (fun D a w i o ho hd hI => hstep D a w i (Array.getElem?_eq_some_iff.1 ho).1 (fun j hj => ?_) hI) hdone
  unfold depsB at hj
  rw [ho] at hj
  simp only [Option.map_some, Option.getD_some] at hj
  rw [List.any_eq_true] at hj
  obtain ⟨e, he, h2⟩ := hj
  rw [Bool.and_eq_true, beq_iff_eq] at h2
  obtain ⟨h3, rfl⟩ := h2
  exact hd e (Array.mem_toList_iff.1 he) h3
/-- a literal of the call's own that holds nothing -/
def LitAt (base : Nat) (e : TypeId) (x : Value) (w : World) : Prop := ∃ g, x = .slice (some ⟨g, 0, none⟩) 0 0 ∧ base ≤ g ∧ Blk w g e #[]
theorem LitAt.step {base : Nat} {e : TypeId} {x : Value} {w w' : World} (h : LitAt base e x w) (hb : Below w.heap.size w w') : LitAt base e x w' := by
  obtain ⟨g, h1, h2, h3⟩ := h
  exact ⟨g, h1, h2, h3.below hb h3.lt⟩
theorem LitAt.own {base : Nat} {e : TypeId} {size : Nat} {x : Value} {w : World} (h : LitAt base e x w) : w.ownsRow base e size x 0 [] := by
  obtain ⟨g, rfl, h2, h3⟩ := h
  exact ⟨by simp, .inr ⟨g, 0, #[], rfl, h2, h3, Nat.le_refl _, Nat.zero_le _, by simp, by simp⟩⟩
theorem LitAt.new (w : World) (base : Nat) (e : TypeId) (h : base ≤ w.heap.size) : LitAt base e (.slice (some ⟨w.heap.size, 0, none⟩) 0 0) (w.alloc (.cells #[] e)) := ⟨_, rfl, h, Blk.new _ _ _⟩
theorem own_own_ne {w : World} {b1 b2 e1 e2 s1 s2 n1 n2 : Nat} {v1 v2 : Value} {xs1 xs2 : List Value} (h1 : w.ownsRow b1 e1 s1 v1 n1 xs1) (h2 : w.ownsRow b2 e2 s2 v2 n2 xs2) (hne : e1 ≠ e2) : v1.ownBlock = none ∨ v1.ownBlock ≠ v2.ownBlock := by
  rcases h1.2 with ⟨rfl, _⟩ | ⟨g1, c1, cur1, rfl, _, hg1, _⟩
  · exact .inl rfl
  · right
    rcases h2.2 with ⟨rfl, _⟩ | ⟨g2, c2, cur2, rfl, _, hg2, _⟩
    · simp [Value.ownBlock]
    · intro he
      have : g1 = g2 := by simpa [Value.ownBlock] using he
      subst this
      rw [hg1] at hg2
      injection hg2 with hg2
      injection hg2 with _ ht
      exact hne ht
end
end Go.Lt
end

section
/- Rows of kept cubes, read as lists. No program in sight. -/
namespace Go.Proofs.Ytcjoohaagdihlaa.Kept
open Go.RowKit Go.Lt
set_option linter.unusedVariables false
set_option linter.unusedSimpArgs false

/-- a slice's three words -/
structure Sl where
  A : Option Addr
  n : Nat
  c : Nat
abbrev Sl.val (s : Sl) : Value := .slice s.A s.n s.c
/-- one that is kept, as values -/
structure Kv where
  c : Sl
  d : Int
  i : Sl
/-- one that is kept -/
structure Kc where
  c : List Int
  d : Int
  i : List Bool
abbrev Kv.cells (x : Kv) : Array Value := #[x.c.val, .int .i64 x.d, x.i.val]
def encK (l : List Kv) : List Value := l.flatMap fun x => [x.c.val, .int .i64 x.d, x.i.val]
theorem encK_len (l : List Kv) : (encK l).length = l.length * 3 := flat_len _ 3 (fun _ => rfl) l
theorem encK_app (a b : List Kv) : encK (a ++ b) = encK a ++ encK b := by unfold encK; rw [List.flatMap_append]
theorem encK_one {l : List Kv} : ∀ u ∈ encK l, u.oneCell' = true := by
  intro u hu
  obtain ⟨x, _, hx⟩ := List.mem_flatMap.1 hu
  simp at hx
  rcases hx with rfl | rfl | rfl <;> rfl
theorem addr_off (ad : Addr) (n j : Nat) (hj : 0 < j) : (⟨(ad.add n).block, (ad.add n).off + j, none⟩ : Addr) = ad.add (n + j) := by
  unfold Addr.add
  rw [if_neg (show ¬ n + j = 0 by omega)]
  split
  · rename_i h; subst h; simp
  · simp [Nat.add_assoc]
/-- a slice of them reads as a list -/
def RdK (w : World) (A : Option Addr) (n : Nat) (l : List Kv) : Prop :=
  l.length = n ∧ ∀ k, k < n → ∃ ad x, A = some ad ∧ ad.block < w.heap.size ∧ l[k]? = some x ∧ w.cell? (ad.add (k * 3)) = some x.c.val ∧ w.cell? (ad.add (k * 3 + 1)) = some (.int .i64 x.d) ∧ w.cell? (ad.add (k * 3 + 2)) = some x.i.val
theorem RdK.nil (w : World) (A : Option Addr) : RdK w A 0 [] := ⟨rfl, fun _ h => absurd h (Nat.not_lt_zero _)⟩
theorem RdK.below {w w' : World} {A : Option Addr} {n B : Nat} {l : List Kv} (h : RdK w A n l) (hb : Below B w w') (hB : w.heap.size ≤ B) : RdK w' A n l :=
  ⟨h.1, fun k hk => by
    obtain ⟨ad, x, h1, h2, h3, h4, h5, h6⟩ := h.2 k hk
    have hh : ad.block < B := Nat.lt_of_lt_of_le h2 hB
    exact ⟨ad, x, h1, Nat.lt_of_lt_of_le h2 hb.size, h3, (hb.cell (by rw [add_block]; exact hh)).trans h4, (hb.cell (by rw [add_block]; exact hh)).trans h5, (hb.cell (by rw [add_block]; exact hh)).trans h6⟩⟩
theorem RdK.get {w : World} {A : Option Addr} {n k : Nat} {l : List Kv} (h : RdK w A n l) (hk : k < n) :
    ∃ ad x, A = some ad ∧ ad.block < w.heap.size ∧ l[k]? = some x ∧ w.cell? (ad.add (k * 3)) = some x.c.val ∧ w.cell? ⟨(ad.add (k * 3)).block, (ad.add (k * 3)).off + 1, none⟩ = some (.int .i64 x.d) ∧ w.cell? ⟨(ad.add (k * 3)).block, (ad.add (k * 3)).off + 2, none⟩ = some x.i.val := by
  obtain ⟨ad, x, h1, h2, h3, h4, h5, h6⟩ := h.2 k hk
  exact ⟨ad, x, h1, h2, h3, h4, by rw [addr_off _ _ _ (by omega)]; exact h5, by rw [addr_off _ _ _ (by omega)]; exact h6⟩
theorem RdK.of_own {w : World} {base n : Nat} {e : TypeId} {v : Value} {l : List Kv} (h : w.ownsRow base e 3 v n (encK l)) : ∃ A c, v = .slice A n c ∧ n ≤ c ∧ c ≤ maxLen ∧ RdK w A n l := by
  have hl : l.length = n := by have := h.1; rw [encK_len] at this; omega
  obtain ⟨_, h2⟩ := h
  rcases h2 with ⟨rfl, rfl⟩ | ⟨g, cap, cur, rfl, hbg, hg, hnc, hcm, hcs, htake⟩
  · exact ⟨none, 0, rfl, Nat.le_refl _, Nat.zero_le _, hl, fun k hk => absurd hk (Nat.not_lt_zero _)⟩
  · refine ⟨some ⟨g, 0, none⟩, cap, rfl, hnc, hcm, hl, fun k hk => ?_⟩
    have hx : l[k]? = some (l[k]'(by omega)) := List.getElem?_eq_getElem _
    have hcell := World.ownsRow.cells (w := w) (v := .slice (some ⟨g, 0, none⟩) n cap) ⟨by rw [encK_len, hl], .inr ⟨g, cap, cur, rfl, hbg, hg, hnc, hcm, hcs, htake⟩⟩ rfl
    have hq : ∀ j, j < 3 → (encK l)[k * 3 + j]? = [(l[k]'(by omega)).c.val, Value.int .i64 (l[k]'(by omega)).d, (l[k]'(by omega)).i.val][j]? := by
      intro j hj
      unfold encK
      rw [flat_get _ 3 (fun _ => rfl) (by omega), show (k * 3 + j) / 3 = k by omega, show (k * 3 + j) % 3 = j by omega, hx]
      rfl
    exact ⟨_, _, rfl, (Array.getElem?_eq_some_iff.1 hg).1, hx, hcell _ _ ((hq 0 (by omega)).trans rfl), hcell _ _ ((hq 1 (by omega)).trans rfl), hcell _ _ ((hq 2 (by omega)).trans rfl)⟩
/-- the first ones with their places -/
def upK (l : List Kv) (k : Nat) : List (Nat × Kv) := (l.take k).zipIdx.map fun p => (p.2, p.1)
theorem upK_succ {l : List Kv} {k : Nat} {x : Kv} (h : l[k]? = some x) : upK l (k + 1) = upK l k ++ [(k, x)] := by
  have hk : k < l.length := (List.getElem?_eq_some_iff.1 h).1
  unfold upK
  rw [List.take_add_one, h, Option.toList_some, List.zipIdx_append, List.map_append]
  simp [Nat.min_eq_left (Nat.le_of_lt hk)]
theorem upK_len (l : List Kv) (k : Nat) (h : k ≤ l.length) : (upK l k).length = k := by unfold upK; simp [h]
end Go.Proofs.Ytcjoohaagdihlaa.Kept
end

section
/- Numbers, rising, each once: the plain laws, no program in sight. -/
namespace Go.Proofs.Ytcjoohaagdihlaa.Sorted
set_option linter.unusedVariables false
set_option linter.unusedSimpArgs false

/-- a number is put among rising ones -/
def insO (out : List Int) (x : Int) : List Int := if x ∈ out then out else out.filter (· < x) ++ x :: out.filter (x < ·)
/-- numbers, rising, each once -/
def srt (l : List Int) : List Int := l.foldl insO []
def Rise (l : List Int) : Prop := l.Pairwise (· < ·)

theorem insO_mem {out : List Int} {x y : Int} : y ∈ insO out x ↔ y ∈ out ∨ y = x := by
  unfold insO
  split
  · rename_i h
    constructor
    · exact .inl
    · rintro (h1 | rfl)
      · exact h1
      · exact h
  · rename_i h
    simp only [List.mem_append, List.mem_cons, List.mem_filter, decide_eq_true_eq]
    constructor
    · rintro (⟨h1, _⟩ | rfl | ⟨h1, _⟩)
      · exact .inl h1
      · exact .inr rfl
      · exact .inl h1
    · rintro (h1 | rfl)
      · have : y ≠ x := fun e => h (e ▸ h1)
        rcases Int.lt_or_gt_of_ne this with h2 | h2
        · exact .inl ⟨h1, h2⟩
        · exact .inr (.inr ⟨h1, h2⟩)
      · exact .inr (.inl rfl)
theorem insO_rise {out : List Int} {x : Int} (h : Rise out) : Rise (insO out x) := by
  unfold insO
  split
  · exact h
  · unfold Rise
    rw [List.pairwise_append]
    refine ⟨h.filter _, ?_, ?_⟩
    · rw [List.pairwise_cons]
      exact ⟨fun y hy => by simpa using (List.mem_filter.1 hy).2, h.filter _⟩
    · intro a ha b hb
      have ha' : a < x := by simpa using (List.mem_filter.1 ha).2
      rcases List.mem_cons.1 hb with rfl | hb
      · exact ha'
      · have : x < b := by simpa using (List.mem_filter.1 hb).2
        omega
theorem foldl_mem {l out : List Int} {y : Int} : y ∈ l.foldl insO out ↔ y ∈ out ∨ y ∈ l := by
  induction l generalizing out with
  | nil => simp
  | cons a l ih =>
    rw [List.foldl_cons, ih, insO_mem, List.mem_cons, or_assoc]
theorem foldl_rise {l out : List Int} (h : Rise out) : Rise (l.foldl insO out) := by
  induction l generalizing out with
  | nil => exact h
  | cons a l ih => exact ih (insO_rise h)
theorem srt_mem {l : List Int} {y : Int} : y ∈ srt l ↔ y ∈ l := by unfold srt; rw [foldl_mem]; simp
theorem srt_rise (l : List Int) : Rise (srt l) := foldl_rise List.Pairwise.nil
theorem rise_one {a b : List Int} (ha : Rise a) (hb : Rise b) (h : ∀ y, y ∈ a ↔ y ∈ b) : a = b := by
  induction a generalizing b with
  | nil =>
    cases b with
    | nil => rfl
    | cons y b => exact absurd ((h y).2 List.mem_cons_self) (List.not_mem_nil)
  | cons x a ih =>
    cases b with
    | nil => exact absurd ((h x).1 List.mem_cons_self) (List.not_mem_nil)
    | cons y b =>
      obtain ⟨hx, ha'⟩ := List.pairwise_cons.1 ha
      obtain ⟨hy, hb'⟩ := List.pairwise_cons.1 hb
      have hxy : x = y := by
        rcases List.mem_cons.1 ((h x).1 List.mem_cons_self) with e | h1
        · exact e
        · rcases List.mem_cons.1 ((h y).2 List.mem_cons_self) with e | h2
          · exact e.symm
          · have := hx y h2; have := hy x h1; omega
      subst hxy
      congr 1
      refine ih ha' hb' fun z => ?_
      constructor
      · intro hz
        rcases List.mem_cons.1 ((h z).1 (List.mem_cons_of_mem _ hz)) with rfl | h1
        · have := hx _ hz; omega
        · exact h1
      · intro hz
        rcases List.mem_cons.1 ((h z).2 (List.mem_cons_of_mem _ hz)) with rfl | h1
        · have := hy _ hz; omega
        · exact h1
theorem srt_snoc (l : List Int) (x : Int) : srt (l ++ [x]) = insO (srt l) x := by unfold srt; rw [List.foldl_append]; rfl
theorem insO_len (out : List Int) (x : Int) : (insO out x).length ≤ out.length + 1 := by
  unfold insO
  split
  · omega
  · rename_i h
    rw [List.length_append, List.length_cons]
    have : (out.filter (· < x)).length + (out.filter (x < ·)).length ≤ out.length := by
      clear h
      induction out with
      | nil => simp
      | cons a l ih =>
        simp only [List.filter_cons]
        split <;> split <;> simp_all <;> omega
    omega
theorem srt_len (l : List Int) : (srt l).length ≤ l.length := by
  have : ∀ (l out : List Int), (l.foldl insO out).length ≤ out.length + l.length := by
    intro l
    induction l with
    | nil => intro out; simp
    | cons a l ih =>
      intro out
      have h1 := ih (insO out a)
      have h2 := insO_len out a
      simp only [List.foldl_cons, List.length_cons]
      omega
  have h := this l []
  rw [List.length_nil, Nat.zero_add] at h
  exact h

/-! ### What slices.Compact leaves of what slices.Sort leaves -/
theorem upTo_rise (d : List Int) (hs : d.Pairwise (· ≤ ·)) : ∀ m, m ≤ d.length → Rise (Lib.compactUpTo d.toArray m) ∧ (∀ y, y ∈ Lib.compactUpTo d.toArray m ↔ y ∈ d.take m) ∧ (∀ y ∈ d.take m, ∀ z, d[m - 1]? = some z → y ≤ z) := by
  intro m
  induction m with
  | zero => intro _; simp [Lib.compactUpTo, Rise]
  | succ m ih =>
    intro hm
    obtain ⟨h1, h2, h3⟩ := ih (by omega)
    have hx : d[m]? = some (d[m]'(by omega)) := List.getElem?_eq_getElem _
    have hg : d.toArray[m]! = d[m]'(by omega) := by simp [getElem!_pos, show m < d.length by omega]
    have ht : d.take (m + 1) = d.take m ++ [d[m]'(by omega)] := by rw [List.take_add_one, hx]; rfl
    have h4 : ∀ y ∈ d.take (m + 1), y ≤ d[m]'(by omega) := by
      intro y hy
      obtain ⟨i, hi, rfl⟩ := List.getElem_of_mem hy
      have hi' : i < m + 1 := by have := hi; simp at this; omega
      rw [List.getElem_take]
      rcases Nat.lt_or_ge i m with h | h
      · exact List.pairwise_iff_getElem.1 hs i m (by omega) (by omega) h
      · have : i = m := by omega
        subst this; exact Int.le_refl _
    refine ⟨?_, ?_, ?_⟩
    · rw [Lib.compactUpTo_succ]
      by_cases hk : Lib.keeps d.toArray m = true
      · rw [if_pos hk, hg]
        unfold Rise
        rw [List.pairwise_append]
        refine ⟨h1, by simp, ?_⟩
        intro a ha b hb
        have hb : b = d[m]'(by omega) := by simpa using hb
        subst hb
        have ha := (h2 a).1 ha
        have hm0 : 0 < m := by
          rcases Nat.eq_zero_or_pos m with h0 | h0
          · subst h0; simp at ha
          · exact h0
        have hp : d[m - 1]? = some (d[m - 1]'(by omega)) := List.getElem?_eq_getElem _
        have hle := h3 a ha _ hp
        have hle2 : d[m - 1]'(by omega) ≤ d[m]'(by omega) := List.pairwise_iff_getElem.1 hs (m - 1) m (by omega) (by omega) (by omega)
        have hg1 : d.toArray[m - 1]! = d[m - 1]'(by omega) := by simp [getElem!_pos, show m - 1 < d.length by omega]
        unfold Lib.keeps at hk
        rw [decide_eq_true_iff, hg, hg1] at hk
        rcases hk with hk | hk <;> omega
      · rw [if_neg hk, List.append_nil]; exact h1
    · intro y
      rw [Lib.compactUpTo_succ, ht, List.mem_append, List.mem_append, h2]
      by_cases hk : Lib.keeps d.toArray m = true
      · rw [if_pos hk, hg]
      · rw [if_neg hk]
        simp only [List.not_mem_nil, or_false, List.mem_singleton]
        constructor
        · exact .inl
        · rintro (h | rfl)
          · exact h
          · unfold Lib.keeps at hk
            have hm0 : 0 < m := by
              rcases Nat.eq_zero_or_pos m with h0 | h0
              · exact absurd (by simp [h0]) hk
              · exact h0
            have hg1 : d.toArray[m - 1]! = d[m - 1]'(by omega) := by simp [getElem!_pos, show m - 1 < d.length by omega]
            rw [decide_eq_true_iff, hg, hg1] at hk
            have he : d[m]'(by omega) = d[m - 1]'(by omega) := by
              apply Classical.byContradiction
              intro hne
              exact hk (.inr hne)
            rw [he]
            rw [List.mem_take_iff_getElem]
            exact ⟨m - 1, by omega, rfl⟩
    · intro y hy z hz
      rw [Nat.add_sub_cancel, hx] at hz
      rw [← Option.some.inj hz]
      exact h4 y hy
theorem compact_sort (l : List Int) : Lib.compact (l.mergeSort fun x y => decide (x ≤ y)) = srt l := by
  have hp : (l.mergeSort fun x y => decide (x ≤ y)).Pairwise (· ≤ ·) := by
    have := List.pairwise_mergeSort (le := fun x y : Int => decide (x ≤ y)) (fun a b c h1 h2 => by simp at *; omega) (fun a b => by simp; omega) l
    exact this.imp (fun h => by simpa using h)
  obtain ⟨h1, h2, _⟩ := upTo_rise _ hp _ (Nat.le_refl _)
  refine rise_one h1 (srt_rise l) fun y => ?_
  unfold Lib.compact
  rw [h2, List.take_length, List.mem_mergeSort, srt_mem]
end Go.Proofs.Ytcjoohaagdihlaa.Sorted
end

section
/- Steps, and what is learned of them: the plain words, and how steps lie in memory. No program in sight. -/
namespace Go.Proofs.Ytcjoohaagdihlaa.Learn
open Go.RowKit Go.Lt Go.Proofs.Ytcjoohaagdihlaa.Lit Go.Proofs.Ytcjoohaagdihlaa.Sorted
open Go.Proofs.Ytcjoohaagdihlaa.Kept (Sl Sl.val addr_off)
set_option linter.unusedVariables false
set_option linter.unusedSimpArgs false

/-- a step: a literal, its level, why -/
structure St where
  lit : Int
  lev : Int
  why : List Int
def zSt : St := ⟨0, 0, []⟩
def stAt (l : List St) (i : Nat) : St := l.getD i zSt
theorem stAt_is {l : List St} {i : Nat} {x : St} (h : l[i]? = some x) : stAt l i = x := by unfold stAt; rw [List.getD_eq_getElem?_getD, h]; rfl
theorem stAt_get {l : List St} {i : Nat} (h : i < l.length) : l[i]? = some (stAt l i) := by
  rw [List.getElem?_eq_getElem h]; simp [stAt, List.getD, h]
theorem take_st {l : List St} {i : Nat} (h : i < l.length) : l.take (i + 1) = l.take i ++ [stAt l i] := by
  rw [List.take_add_one, stAt_get h]; rfl
/-- whether a literal is 0, or the inverse of one that became One -/
def zeroB (l : List St) (x : Int) : Bool := decide (x = 0) || (litGood x && l.any fun s => decide (s.lit = litNot x))
/-- where a variable is -/
def placeO (l : List St) (x : Int) : Option Nat := l.findIdx? fun s => decide (s.lit / 2 = x / 2)
def placeZ : Option Nat → Int
  | none => -1
  | some i => i
def lvl (l : List St) : Nat → Int
  | 0 => 0
  | i + 1 => (stAt l i).lev
def whyB (pre : List St) (s : St) (y : Int) : Bool := decide (y = s.lit) || zeroB pre y
/-- one step more -/
structure OkStep (pre : List St) (lev : Int) (s : St) : Prop where
  two : 2 ≤ s.lit
  good : s.lit ≤ 33554433
  new : placeO pre s.lit = none
  up : lev ≤ s.lev
  tried : s.why = [] ↔ lev < s.lev
  has : s.why ≠ [] → s.lit ∈ s.why
  why : ∀ y ∈ s.why, whyB pre s y = true
def OkTo (l : List St) (n : Nat) : Prop := ∀ i, i < n → OkStep (l.take i) (lvl l i) (stAt l i)
def GoodP (l : List St) (bad : List Int) : Prop := OkTo l l.length ∧ ∀ x ∈ bad, zeroB l x = true
noncomputable def goodB (l : List St) (bad : List Int) : Bool := @decide (GoodP l bad) (Classical.propDecidable _)
theorem goodB_yes {l : List St} {bad : List Int} (h : GoodP l bad) : goodB l bad = true := by unfold goodB; exact @decide_eq_true _ (Classical.propDecidable _) h
theorem goodB_no {l : List St} {bad : List Int} (h : ¬ GoodP l bad) : goodB l bad = false := by unfold goodB; exact @decide_eq_false _ (Classical.propDecidable _) h
theorem good_of {l : List St} {bad : List Int} (h : goodB l bad = true) : GoodP l bad := by unfold goodB at h; exact @of_decide_eq_true _ (Classical.propDecidable _) h
theorem OkTo.succ {l : List St} {n : Nat} (h : OkTo l n) (hs : OkStep (l.take n) (lvl l n) (stAt l n)) : OkTo l (n + 1) := fun i hi => by
  by_cases h1 : i = n
  · subst h1; exact hs
  · exact h i (by omega)
theorem OkTo.lits {l : List St} {n : Nat} (h : OkTo l n) (hn : n ≤ l.length) : ∀ s ∈ l.take n, 2 ≤ s.lit ∧ s.lit ≤ 33554433 := fun s hs => by
  obtain ⟨i, hi, e⟩ := List.mem_take_iff_getElem.1 hs
  have := h i (by omega)
  have e2 : stAt l i = s := stAt_is (by rw [List.getElem?_eq_getElem (by omega), e])
  rw [e2] at this
  exact ⟨this.two, this.good⟩
/-- steps in memory: three cells each -/
def RdT (w : World) (A : Option Addr) (n : Nat) (l : List St) : Prop :=
  l.length = n ∧ ∀ k, k < n → ∃ ad x, ∃ s : Sl, A = some ad ∧ ad.block < w.heap.size ∧ l[k]? = some x ∧ w.cell? (ad.add (k * 3)) = some (.int .i64 x.lit) ∧ w.cell? (ad.add (k * 3 + 1)) = some (.int .i64 x.lev) ∧ w.cell? (ad.add (k * 3 + 2)) = some s.val ∧ Rd w s.A s.n (ivs x.why)
theorem RdT.nil (w : World) (A : Option Addr) : RdT w A 0 [] := ⟨rfl, fun _ h => absurd h (Nat.not_lt_zero _)⟩
theorem RdT.below {w w' : World} {A : Option Addr} {n B : Nat} {l : List St} (h : RdT w A n l) (hb : Below B w w') (hB : w.heap.size ≤ B) : RdT w' A n l :=
  ⟨h.1, fun k hk => by
    obtain ⟨ad, x, s, h1, h2, h3, h4, h5, h6, h7⟩ := h.2 k hk
    have hh : ad.block < B := Nat.lt_of_lt_of_le h2 hB
    exact ⟨ad, x, s, h1, Nat.lt_of_lt_of_le h2 hb.size, h3, (hb.cell (by rw [add_block]; exact hh)).trans h4, (hb.cell (by rw [add_block]; exact hh)).trans h5, (hb.cell (by rw [add_block]; exact hh)).trans h6, h7.below hb hB⟩⟩
theorem RdT.dr {w w' : World} {A : Option Addr} {n : Nat} {l : List St} (h : RdT w A n l) (hd : Dr w w') : RdT w' A n l := by obtain ⟨m, rfl⟩ := hd; exact h
theorem RdT.take_ {w : World} {A : Option Addr} {n m : Nat} {l : List St} (h : RdT w A n l) (hm : m ≤ n) : RdT w A m (l.take m) :=
  ⟨by rw [List.length_take, h.1]; omega, fun k hk => by
    obtain ⟨ad, x, s, h1, h2, h3, h4⟩ := h.2 k (by omega)
    exact ⟨ad, x, s, h1, h2, by rw [List.getElem?_take, if_pos hk]; exact h3, h4⟩⟩
theorem RdT.get {w : World} {A : Option Addr} {n k : Nat} {l : List St} (h : RdT w A n l) (hk : k < n) :
    ∃ ad x, ∃ s : Sl, A = some ad ∧ ad.block < w.heap.size ∧ l[k]? = some x ∧ w.cell? (ad.add (k * 3)) = some (.int .i64 x.lit) ∧ w.cell? ⟨(ad.add (k * 3)).block, (ad.add (k * 3)).off + 1, none⟩ = some (.int .i64 x.lev) ∧ w.cell? ⟨(ad.add (k * 3)).block, (ad.add (k * 3)).off + 2, none⟩ = some s.val ∧ Rd w s.A s.n (ivs x.why) := by
  obtain ⟨ad, x, s, h1, h2, h3, h4, h5, h6, h7⟩ := h.2 k hk
  exact ⟨ad, x, s, h1, h2, h3, h4, by rw [addr_off _ _ _ (by omega)]; exact h5, by rw [addr_off _ _ _ (by omega)]; exact h6, h7⟩
theorem find_step {l : List St} {x : Int} {k : Nat} {s : St} (hs : l[k]? = some s) (hno : placeO (l.take k) x = none) (h : s.lit / 2 = x / 2) : placeO l x = some k := by
  unfold placeO at *
  rw [List.findIdx?_eq_some_iff_getElem]
  obtain ⟨hk, e⟩ := List.getElem?_eq_some_iff.1 hs
  refine ⟨hk, by rw [e]; simpa using h, fun j hj => ?_⟩
  rw [List.findIdx?_eq_none_iff] at hno
  have := hno l[j] (List.mem_take_iff_getElem.2 ⟨j, by omega, rfl⟩)
  simpa using this
theorem find_next {l : List St} {x : Int} {k : Nat} {s : St} (hs : l[k]? = some s) (hno : placeO (l.take k) x = none) (h : ¬ s.lit / 2 = x / 2) : placeO (l.take (k + 1)) x = none := by
  unfold placeO at *
  rw [List.findIdx?_eq_none_iff] at hno ⊢
  intro y hy
  rw [List.take_add_one, hs] at hy
  rcases List.mem_append.1 hy with hy | hy
  · exact hno y hy
  · have : y = s := by simpa using hy
    rw [this]; simpa using h
theorem zero_hit {l : List St} {x : Int} {k : Nat} {s : St} (hs : l[k]? = some s) (hg : litGood x = true) (h : s.lit = litNot x) : zeroB l x = true := by
  unfold zeroB
  rw [hg, Bool.or_eq_true, Bool.true_and, List.any_eq_true]
  exact .inr ⟨s, List.mem_of_getElem? hs, by simpa using h⟩
theorem zero_miss {l : List St} {x : Int} (h0 : x ≠ 0) (h : ∀ k : Nat, k < l.length → ∀ s, l[k]? = some s → litGood x = true → s.lit ≠ litNot x) : zeroB l x = false := by
  unfold zeroB
  rw [Bool.or_eq_false_iff, Bool.and_eq_false_iff]
  refine ⟨by simpa using h0, ?_⟩
  cases hg : litGood x with
  | false => exact .inl rfl
  | true =>
    right
    rw [List.any_eq_false]
    intro s hs
    obtain ⟨k, hk⟩ := List.getElem?_of_mem hs
    have := h k (List.getElem?_eq_some_iff.1 hk).1 s hk hg
    simpa using this
end Go.Proofs.Ytcjoohaagdihlaa.Learn
end

section
/- A region that draws its order, by one invariant over what has come up, told also that what comes up has not come up yet. No program in sight. -/
namespace Go.Lt
open Go.RowKit
set_option linter.unusedVariables false
set_option linter.unusedSimpArgs false

section
variable {P : Program} {ops : Array Oper} {Q : Exit → Act → World → Prop}
theorem all_listed3 {listed : Array Bool} (hwf : ∀ (j : Nat) o, ops[j]? = some o → ∀ e ∈ o.after, Region.binds .any e = true → e.on < j) (hs : listed.size = ops.size) (hr : Region.ready .any ops listed = []) : ∀ j, listed.getD j true = true := by
  intro j
  induction j using Nat.strongRecOn with
  | _ j ih =>
    cases hj : listed.getD j true with
    | true => rfl
    | false =>
      have hlt : j < ops.size := by
        obtain ⟨hi, _⟩ := getD_false hj
        rw [← hs]; simpa using hi
      have ho : ops[j]? = some ops[j] := Array.getElem?_eq_getElem hlt
      have : j ∈ Region.ready .any ops listed := mem_ready.2 ⟨hj, _, ho, fun e he hb => by
        have h1 := ih e.on (hwf j _ ho e he hb)
        have h2 : e.on < listed.size := by have := hwf j _ ho e he hb; omega
        simpa [Array.getD, h2] using h1⟩
      rw [hr] at this
      cases this
theorem wpAny_inv3 (I : (Nat → Prop) → Act → World → Prop) (hwf : ∀ (j : Nat) o, ops[j]? = some o → ∀ e ∈ o.after, Region.binds .any e = true → e.on < j)
    (hstep : ∀ D a w i o, ops[i]? = some o → ¬ D i → (∀ e ∈ o.after, Region.binds .any e = true → D e.on) → I D a w → wpOp P ops Q i (fun a' w' => I (fun j => j = i ∨ D j) a' w') a w)
    (hdone : ∀ D a w, (∀ j, D j) → I D a w → Q .normal a w) :
    ∀ (fuel : Nat) (listed : Array Bool) (a : Act) (w : World), listed.size = ops.size → leftN listed ≤ fuel → I (fun j => listed.getD j true = true) a w → wpAny P .any ops Q fuel listed a w
  | 0, listed, a, w, hs, hf, hI => by
    have hr : Region.ready .any ops listed = [] := by
      cases h : Region.ready .any ops listed with
      | nil => rfl
      | cons i rs =>
        have hi : i ∈ Region.ready .any ops listed := by rw [h]; simp
        have := leftN_pos (mem_ready.1 hi).1
        omega
    exact ⟨hr, hdone _ a w (all_listed3 hwf hs hr) hI⟩
  | fuel + 1, listed, a, w, hs, hf, hI => by
    refine ⟨fun hr => hdone _ a w (all_listed3 hwf hs hr) hI, fun i hi => ?_⟩
    obtain ⟨hn, o, ho, hd⟩ := mem_ready.1 hi
    refine wpOp_mono (fun a' w' hI' => ?_) (hstep _ a w i o ho (by rw [hn]; simp) (fun e he hb => ?_) hI)
    · refine wpAny_inv3 I hwf hstep hdone fuel _ a' w' (by simpa using hs) (by have := leftN_set hn; omega) ?_
      have hfun : (fun j => (listed.setIfInBounds i true).getD j true = true) = fun j => j = i ∨ listed.getD j true = true := funext fun j => propext (getD_put j)
      rw [hfun]
      exact hI'
    · have h1 := hd e he hb
      have h2 : e.on < listed.size := by
        rcases Nat.lt_or_ge e.on listed.size with h | h
        · exact h
        · simp [Array.getD, Nat.not_lt.2 h] at h1
      simpa [Array.getD, h2] using h1
/-- the law, by the operations' numbers: what comes up has not come up yet -/
theorem wp_region_inv3 {id : Nat} {a : Act} {w : World} (I : (Nat → Prop) → Act → World → Prop) (hm : P.follows .mixedOrders = true)
    (hwf : (ops.toList.zipIdx.all fun p => p.1.after.all fun e => !Region.binds .any e || decide (e.on < p.2)) = true)
    (h0 : I (fun j => ops.size ≤ j) a w.drew)
    (hstep : ∀ D a w i, i < ops.size → ¬ D i → (∀ j, depsB ops i j = true → D j) → I D a w → wpOp P ops Q i (fun a' w' => I (fun j => j = i ∨ D j) a' w') a w)
    (hdone : ∀ D a w, (∀ j, D j) → I D a w → Q .normal a w) : (Code.region id ops true).wp P Q a w := by
  refine wp_region_any hm (wpAny_inv3 I (fun j o ho e he hb => ?_) (fun D a w i o ho hn hd hI => hstep D a w i (Array.getElem?_eq_some_iff.1 ho).1 hn (fun j hj => ?_) hI) hdone ops.size _ a _ (by simp) (by unfold leftN; simp [List.countP_replicate]) ?_)
  · have hlt : j < ops.size := (Array.getElem?_eq_some_iff.1 ho).1
    have hp : (o, j) ∈ ops.toList.zipIdx := by
      rw [List.mem_iff_getElem?]
      exact ⟨j, by rw [List.getElem?_zipIdx, Array.getElem?_toList, ho]; simp⟩
    have h1 := List.all_eq_true.1 hwf _ hp
    have h2 := Array.all_eq_true_iff_forall_mem.1 h1 e he
    simpa [hb] using h2
  · unfold depsB at hj
    rw [ho] at hj
    simp only [Option.map_some, Option.getD_some] at hj
    rw [List.any_eq_true] at hj
    obtain ⟨e, he, h2⟩ := hj
    rw [Bool.and_eq_true, beq_iff_eq] at h2
    obtain ⟨h3, rfl⟩ := h2
    exact hd e (Array.mem_toList_iff.1 he) h3
  · have hfun : (fun j => (Array.replicate ops.size false).getD j true = true) = fun j => ops.size ≤ j := funext fun j => propext (by
      by_cases hj : j < ops.size
      · simp [Array.getD, hj]
      · simp [Array.getD, hj]; omega)
    rw [hfun]
    exact h0
end
end Go.Lt
end
