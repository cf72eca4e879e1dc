/- A region that draws its order, by one invariant over what has come up; an append onto a literal that holds nothing leaves all that lies. No program in sight. -/
import Derived.Test.YtcjoohaagdihlaaMem3
import Derived.Deep.RegionHeld
import Derived.Maps.AppendAt
import Derived.OwnWalk
namespace Go.Lt
open Go.RowKit
set_option linter.unusedVariables false
set_option linter.unusedSimpArgs false

section
variable {P : Program} {ops : Array Oper} {Q : Exit → Act → World → Prop}
def leftN (listed : Array Bool) : Nat := listed.toList.countP (fun b => !b)
theorem getD_false {listed : Array Bool} {i : Nat} (h : listed.getD i true = false) : ∃ hi : i < listed.toList.length, listed.toList[i] = false := by
  by_cases hi : i < listed.size
  · refine ⟨by simpa using hi, ?_⟩
    simpa [Array.getD, hi] using h
  · simp [Array.getD, hi] at h
theorem leftN_set {listed : Array Bool} {i : Nat} (h : listed.getD i true = false) : leftN (listed.setIfInBounds i true) + 1 = leftN listed := by
  obtain ⟨hi, h2⟩ := getD_false h
  unfold leftN
  rw [Array.toList_setIfInBounds, List.countP_set hi, h2]
  have hp : 0 < listed.toList.countP (fun b => !b) := List.countP_pos_iff.2 ⟨false, by rw [← h2]; exact List.getElem_mem _, rfl⟩
  simp only [Bool.not_false, Bool.not_true, if_true, Bool.false_eq_true, if_false]
  omega
theorem leftN_pos {listed : Array Bool} {i : Nat} (h : listed.getD i true = false) : 0 < leftN listed := by
  have := leftN_set h; omega
theorem all_listed {listed : Array Bool} (hwf : ∀ (j : Nat) o, ops[j]? = some o → ∀ e ∈ o.after, e.on < j) (hs : listed.size = ops.size) (hr : Region.ready .any ops listed = []) : ∀ j, listed.getD j true = true := by
  intro j
  induction j using Nat.strongRecOn with
  | _ j ih =>
    cases hj : listed.getD j true with
    | true => rfl
    | false =>
      have hlt : j < ops.size := by
        obtain ⟨hi, _⟩ := getD_false hj
        rw [← hs]; simpa using hi
      have ho : ops[j]? = some ops[j] := Array.getElem?_eq_getElem hlt
      have : j ∈ Region.ready .any ops listed := mem_ready.2 ⟨hj, _, ho, fun e he _ => by
        have h1 := ih e.on (hwf j _ ho e he)
        have h2 : e.on < listed.size := by have := hwf j _ ho e he; omega
        simpa [Array.getD, h2] using h1⟩
      rw [hr] at this
      cases this
theorem getD_put {listed : Array Bool} {i : Nat} (j : Nat) : (listed.setIfInBounds i true).getD j true = true ↔ j = i ∨ listed.getD j true = true := by
  by_cases hj : j < listed.size
  · by_cases hi : j = i
    · subst hi; simp [Array.getD, hj]
    · simp [Array.getD, hj, hi, Array.getElem_setIfInBounds, Ne.symm hi]
  · simp [Array.getD, hj]
theorem wpAny_inv (I : (Nat → Prop) → Act → World → Prop) (hwf : ∀ (j : Nat) o, ops[j]? = some o → ∀ e ∈ o.after, e.on < j)
    (hstep : ∀ D a w i o, ops[i]? = some o → (∀ e ∈ o.after, Region.binds .any e = true → D e.on) → I D a w → wpOp P ops Q i (fun a' w' => I (fun j => j = i ∨ D j) a' w') a w)
    (hdone : ∀ D a w, (∀ j, D j) → I D a w → Q .normal a w) :
    ∀ (fuel : Nat) (listed : Array Bool) (a : Act) (w : World), listed.size = ops.size → leftN listed ≤ fuel → I (fun j => listed.getD j true = true) a w → wpAny P .any ops Q fuel listed a w
  | 0, listed, a, w, hs, hf, hI => by
    have hr : Region.ready .any ops listed = [] := by
      cases h : Region.ready .any ops listed with
      | nil => rfl
      | cons i rs =>
        have hi : i ∈ Region.ready .any ops listed := by rw [h]; simp
        have := leftN_pos (mem_ready.1 hi).1
        omega
    exact ⟨hr, hdone _ a w (all_listed hwf hs hr) hI⟩
  | fuel + 1, listed, a, w, hs, hf, hI => by
    refine ⟨fun hr => hdone _ a w (all_listed hwf hs hr) hI, fun i hi => ?_⟩
    obtain ⟨hn, o, ho, hd⟩ := mem_ready.1 hi
    refine wpOp_mono (fun a' w' hI' => ?_) (hstep _ a w i o ho (fun e he hb => ?_) hI)
    · refine wpAny_inv I hwf hstep hdone fuel _ a' w' (by simpa using hs) (by have := leftN_set hn; omega) ?_
      have hfun : (fun j => (listed.setIfInBounds i true).getD j true = true) = fun j => j = i ∨ listed.getD j true = true := funext fun j => propext (getD_put j)
      rw [hfun]
      exact hI'
    · have h1 := hd e he hb
      have h2 : e.on < listed.size := by
        rcases Nat.lt_or_ge e.on listed.size with h | h
        · exact h
        · simp [Array.getD, Nat.not_lt.2 h] at h1
      simpa [Array.getD, h2] using h1
/-- A region that draws its order: what holds of what has come up (D), whatever the order is. -/
theorem wp_region_inv {id : Nat} {a : Act} {w : World} (I : (Nat → Prop) → Act → World → Prop) (hm : P.follows .mixedOrders = true)
    (hwf : (ops.toList.zipIdx.all fun p => p.1.after.all fun e => decide (e.on < p.2)) = true)
    (h0 : I (fun j => ops.size ≤ j) a w.drew)
    (hstep : ∀ D a w i o, ops[i]? = some o → (∀ e ∈ o.after, Region.binds .any e = true → D e.on) → I D a w → wpOp P ops Q i (fun a' w' => I (fun j => j = i ∨ D j) a' w') a w)
    (hdone : ∀ D a w, (∀ j, D j) → I D a w → Q .normal a w) : (Code.region id ops true).wp P Q a w := by
  refine wp_region_any hm (wpAny_inv I (fun j o ho e he => ?_) hstep hdone ops.size _ a _ (by simp) (by unfold leftN; simp [List.countP_replicate]) ?_)
  · have hlt : j < ops.size := (Array.getElem?_eq_some_iff.1 ho).1
    have hp : (o, j) ∈ ops.toList.zipIdx := by
      rw [List.mem_iff_getElem?]
      exact ⟨j, by rw [List.getElem?_zipIdx, Array.getElem?_toList, ho]; simp⟩
    have h1 := List.all_eq_true.1 hwf _ hp
    have h2 := Array.all_eq_true_iff_forall_mem.1 h1 e he
    simpa using h2
  · have hfun : (fun j => (Array.replicate ops.size false).getD j true = true) = fun j => ops.size ≤ j := funext fun j => propext (by
      by_cases hj : j < ops.size
      · simp [Array.getD, hj]
      · simp [Array.getD, hj]; omega)
    rw [hfun]
    exact h0
end
section
variable {P : Program} {w : World} {base e bytes m c size g : Nat} {z : Value} {A : Option Addr} {news : List Value}
theorem run_append_lit (t ty : TypeId) (ht : P.underlying t = some (.slice e)) (hi : (P.info? e).map (fun i => (i.zero, i.size, i.bytes)) = some (some z, size, bytes)) (hzs : z.cells.size = size) (hsz : 0 < size)
    (hg : Blk w g e #[]) (hbg : base ≤ g) (hr : RdS w A m size news) (h1 : ∀ u ∈ news, u.oneCell' = true) (h63 : m ≤ maxLen) (hby : m * bytes ≤ 140737488355328) :
    ∃ v' w', (Builtin.append_ #[t, t] ty #[.slice (some ⟨g, 0, none⟩) 0 0, .slice A m c]).run P w = .ok v' w' ∧ w'.ownsRow base e size v' m news ∧ Below w.heap.size w w' := by
  obtain ⟨i, hi0, hz, hs1, hs2⟩ := info_parts hi
  have hown : w.ownsRow base e size (.slice (some ⟨g, 0, none⟩) 0 0) 0 [] := ⟨by simp, .inr ⟨g, 0, #[], rfl, hbg, hg, Nat.le_refl _, Nat.zero_le _, by simp, by simp⟩⟩
  rcases Nat.eq_zero_or_pos m with h0 | h0
  · subst h0
    have hn : news = [] := List.eq_nil_of_length_eq_zero (by rw [hr.1]; simp)
    subst hn
    refine ⟨.slice (some ⟨g, 0, none⟩) 0 0, w, ?_, hown, Below.refl _ _⟩
    rcases A with _ | ad
    · simp [Builtin.append_, run_underlying ht, sizeOf, typeInfo, hi0, Builtin.lenOf, Builtin.firstCells, storeCells]
    · simp [Builtin.append_, run_underlying ht, sizeOf, typeInfo, hi0, Builtin.lenOf, Builtin.firstCells, storeCells, loadCells, loadCellsFrom]
  · obtain ⟨ad, rfl, hblk, hcell⟩ := hr.2.resolve_left (by omega)
    obtain ⟨v', w', hrun, h2, h3, _, _⟩ := run_append_own_at (P := P) w base t ty e i z size bytes ht hi0 hz hs1 hs2 hzs hsz _ 0 [] hown ad m c news hr.1 hcell h1 (by omega) (by simpa using hby) (by have := hg.lt; omega)
    subst hs1 hs2
    have hrun2 := run_append_grow (P := P) w t ty e i z ht hi0 hz ⟨g, 0, none⟩ 0 0 [] (by simp) (fun j u hu => by simp at hu) ad m c news hr.1 hcell (by omega) (by unfold maxLen at h63; omega) (growslice_fits (by omega) (by simpa using hby))
    rw [hrun] at hrun2
    injection hrun2 with e1 e2
    refine ⟨v', w', hrun, by simpa using h2, ?_⟩
    rw [e2]
    exact ((Dr.below ⟨1, rfl⟩ w.heap.size).alloc (Nat.le_refl _) _)
/-- append of a whole slice onto a literal that holds nothing, as a step of a region that draws its order: all that lies stays -/
theorem step_append_lit {ops : Array Oper} {o : Oper} {a : Act} {K : Act → World → Prop} {Q : Exit → Act → World → Prop} {E : Prop} (hgd : o.guard = none) (s x : Operand) (t : TypeId)
    (ho : o.op = .call { callee := .builtin .append, args := #[s, x], argTypes := #[t, t] })
    (ht : P.underlying t = some (.slice e)) (hi : (P.info? e).map (fun i => (i.zero, i.size, i.bytes)) = some (some z, size, bytes)) (hzs : z.cells.size = size) (hsz : 0 < size)
    (hs : a.eval s = .slice (some ⟨g, 0, none⟩) 0 0) (hx : a.eval x = .slice A m c) (hg : Blk w g e #[]) (hbg : base ≤ g) (hr : RdS w A m size news) (h1 : ∀ u ∈ news, u.oneCell' = true) (h63 : m ≤ maxLen) (hby : m * bytes ≤ 140737488355328)
    (h : ∀ v' w', w'.ownsRow base e size v' m news → Below w.heap.size w w' → K (a.put o.dst v') w') :
    if Region.wanted o (yielded ops a.tmps) = true then Oper.wp P o a w K Q else E := by
  have hw : Region.wanted o (yielded ops a.tmps) = true := by simp [Region.wanted, hgd]
  rw [if_pos hw]
  obtain ⟨v', w', hrun, h2, h3⟩ := run_append_lit (c := c) t o.type ht hi hzs hsz hg hbg hr h1 h63 hby
  unfold Oper.wp execOp
  simp only [ho, resolve, invoke, builtin, Sem.run_bind, Sem.run_pure, Result.andThen_ok, List.map_toArray, List.map_cons, List.map_nil, hs, hx, hrun]
  exact h v' w' h2 h3
end
section
variable {P : Program} {w : World} {base e bytes n m c size : Nat} {z v : Value} {A : Option Addr} {xs news : List Value}
theorem run_append_rdS (t ty : TypeId) (ht : P.underlying t = some (.slice e)) (hi : (P.info? e).map (fun i => (i.zero, i.size, i.bytes)) = some (some z, size, bytes)) (hzs : z.cells.size = size) (hsz : 0 < size)
    (hown : w.ownsRow base e size v n xs) (hbase : base ≤ w.heap.size) (hr : RdS w A m size news) (h1 : ∀ u ∈ news, u.oneCell' = true) (h63 : n + m ≤ maxLen) (hby : (n + m) * bytes ≤ 140737488355328) :
    ∃ v' w', (Builtin.append_ #[t, t] ty #[v, .slice A m c]).run P w = .ok v' w' ∧ w'.ownsRow base e size v' (n + m) (xs ++ news) ∧ w.grownBy w' v.ownBlock := by
  obtain ⟨i, hi0, hz, hs1, hs2⟩ := info_parts hi
  have hsome : (∃ ad, A = some ad ∧ ∀ k u, news[k]? = some u → w.cell? (ad.add k) = some u) ∨ (A = none ∧ m = 0) := by
    rcases hr.2 with hm | ⟨ad, h3, _, h5⟩
    · rcases A with _ | ad
      · exact .inr ⟨rfl, hm⟩
      · refine .inl ⟨ad, rfl, fun k u hk => ?_⟩
        have : news = [] := List.eq_nil_of_length_eq_zero (by rw [hr.1, hm]; simp)
        rw [this] at hk; cases hk
    · exact .inl ⟨ad, h3, h5⟩
  rcases hsome with ⟨ad, rfl, hcell⟩ | ⟨rfl, rfl⟩
  · obtain ⟨v', w', hrun, h2, h3, _, _⟩ := run_append_own_at (P := P) w base t ty e i z size bytes ht hi0 hz hs1 hs2 hzs hsz v n xs hown ad m c news hr.1 hcell h1 h63 hby hbase
    exact ⟨v', w', hrun, h2, h3⟩
  · have hn : news = [] := List.eq_nil_of_length_eq_zero (by rw [hr.1]; simp)
    subst hn
    refine ⟨v, w, ?_, by simpa using hown, World.grownBy.refl _ _⟩
    rcases hown.2 with ⟨rfl, rfl⟩ | ⟨g, cap, cur, rfl, _, _, hnc, _⟩
    · simp [Builtin.append_, run_underlying ht, sizeOf, typeInfo, hi0, Builtin.lenOf, Builtin.firstCells]
    · simp [Builtin.append_, run_underlying ht, sizeOf, typeInfo, hi0, Builtin.lenOf, Builtin.firstCells, hnc, storeCells]
/-- append of a whole slice, as a step of a region that draws its order -/
theorem step_append_rdS {ops : Array Oper} {o : Oper} {a : Act} {K : Act → World → Prop} {Q : Exit → Act → World → Prop} {E : Prop} (hgd : o.guard = none) (s x : Operand) (t : TypeId)
    (ho : o.op = .call { callee := .builtin .append, args := #[s, x], argTypes := #[t, t] })
    (ht : P.underlying t = some (.slice e)) (hi : (P.info? e).map (fun i => (i.zero, i.size, i.bytes)) = some (some z, size, bytes)) (hzs : z.cells.size = size) (hsz : 0 < size)
    (hs : a.eval s = v) (hx : a.eval x = .slice A m c) (hown : w.ownsRow base e size v n xs) (hbase : base ≤ w.heap.size) (hr : RdS w A m size news) (h1 : ∀ u ∈ news, u.oneCell' = true) (h63 : n + m ≤ maxLen) (hby : (n + m) * bytes ≤ 140737488355328)
    (h : ∀ v' w', w'.ownsRow base e size v' (n + m) (xs ++ news) → w.grownBy w' v.ownBlock → K (a.put o.dst v') w') :
    if Region.wanted o (yielded ops a.tmps) = true then Oper.wp P o a w K Q else E := by
  have hw : Region.wanted o (yielded ops a.tmps) = true := by simp [Region.wanted, hgd]
  rw [if_pos hw]
  obtain ⟨v', w', hrun, h2, h3⟩ := run_append_rdS (c := c) t o.type ht hi hzs hsz hown hbase hr h1 h63 hby
  unfold Oper.wp execOp
  simp only [ho, resolve, invoke, builtin, Sem.run_bind, Sem.run_pure, Result.andThen_ok, List.map_toArray, List.map_cons, List.map_nil, hs, hx, hrun]
  exact h v' w' h2 h3
end
theorem rd_rdS {w : World} {A : Option Addr} {n : Nat} {xs : List Value} (h : Rd w A n xs) : RdS w A n 1 xs := by
  refine ⟨by rw [h.1, Nat.mul_one], ?_⟩
  rcases Nat.eq_zero_or_pos n with h0 | h0
  · exact .inl h0
  · obtain ⟨ad, h1, h2⟩ := h.addr h0
    refine .inr ⟨ad, h1, h2, fun k u hk => ?_⟩
    have hkn : k < n := by have := (List.getElem?_eq_some_iff.1 hk).1; rw [h.1] at this; exact this
    obtain ⟨ad', u', h1', _, h3, h4⟩ := h.2 k hkn
    rw [h1] at h1'
    injection h1' with h1'
    subst h1'
    rw [hk] at h3
    injection h3 with h3
    subst h3
    exact h4
theorem lit2_rdS (w : World) (t : TypeId) (a b : Value) : RdS (w.alloc (.cells #[a, b] t)) (some ⟨w.heap.size, 0, none⟩) 2 1 [a, b] := by
  refine ⟨rfl, .inr ⟨_, rfl, by simp, fun k u hk => ?_⟩⟩
  have : (⟨w.heap.size, 0, none⟩ : Addr).add k = ⟨w.heap.size, k, none⟩ := by unfold Addr.add; split <;> simp_all
  rw [this, World.cell?_alloc_new]
  simpa using hk
/-- make of a row, as a step of a region that draws its order -/
theorem step_make {P : Program} {w : World} {ops : Array Oper} {o : Oper} {a : Act} {K : Act → World → Prop} {Q : Exit → Act → World → Prop} {E : Prop} (hgd : o.guard = none) (l c : Operand) (t : TypeId) (hop : o.op = Op.makeSlice t l c)
    (e : TypeId) {z : Value} {size bytes : Nat} (ht : P.underlying t = some (.slice e)) (hi : (P.info? e).map (fun i => (i.zero, i.size, i.bytes)) = some (some z, size, bytes))
    (kl kc : IntKind) (n : Nat) (hl : a.eval l = .int kl n) (hc : a.eval c = .int kc n) (b2 : bytes * n ≤ 281474976710656) (b3 : n ≤ maxLen)
    (h : ∀ w', w'.ownsRow w.heap.size e size (.slice (some ⟨w.heap.size, 0, none⟩) n n) n (madeCells z.cells (n * size)).toList → Below w.heap.size w w' → K (a.put o.dst (.slice (some ⟨w.heap.size, 0, none⟩) n n)) w') :
    if Region.wanted o (yielded ops a.tmps) = true then Oper.wp P o a w K Q else E := by
  obtain ⟨i, hi0, hz, hs1, hs2⟩ := info_parts hi
  have hw : Region.wanted o (yielded ops a.tmps) = true := by simp [Region.wanted, hgd]
  rw [if_pos hw]
  obtain ⟨w', hrun, r1, r2⟩ := run_make_full (P := P) w w.heap.size t e i z size ht hi0 hz hs1 kl kc n (by rw [hs2]; exact b2) b3 (Nat.le_refl _)
  unfold Oper.wp
  simp [execOp, hop, hl, hc, hrun, Result.andThen]
  exact h w' r1 ((Below.refl w.heap.size w).grown r2 (Nat.le_refl _) (by simp))
theorem keepCell {w w' : World} {p : Addr} {u : Value} (hb : Below w.heap.size w w') (h : w.cell? p = some u) : w'.cell? p = some u := (hb.cell (World.block_lt_of_cell? _ _ h)).trans h
section
variable {P : Program} {ops : Array Oper} {Q : Exit → Act → World → Prop}
def depsB (ops : Array Oper) (i j : Nat) : Bool := ((ops[i]?).map fun o => o.after.toList.any fun e => Region.binds .any e && e.on == j).getD false
/-- the law, by the operations' numbers -/
theorem wp_region_inv2 {id : Nat} {a : Act} {w : World} (I : (Nat → Prop) → Act → World → Prop) (hm : P.follows .mixedOrders = true)
    (hwf : (ops.toList.zipIdx.all fun p => p.1.after.all fun e => decide (e.on < p.2)) = true)
    (h0 : I (fun j => ops.size ≤ j) a w.drew)
    (hstep : ∀ D a w i, i < ops.size → (∀ j, depsB ops i j = true → D j) → I D a w → wpOp P ops Q i (fun a' w' => I (fun j => j = i ∨ D j) a' w') a w)
    (hdone : ∀ D a w, (∀ j, D j) → I D a w → Q .normal a w) : (Code.region id ops true).wp P Q a w := by
  refine wp_region_inv I hm hwf h0 (fun D a w i o ho hd hI => hstep D a w i (Array.getElem?_eq_some_iff.1 ho).1 (fun j hj => ?_) hI) hdone
  unfold depsB at hj
  rw [ho] at hj
  simp only [Option.map_some, Option.getD_some] at hj
  rw [List.any_eq_true] at hj
  obtain ⟨e, he, h2⟩ := hj
  rw [Bool.and_eq_true, beq_iff_eq] at h2
  obtain ⟨h3, rfl⟩ := h2
  exact hd e (Array.mem_toList_iff.1 he) h3
/-- a literal of the call's own that holds nothing -/
def LitAt (base : Nat) (e : TypeId) (x : Value) (w : World) : Prop := ∃ g, x = .slice (some ⟨g, 0, none⟩) 0 0 ∧ base ≤ g ∧ Blk w g e #[]
theorem LitAt.step {base : Nat} {e : TypeId} {x : Value} {w w' : World} (h : LitAt base e x w) (hb : Below w.heap.size w w') : LitAt base e x w' := by
  obtain ⟨g, h1, h2, h3⟩ := h
  exact ⟨g, h1, h2, h3.below hb h3.lt⟩
theorem LitAt.own {base : Nat} {e : TypeId} {size : Nat} {x : Value} {w : World} (h : LitAt base e x w) : w.ownsRow base e size x 0 [] := by
  obtain ⟨g, rfl, h2, h3⟩ := h
  exact ⟨by simp, .inr ⟨g, 0, #[], rfl, h2, h3, Nat.le_refl _, Nat.zero_le _, by simp, by simp⟩⟩
theorem LitAt.new (w : World) (base : Nat) (e : TypeId) (h : base ≤ w.heap.size) : LitAt base e (.slice (some ⟨w.heap.size, 0, none⟩) 0 0) (w.alloc (.cells #[] e)) := ⟨_, rfl, h, Blk.new _ _ _⟩
theorem own_own_ne {w : World} {b1 b2 e1 e2 s1 s2 n1 n2 : Nat} {v1 v2 : Value} {xs1 xs2 : List Value} (h1 : w.ownsRow b1 e1 s1 v1 n1 xs1) (h2 : w.ownsRow b2 e2 s2 v2 n2 xs2) (hne : e1 ≠ e2) : v1.ownBlock = none ∨ v1.ownBlock ≠ v2.ownBlock := by
  rcases h1.2 with ⟨rfl, _⟩ | ⟨g1, c1, cur1, rfl, _, hg1, _⟩
  · exact .inl rfl
  · right
    rcases h2.2 with ⟨rfl, _⟩ | ⟨g2, c2, cur2, rfl, _, hg2, _⟩
    · simp [Value.ownBlock]
    · intro he
      have : g1 = g2 := by simpa [Value.ownBlock] using he
      subst this
      rw [hg1] at hg2
      injection hg2 with hg2
      injection hg2 with _ ht
      exact hne ht
end
end Go.Lt
