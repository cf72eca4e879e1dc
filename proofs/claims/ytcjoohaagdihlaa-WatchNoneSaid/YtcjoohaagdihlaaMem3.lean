/- More memory words of our own: rows of elements of more than one cell, that read as a list, appended whole. No program in sight. -/
import Derived.Test.YtcjoohaagdihlaaMem2
namespace Go.Lt
open Go.RowKit

/-- the slice at A, of n elements of 'size' cells each, holds these cells -/
def RdS (w : World) (A : Option Addr) (n size : Nat) (xs : List Value) : Prop :=
  xs.length = n * size ∧ (n = 0 ∨ ∃ ad, A = some ad ∧ ad.block < w.heap.size ∧ ∀ k u, xs[k]? = some u → w.cell? (ad.add k) = some u)
theorem RdS.below {w w' : World} {A : Option Addr} {n size B : Nat} {xs : List Value} (h : RdS w A n size xs) (hb : Below B w w') (hB : w.heap.size ≤ B) : RdS w' A n size xs := by
  obtain ⟨h1, h2⟩ := h
  refine ⟨h1, ?_⟩
  rcases h2 with h2 | ⟨ad, h3, h4, h5⟩
  · exact .inl h2
  · exact .inr ⟨ad, h3, Nat.lt_of_lt_of_le h4 hb.size, fun k u hk => (hb.cell (by rw [add_block]; omega)).trans (h5 k u hk)⟩
theorem flat_len {α : Type} (enc : α → List Value) (s : Nat) (hs : ∀ x, (enc x).length = s) (l : List α) : (l.flatMap enc).length = l.length * s := by
  induction l with
  | nil => simp
  | cons x l ih => rw [List.flatMap_cons, List.length_append, hs, ih, List.length_cons, Nat.succ_mul, Nat.add_comm]
theorem flat_get {α : Type} (enc : α → List Value) (s : Nat) (hs : ∀ x, (enc x).length = s) (h0 : 0 < s) (l : List α) : ∀ k, (l.flatMap enc)[k]? = (l[k / s]?).bind fun x => (enc x)[k % s]? := by
  induction l with
  | nil => intro k; simp
  | cons x l ih =>
    intro k
    rw [List.flatMap_cons]
    by_cases hk : k < s
    · rw [List.getElem?_append_left (by rw [hs]; exact hk), Nat.div_eq_of_lt hk, Nat.mod_eq_of_lt hk]; rfl
    · have e1 : k / s = (k - s) / s + 1 := Nat.div_eq_sub_div h0 (by omega)
      have e2 : k % s = (k - s) % s := Nat.mod_eq_sub_mod (by omega)
      rw [List.getElem?_append_right (by rw [hs]; omega), hs, ih (k - s), e1, e2, List.getElem?_cons_succ]
section
variable {P : Program} {w w0 : World} {base e bytes n m c size : Nat} {z v : Value} {A : Option Addr} {xs news : List Value}
/-- append of a slice that reads as a list, nil or not, onto a row of the call's own. -/
theorem wpList_append_rdS {ops : Array Oper} {rest : List Oper} {o : Oper} {a : Act} {Q : Exit → Act → World → Prop} (hgd : o.guard = none) (s x : Operand) (t : TypeId)
    (ho : o.op = .call { callee := .builtin .append, args := #[s, x], argTypes := #[t, t] })
    (ht : P.underlying t = some (.slice e)) (hi : (P.info? e).map (fun i => (i.zero, i.size, i.bytes)) = some (some z, size, bytes)) (hzs : z.cells.size = size) (hsz : 0 < size)
    (hs : a.eval s = v) (hx : a.eval x = .slice A m c) (hown : w.ownsRow base e size v n xs) (hb : Below base w0 w) (hbase : base ≤ w.heap.size)
    (hr : RdS w A m size news) (h1 : ∀ u ∈ news, u.oneCell' = true) (h63 : n + m ≤ maxLen) (hby : (n + m) * bytes ≤ 140737488355328)
    (h : ∀ v' w', w'.ownsRow base e size v' (n + m) (xs ++ news) → Below base w0 w' → w.grownBy w' v.ownBlock → wpList P ops Q rest (a.put o.dst v') w') :
    wpList P ops Q (o :: rest) a w := by
  obtain ⟨i, hi0, hz, hs1, hs2⟩ := info_parts hi
  have hnone : m = 0 → wpList P ops Q (o :: rest) a w ∨ ∃ ad, A = some ad := by
    intro hm
    rcases A with _ | ad
    · left
      subst hm
      have hn : news = [] := List.eq_nil_of_length_eq_zero (by rw [hr.1]; simp)
      subst hn
      refine wpList_plain hgd fun K hK => ?_
      have hrun : (Builtin.append_ #[t, t] o.type #[v, .slice .none 0 c]).run P w = .ok v w := by
        rcases hown.2 with ⟨rfl, rfl⟩ | ⟨g, cap, cur, rfl, _, _, hnc, _⟩
        · simp [Builtin.append_, run_underlying ht, sizeOf, typeInfo, hi0, Builtin.lenOf, Builtin.firstCells]
        · simp [Builtin.append_, run_underlying ht, sizeOf, typeInfo, hi0, Builtin.lenOf, Builtin.firstCells, hnc, storeCells]
      unfold Oper.wp
      simp only [execOp, ho, resolve, invoke, builtin, Sem.run_bind, Sem.run_pure, Result.andThen_ok, List.map_toArray, List.map_cons, List.map_nil, hs, hx, hrun]
      exact hK _ _ (h v w (by simpa using hown) hb (World.grownBy.refl _ _))
    · exact .inr ⟨ad, rfl⟩
  have hsome : wpList P ops Q (o :: rest) a w ∨ ∃ ad, A = some ad ∧ ∀ k u, news[k]? = some u → w.cell? (ad.add k) = some u := by
    rcases hr.2 with hm | ⟨ad, h3, _, h5⟩
    · rcases hnone hm with h4 | ⟨ad, h4⟩
      · exact .inl h4
      · refine .inr ⟨ad, h4, fun k u hk => ?_⟩
        have : news = [] := List.eq_nil_of_length_eq_zero (by rw [hr.1, hm]; simp)
        rw [this] at hk; cases hk
    · exact .inr ⟨ad, h3, h5⟩
  rcases hsome with hd | ⟨ad, rfl, hcell⟩
  · exact hd
  · refine wpList_append_own _ hgd s x t ho base e i z size bytes ht hi0 hz hs1 hs2 hzs hsz v n xs hs hown ad m c news hx (by rw [hr.1]) hcell h1 h63 hby hbase ?_
    intro v' w' h2 h3 _
    exact h v' w' h2 (hb.grown h3 hbase fun k hk => (hown.lt k hk).1) h3
end
section
variable {w : World} {base e size n cap g : Nat} {xs : List Value}
/-- a store into a row of the call's own -/
theorem own_set (h : w.ownsRow base e size (.slice (some ⟨g, 0, none⟩) n cap) n xs) (j : Nat) (u : Value) : (w.setCell ⟨g, j, none⟩ u).ownsRow base e size (.slice (some ⟨g, 0, none⟩) n cap) n (xs.set j u) := by
  obtain ⟨hl, h2⟩ := h
  refine ⟨by simpa using hl, ?_⟩
  rcases h2 with ⟨h3, _⟩ | ⟨g', c', cur, hv, hb, hg, hn, hm, hs, ht⟩
  · cases h3
  · injection hv with h4 _ h5
    injection h4 with h4
    injection h4 with h4 _ _
    subst h4 h5
    refine .inr ⟨g, cap, cur.setIfInBounds j u, rfl, hb, ?_, hn, hm, by simpa using hs, ?_⟩
    · simp [World.setCell, Array.getElem?_modify, hg]
    · rw [Array.toList_setIfInBounds, List.take_set, ht]
theorem own_frozen (h : w.ownsRow base e size (.slice (some ⟨g, 0, none⟩) n cap) n xs) (j : Nat) : w.frozen? ⟨g, j, none⟩ = false := by
  rcases h.2 with ⟨h3, _⟩ | ⟨g', c', cur, hv, hb, hg, hn, hm, hs, ht⟩
  · cases h3
  · injection hv with h4 _ h5
    injection h4 with h4
    injection h4 with h4 _ _
    subst h4
    simp [World.frozen?, hg]
theorem own_cell (h : w.ownsRow base e size (.slice (some ⟨g, 0, none⟩) n cap) n xs) {j : Nat} {u : Value} (hj : xs[j]? = some u) : w.cell? ⟨g, j, none⟩ = some u := by
  have := World.ownsRow.cells h rfl j u hj
  rwa [show (⟨g, 0, none⟩ : Addr).add j = ⟨g, j, none⟩ by unfold Addr.add; split <;> simp_all] at this
end
end Go.Lt
