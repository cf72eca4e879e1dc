/- Memory words of our own: a slice that reads as a list, and an append onto a row of the call itself. No program in sight. -/
import Derived.WalkKit
import Derived.Deep.QuietTactic
import Derived.BigQuiet
import Derived.WalkLawsBesides
namespace Go.Lt
open Go.RowKit

theorem hide {p : Prop} (h : p) : Hid p := h

theorem add_block (a : Addr) (n : Nat) : (a.add n).block = a.block := by
  by_cases h : n = 0 <;> simp [Addr.add, h]

/-- The slice at A, of n elements of one cell each, holds xs. -/
def Rd (w : World) (A : Option Addr) (n : Nat) (xs : List Value) : Prop :=
  xs.length = n ∧ ∀ k, k < n → ∃ ad u, A = some ad ∧ ad.block < w.heap.size ∧ xs[k]? = some u ∧ w.cell? (ad.add k) = some u

section
variable {w w' : World} {A : Option Addr} {n : Nat} {xs : List Value}

theorem Rd.nil (w : World) (A : Option Addr) : Rd w A 0 [] := ⟨rfl, fun _ h => absurd h (Nat.not_lt_zero _)⟩

theorem Rd.keep (h : Rd w A n xs) (hs : w.heap.size ≤ w'.heap.size) (hc : ∀ p : Addr, p.block < w.heap.size → w'.cell? p = w.cell? p) : Rd w' A n xs :=
  ⟨h.1, fun k hk => by
    obtain ⟨ad, u, h1, h2, h3, h4⟩ := h.2 k hk
    exact ⟨ad, u, h1, Nat.lt_of_lt_of_le h2 hs, h3, (hc _ (by rw [add_block]; exact h2)).trans h4⟩⟩

theorem Rd.below {B : Nat} (h : Rd w A n xs) (hb : Below B w w') (hB : w.heap.size ≤ B) : Rd w' A n xs :=
  h.keep hb.size fun _ hp => hb.cell (Nat.lt_of_lt_of_le hp hB)

/-- What stands at a place of a slice. -/
theorem Rd.get {α : Type} {f : α → Value} {l : List α} (h : Rd w A n (l.map f)) {k : Nat} (hk : k < n) :
    ∃ ad x, A = some ad ∧ ad.block < w.heap.size ∧ l[k]? = some x ∧ w.cell? (ad.add k) = some (f x) := by
  obtain ⟨ad, u, h1, h2, h3, h4⟩ := h.2 k hk
  rw [List.getElem?_map] at h3
  cases hx : l[k]? with
  | none => rw [hx] at h3; cases h3
  | some x => rw [hx] at h3; injection h3 with h3; subst h3; exact ⟨ad, x, h1, h2, rfl, h4⟩

theorem Rd.len {α : Type} {f : α → Value} {l : List α} (h : Rd w A n (l.map f)) : l.length = n := by have := h.1; simpa using this

theorem Rd.of_own {base : Nat} {e : TypeId} {v : Value} (h : w.ownsRow base e 1 v n xs) : ∃ A c, v = .slice A n c ∧ n ≤ c ∧ c ≤ maxLen ∧ Rd w A n xs := by
  obtain ⟨hl, h2⟩ := h
  rw [Nat.mul_one] at hl
  rcases h2 with ⟨rfl, rfl⟩ | ⟨g, cap, cur, rfl, hbg, hg, hnc, hcm, hcs, htake⟩
  · exact ⟨none, 0, rfl, Nat.le_refl _, Nat.zero_le _, hl, fun k hk => absurd hk (Nat.not_lt_zero _)⟩
  · refine ⟨some ⟨g, 0, none⟩, cap, rfl, hnc, hcm, hl, fun k hk => ?_⟩
    have hx : xs[k]? = some (xs[k]'(by omega)) := List.getElem?_eq_getElem _
    exact ⟨_, _, rfl, (Array.getElem?_eq_some_iff.1 hg).1, hx, World.ownsRow.cells (v := .slice (some ⟨g, 0, none⟩) n cap) ⟨by rw [Nat.mul_one]; exact hl, .inr ⟨g, cap, cur, rfl, hbg, hg, hnc, hcm, hcs, htake⟩⟩ rfl k _ hx⟩
end

/-- The world after some draws. -/
def Dr (w w' : World) : Prop := ∃ m, w' = w.drewN m
theorem Dr.refl (w : World) : Dr w w := ⟨0, rfl⟩
theorem Dr.trans {a b c : World} (h : Dr a b) (k : Dr b c) : Dr a c := by
  obtain ⟨m, rfl⟩ := h; obtain ⟨n, rfl⟩ := k; exact ⟨m + n, World.drewN_drewN ..⟩
theorem Dr.more {a b : World} (h : Dr a b) (n : Nat) : Dr a (b.drewN n) := h.trans ⟨n, rfl⟩
theorem Dr.drew {a b : World} (h : Dr a b) : Dr a b.drew := h.trans ⟨1, rfl⟩
theorem Dr.cell {a b : World} (h : Dr a b) (p : Addr) : b.cell? p = a.cell? p := by obtain ⟨m, rfl⟩ := h; rfl
theorem Dr.frozen {a b : World} (h : Dr a b) (p : Addr) : b.frozen? p = a.frozen? p := by obtain ⟨m, rfl⟩ := h; rfl
theorem Dr.own {a b : World} {base size n : Nat} {e : TypeId} {v : Value} {xs : List Value} (h : Dr a b) (ho : a.ownsRow base e size v n xs) : b.ownsRow base e size v n xs := by obtain ⟨m, rfl⟩ := h; exact ho
theorem store_float (P : Program) (w : World) (a : Addr) (m : Mode) (k : FloatKind) (b : Nat) : (store a (.float k b) m).run P w = stored P w a (.float k b) m := run_store P w a _ m rfl
theorem Dr.heap {a b : World} (h : Dr a b) : b.heap = a.heap := by obtain ⟨m, rfl⟩ := h; rfl
theorem Dr.below {a b : World} (h : Dr a b) (B : Nat) : Below B a b := by obtain ⟨m, rfl⟩ := h; exact ⟨rfl, rfl, rfl, Nat.le_refl _, fun _ _ => rfl⟩
theorem Dr.rd {a b : World} {A : Option Addr} {n : Nat} {xs : List Value} (h : Dr a b) (hr : Rd a A n xs) : Rd b A n xs := by obtain ⟨m, rfl⟩ := h; exact hr

section
variable {P : Program} {f : FuncId} {args : Array Value} {w : World} {n : Nat} {v : Value}
theorem quiet_dr (h : Calls P f args (w.drewN n) fun e w' => e = .returned v ∧ Dr (w.drewN n) w') : Calls P f args (w.drewN n) fun e w'' => e = .returned v ∧ ∃ m, w'' = w.drewN m :=
  h.mono fun _ _ ⟨he, m, hm⟩ => ⟨he, n + m, by rw [hm, World.drewN_drewN]⟩
theorem quiet_eq (h : Calls P f args (w.drewN n) fun e w' => e = .returned v ∧ w.drewN n = w') : Calls P f args (w.drewN n) fun e w'' => e = .returned v ∧ ∃ m, w'' = w.drewN m :=
  h.mono fun _ _ ⟨he, hm⟩ => ⟨he, n, hm.symm⟩
end

section
variable {P : Program} {w w0 : World} {base e size bytes n : Nat} {z v : Value} {xs news : List Value}
/-- append of one element onto a row of the call's own. -/
theorem wpList_push {ops : Array Oper} {rest : List Oper} {o : Oper} {a : Act} {Q : Exit → Act → World → Prop} (hgd : o.guard = none) (s x : Operand) (t : TypeId)
    (ho : o.op = .call { callee := .builtin .append, args := #[s, x], argTypes := #[t, t] })
    (ht : P.underlying t = some (.slice e)) (hi : (P.info? e).map (fun i => (i.zero, i.size, i.bytes)) = some (some z, size, bytes)) (hzs : z.cells.size = size) (hsz : 0 < size)
    (hs : a.eval s = v) (hx : a.eval x = .slice (some ⟨w.heap.size, 0, none⟩) 1 1) (hown : w.ownsRow base e size v n xs) (hb : Below base w0 w) (hbase : base ≤ w0.heap.size)
    (hl : news.length = size) (h1 : ∀ u ∈ news, u.oneCell' = true) (h63 : n + 1 ≤ maxLen) (hby : (n + 1) * bytes ≤ 140737488355328)
    (h : ∀ v' w', w'.ownsRow base e size v' (n + 1) (xs ++ news) → Below base w0 w' → wpList P ops Q rest (a.put o.dst v') w') :
    wpList P ops Q (o :: rest) a (w.alloc (.cells news.toArray e)) := by
  obtain ⟨i, hi0, hz, hs1, hs2⟩ := info_parts hi
  refine wpList_append_own _ hgd s x t ho base e i z size bytes ht hi0 hz hs1 hs2 hzs hsz v n xs hs (hown.alloc _) ⟨w.heap.size, 0, none⟩ 1 1 news hx (by omega) ?_ h1 h63 hby ?_ ?_
  · intro j u hu
    have : (⟨w.heap.size, 0, none⟩ : Addr).add j = ⟨w.heap.size, j, none⟩ := by unfold Addr.add; split <;> simp_all
    rw [this, World.cell?_alloc_new]
    simpa using hu
  · have := hb.size; simp; omega
  · intro v' w' h2 h3 _
    refine h v' w' h2 ((hb.alloc (by have := hb.size; omega) _).grown h3 (by have := hb.size; simp; omega) ?_)
    intro k hk
    exact (hown.lt k hk).1
end

section
variable {w w' : World} {A : Option Addr} {n m : Nat} {xs : List Value}
theorem Rd.take_ (h : Rd w A n xs) (hm : m ≤ n) : Rd w A m (xs.take m) :=
  ⟨by rw [List.length_take, h.1]; omega, fun k hk => by
    obtain ⟨ad, u, h1, h2, h3, h4⟩ := h.2 k (by omega)
    exact ⟨ad, u, h1, h2, by rw [List.getElem?_take, if_pos hk]; exact h3, h4⟩⟩
theorem Rd.addr (h : Rd w A n xs) (hn : 0 < n) : ∃ ad, A = some ad ∧ ad.block < w.heap.size := by
  obtain ⟨ad, u, h1, h2, _⟩ := h.2 0 hn
  exact ⟨ad, h1, h2⟩
theorem Rd.none (h : Rd w none n xs) : n = 0 := by
  rcases Nat.eq_zero_or_pos n with h0 | h0
  · exact h0
  · obtain ⟨ad, h1, _⟩ := h.addr h0
    cases h1
theorem own_cases {base size : Nat} {e : TypeId} {v : Value} (h : w.ownsRow base e size v n xs) :
    (v = .slice .none 0 0 ∧ n = 0) ∨ ∃ g cap, v = .slice (some ⟨g, 0, .none⟩) n cap ∧ base ≤ g ∧ g < w.heap.size ∧ n ≤ cap ∧ cap ≤ maxLen := by
  rcases h.2 with h0 | ⟨g, cap, cur, h1, h2, h3, h4, h5, _⟩
  · exact .inl h0
  · exact .inr ⟨g, cap, h1, h2, (Array.getElem?_eq_some_iff.1 h3).1, h4, h5⟩
theorem own_keep {base size : Nat} {e : TypeId} {v : Value} (h : w.ownsRow base e size v n xs) (hb : Below w.heap.size w w') : w'.ownsRow base e size v n xs :=
  h.kept (row := .none) ⟨hb.os, hb.tape, hb.output, hb.size, fun k hk _ => hb.block k hk⟩ (by cases v.ownBlock <;> simp)
end

theorem take_snoc {α β : Type} (f : α → β) (l : List α) (k : Nat) (x : α) (h : l[k]? = some x) : (l.take (k + 1)).map f = (l.take k).map f ++ [f x] := by
  rw [List.take_add_one, h]; simp

section
variable {P : Program} {w w0 : World} {base e bytes n m c : Nat} {z v : Value} {A : Option Addr} {xs news : List Value}
/-- append of a slice that reads as a list, nil or not, onto a row of the call's own (elements of one cell). -/
theorem wpList_append_rd {ops : Array Oper} {rest : List Oper} {o : Oper} {a : Act} {Q : Exit → Act → World → Prop} (hgd : o.guard = none) (s x : Operand) (t : TypeId)
    (ho : o.op = .call { callee := .builtin .append, args := #[s, x], argTypes := #[t, t] })
    (ht : P.underlying t = some (.slice e)) (hi : (P.info? e).map (fun i => (i.zero, i.size, i.bytes)) = some (some z, 1, bytes)) (hzs : z.cells.size = 1)
    (hs : a.eval s = v) (hx : a.eval x = .slice A m c) (hown : w.ownsRow base e 1 v n xs) (hb : Below base w0 w) (hbase : base ≤ w.heap.size)
    (hr : Rd w A m news) (h1 : ∀ u ∈ news, u.oneCell' = true) (h63 : n + m ≤ maxLen) (hby : (n + m) * bytes ≤ 140737488355328)
    (h : ∀ v' w', w'.ownsRow base e 1 v' (n + m) (xs ++ news) → Below base w0 w' → wpList P ops Q rest (a.put o.dst v') w') :
    wpList P ops Q (o :: rest) a w := by
  obtain ⟨i, hi0, hz, hs1, hs2⟩ := info_parts hi
  rcases A with _ | ad
  · have hm := hr.none
    subst hm
    have hn : news = [] := List.eq_nil_of_length_eq_zero hr.1
    subst hn
    refine wpList_plain hgd fun K hK => ?_
    have hrun : (Builtin.append_ #[t, t] o.type #[v, .slice .none 0 c]).run P w = .ok v w := by
      rcases hown.2 with ⟨rfl, rfl⟩ | ⟨g, cap, cur, rfl, _, _, hnc, _⟩
      · simp [Builtin.append_, run_underlying ht, sizeOf, typeInfo, hi0, Builtin.lenOf, Builtin.firstCells]
      · simp [Builtin.append_, run_underlying ht, sizeOf, typeInfo, hi0, Builtin.lenOf, Builtin.firstCells, hnc, storeCells]
    unfold Oper.wp
    simp only [execOp, ho, resolve, invoke, builtin, Sem.run_bind, Sem.run_pure, Result.andThen_ok, List.map_toArray, List.map_cons, List.map_nil, hs, hx, hrun]
    exact hK _ _ (h v w (by simpa using hown) hb)
  · refine wpList_append_own _ hgd s x t ho base e i z 1 bytes ht hi0 hz hs1 hs2 hzs (by omega) v n xs hs hown ad m c news hx (by rw [hr.1]; omega) ?_ h1 h63 hby hbase ?_
    · intro j u hu
      have hj : j < m := by rw [← hr.1]; exact (List.getElem?_eq_some_iff.1 hu).1
      obtain ⟨ad', u', h1', _, h3, h4⟩ := hr.2 j hj
      injection h1' with h1'
      subst h1'
      rw [hu] at h3
      injection h3 with h3
      subst h3
      exact h4
    · intro v' w' h2 h3 _
      exact h v' w' h2 (hb.grown h3 hbase fun k hk => (hown.lt k hk).1)
end

end Go.Lt
