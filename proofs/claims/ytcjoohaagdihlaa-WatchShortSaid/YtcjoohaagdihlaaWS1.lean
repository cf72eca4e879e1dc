/- Texts behind a row, one behind the other: Mem, Open1, Lit1, Lit2, Mem2, Mem3. -/
import Derived.WalkKit
import Derived.Deep.QuietTactic
import Derived.BigQuiet
import Derived.WalkLawsBesides
import Derived.ProofKit
import Derived.OpenShut
import Derived.Deep.Grids
import Derived.Test.YtcjoohaagdihlaaProg
import Derived.KernelRfl
import Derived.Laws.OwnMore
import Derived.Deep.Draws
import Derived.Laws.Rows
section
/- Memory words of our own: a slice that reads as a list, and an append onto a row of the call itself. No program in sight. -/
namespace Go.Lt
open Go.RowKit

theorem hide {p : Prop} (h : p) : Hid p := h

theorem add_block (a : Addr) (n : Nat) : (a.add n).block = a.block := by
  by_cases h : n = 0 <;> simp [Addr.add, h]

/-- The slice at A, of n elements of one cell each, holds xs. -/
def Rd (w : World) (A : Option Addr) (n : Nat) (xs : List Value) : Prop :=
  xs.length = n ∧ ∀ k, k < n → ∃ ad u, A = some ad ∧ ad.block < w.heap.size ∧ xs[k]? = some u ∧ w.cell? (ad.add k) = some u

section
variable {w w' : World} {A : Option Addr} {n : Nat} {xs : List Value}

theorem Rd.nil (w : World) (A : Option Addr) : Rd w A 0 [] := ⟨rfl, fun _ h => absurd h (Nat.not_lt_zero _)⟩

theorem Rd.keep (h : Rd w A n xs) (hs : w.heap.size ≤ w'.heap.size) (hc : ∀ p : Addr, p.block < w.heap.size → w'.cell? p = w.cell? p) : Rd w' A n xs :=
  ⟨h.1, fun k hk => by
    obtain ⟨ad, u, h1, h2, h3, h4⟩ := h.2 k hk
    exact ⟨ad, u, h1, Nat.lt_of_lt_of_le h2 hs, h3, (hc _ (by rw [add_block]; exact h2)).trans h4⟩⟩

theorem Rd.below {B : Nat} (h : Rd w A n xs) (hb : Below B w w') (hB : w.heap.size ≤ B) : Rd w' A n xs :=
  h.keep hb.size fun _ hp => hb.cell (Nat.lt_of_lt_of_le hp hB)

/-- What stands at a place of a slice. -/
theorem Rd.get {α : Type} {f : α → Value} {l : List α} (h : Rd w A n (l.map f)) {k : Nat} (hk : k < n) :
    ∃ ad x, A = some ad ∧ ad.block < w.heap.size ∧ l[k]? = some x ∧ w.cell? (ad.add k) = some (f x) := by
  obtain ⟨ad, u, h1, h2, h3, h4⟩ := h.2 k hk
  rw [List.getElem?_map] at h3
  cases hx : l[k]? with
  | none => rw [hx] at h3; cases h3
  | some x => rw [hx] at h3; injection h3 with h3; subst h3; exact ⟨ad, x, h1, h2, rfl, h4⟩

theorem Rd.len {α : Type} {f : α → Value} {l : List α} (h : Rd w A n (l.map f)) : l.length = n := by have := h.1; simpa using this

theorem Rd.of_own {base : Nat} {e : TypeId} {v : Value} (h : w.ownsRow base e 1 v n xs) : ∃ A c, v = .slice A n c ∧ n ≤ c ∧ c ≤ maxLen ∧ Rd w A n xs := by
  obtain ⟨hl, h2⟩ := h
  rw [Nat.mul_one] at hl
  rcases h2 with ⟨rfl, rfl⟩ | ⟨g, cap, cur, rfl, hbg, hg, hnc, hcm, hcs, htake⟩
  · exact ⟨none, 0, rfl, Nat.le_refl _, Nat.zero_le _, hl, fun k hk => absurd hk (Nat.not_lt_zero _)⟩
  · refine ⟨some ⟨g, 0, none⟩, cap, rfl, hnc, hcm, hl, fun k hk => ?_⟩
    have hx : xs[k]? = some (xs[k]'(by omega)) := List.getElem?_eq_getElem _
    exact ⟨_, _, rfl, (Array.getElem?_eq_some_iff.1 hg).1, hx, World.ownsRow.cells (v := .slice (some ⟨g, 0, none⟩) n cap) ⟨by rw [Nat.mul_one]; exact hl, .inr ⟨g, cap, cur, rfl, hbg, hg, hnc, hcm, hcs, htake⟩⟩ rfl k _ hx⟩
end

/-- The world after some draws. -/
def Dr (w w' : World) : Prop := ∃ m, w' = w.drewN m
theorem Dr.refl (w : World) : Dr w w := ⟨0, rfl⟩
theorem Dr.trans {a b c : World} (h : Dr a b) (k : Dr b c) : Dr a c := by
  obtain ⟨m, rfl⟩ := h; obtain ⟨n, rfl⟩ := k; exact ⟨m + n, World.drewN_drewN ..⟩
theorem Dr.more {a b : World} (h : Dr a b) (n : Nat) : Dr a (b.drewN n) := h.trans ⟨n, rfl⟩
theorem Dr.drew {a b : World} (h : Dr a b) : Dr a b.drew := h.trans ⟨1, rfl⟩
theorem Dr.cell {a b : World} (h : Dr a b) (p : Addr) : b.cell? p = a.cell? p := by obtain ⟨m, rfl⟩ := h; rfl
theorem Dr.frozen {a b : World} (h : Dr a b) (p : Addr) : b.frozen? p = a.frozen? p := by obtain ⟨m, rfl⟩ := h; rfl
theorem Dr.own {a b : World} {base size n : Nat} {e : TypeId} {v : Value} {xs : List Value} (h : Dr a b) (ho : a.ownsRow base e size v n xs) : b.ownsRow base e size v n xs := by obtain ⟨m, rfl⟩ := h; exact ho
theorem store_float (P : Program) (w : World) (a : Addr) (m : Mode) (k : FloatKind) (b : Nat) : (store a (.float k b) m).run P w = stored P w a (.float k b) m := run_store P w a _ m rfl
theorem Dr.heap {a b : World} (h : Dr a b) : b.heap = a.heap := by obtain ⟨m, rfl⟩ := h; rfl
theorem Dr.below {a b : World} (h : Dr a b) (B : Nat) : Below B a b := by obtain ⟨m, rfl⟩ := h; exact ⟨rfl, rfl, rfl, Nat.le_refl _, fun _ _ => rfl⟩
theorem Dr.rd {a b : World} {A : Option Addr} {n : Nat} {xs : List Value} (h : Dr a b) (hr : Rd a A n xs) : Rd b A n xs := by obtain ⟨m, rfl⟩ := h; exact hr

section
variable {P : Program} {f : FuncId} {args : Array Value} {w : World} {n : Nat} {v : Value}
theorem quiet_dr (h : Calls P f args (w.drewN n) fun e w' => e = .returned v ∧ Dr (w.drewN n) w') : Calls P f args (w.drewN n) fun e w'' => e = .returned v ∧ ∃ m, w'' = w.drewN m :=
  h.mono fun _ _ ⟨he, m, hm⟩ => ⟨he, n + m, by rw [hm, World.drewN_drewN]⟩
theorem quiet_eq (h : Calls P f args (w.drewN n) fun e w' => e = .returned v ∧ w.drewN n = w') : Calls P f args (w.drewN n) fun e w'' => e = .returned v ∧ ∃ m, w'' = w.drewN m :=
  h.mono fun _ _ ⟨he, hm⟩ => ⟨he, n, hm.symm⟩
end

section
variable {P : Program} {w w0 : World} {base e size bytes n : Nat} {z v : Value} {xs news : List Value}
/-- append of one element onto a row of the call's own. -/
theorem wpList_push {ops : Array Oper} {rest : List Oper} {o : Oper} {a : Act} {Q : Exit → Act → World → Prop} (hgd : o.guard = none) (s x : Operand) (t : TypeId)
    (ho : o.op = .call { callee := .builtin .append, args := #[s, x], argTypes := #[t, t] })
    (ht : P.underlying t = some (.slice e)) (hi : (P.info? e).map (fun i => (i.zero, i.size, i.bytes)) = some (some z, size, bytes)) (hzs : z.cells.size = size) (hsz : 0 < size)
    (hs : a.eval s = v) (hx : a.eval x = .slice (some ⟨w.heap.size, 0, none⟩) 1 1) (hown : w.ownsRow base e size v n xs) (hb : Below base w0 w) (hbase : base ≤ w0.heap.size)
    (hl : news.length = size) (h1 : ∀ u ∈ news, u.oneCell' = true) (h63 : n + 1 ≤ maxLen) (hby : (n + 1) * bytes ≤ 140737488355328)
    (h : ∀ v' w', w'.ownsRow base e size v' (n + 1) (xs ++ news) → Below base w0 w' → wpList P ops Q rest (a.put o.dst v') w') :
    wpList P ops Q (o :: rest) a (w.alloc (.cells news.toArray e)) := by
  obtain ⟨i, hi0, hz, hs1, hs2⟩ := info_parts hi
  refine wpList_append_own _ hgd s x t ho base e i z size bytes ht hi0 hz hs1 hs2 hzs hsz v n xs hs (hown.alloc _) ⟨w.heap.size, 0, none⟩ 1 1 news hx (by omega) ?_ h1 h63 hby ?_ ?_
  · intro j u hu
    have : (⟨w.heap.size, 0, none⟩ : Addr).add j = ⟨w.heap.size, j, none⟩ := by unfold Addr.add; split <;> simp_all
    rw [this, World.cell?_alloc_new]
    simpa using hu
  · have := hb.size; simp; omega
  · intro v' w' h2 h3 _
    refine h v' w' h2 ((hb.alloc (by have := hb.size; omega) _).grown h3 (by have := hb.size; simp; omega) ?_)
    intro k hk
    exact (hown.lt k hk).1
end

section
variable {w w' : World} {A : Option Addr} {n m : Nat} {xs : List Value}
theorem Rd.take_ (h : Rd w A n xs) (hm : m ≤ n) : Rd w A m (xs.take m) :=
  ⟨by rw [List.length_take, h.1]; omega, fun k hk => by
    obtain ⟨ad, u, h1, h2, h3, h4⟩ := h.2 k (by omega)
    exact ⟨ad, u, h1, h2, by rw [List.getElem?_take, if_pos hk]; exact h3, h4⟩⟩
theorem Rd.addr (h : Rd w A n xs) (hn : 0 < n) : ∃ ad, A = some ad ∧ ad.block < w.heap.size := by
  obtain ⟨ad, u, h1, h2, _⟩ := h.2 0 hn
  exact ⟨ad, h1, h2⟩
theorem Rd.none (h : Rd w none n xs) : n = 0 := by
  rcases Nat.eq_zero_or_pos n with h0 | h0
  · exact h0
  · obtain ⟨ad, h1, _⟩ := h.addr h0
    cases h1
theorem own_cases {base size : Nat} {e : TypeId} {v : Value} (h : w.ownsRow base e size v n xs) :
    (v = .slice .none 0 0 ∧ n = 0) ∨ ∃ g cap, v = .slice (some ⟨g, 0, .none⟩) n cap ∧ base ≤ g ∧ g < w.heap.size ∧ n ≤ cap ∧ cap ≤ maxLen := by
  rcases h.2 with h0 | ⟨g, cap, cur, h1, h2, h3, h4, h5, _⟩
  · exact .inl h0
  · exact .inr ⟨g, cap, h1, h2, (Array.getElem?_eq_some_iff.1 h3).1, h4, h5⟩
theorem own_keep {base size : Nat} {e : TypeId} {v : Value} (h : w.ownsRow base e size v n xs) (hb : Below w.heap.size w w') : w'.ownsRow base e size v n xs :=
  h.kept (row := .none) ⟨hb.os, hb.tape, hb.output, hb.size, fun k hk _ => hb.block k hk⟩ (by cases v.ownBlock <;> simp)
end

theorem take_snoc {α β : Type} (f : α → β) (l : List α) (k : Nat) (x : α) (h : l[k]? = some x) : (l.take (k + 1)).map f = (l.take k).map f ++ [f x] := by
  rw [List.take_add_one, h]; simp

section
variable {P : Program} {w w0 : World} {base e bytes n m c : Nat} {z v : Value} {A : Option Addr} {xs news : List Value}
/-- append of a slice that reads as a list, nil or not, onto a row of the call's own (elements of one cell). -/
theorem wpList_append_rd {ops : Array Oper} {rest : List Oper} {o : Oper} {a : Act} {Q : Exit → Act → World → Prop} (hgd : o.guard = none) (s x : Operand) (t : TypeId)
    (ho : o.op = .call { callee := .builtin .append, args := #[s, x], argTypes := #[t, t] })
    (ht : P.underlying t = some (.slice e)) (hi : (P.info? e).map (fun i => (i.zero, i.size, i.bytes)) = some (some z, 1, bytes)) (hzs : z.cells.size = 1)
    (hs : a.eval s = v) (hx : a.eval x = .slice A m c) (hown : w.ownsRow base e 1 v n xs) (hb : Below base w0 w) (hbase : base ≤ w.heap.size)
    (hr : Rd w A m news) (h1 : ∀ u ∈ news, u.oneCell' = true) (h63 : n + m ≤ maxLen) (hby : (n + m) * bytes ≤ 140737488355328)
    (h : ∀ v' w', w'.ownsRow base e 1 v' (n + m) (xs ++ news) → Below base w0 w' → wpList P ops Q rest (a.put o.dst v') w') :
    wpList P ops Q (o :: rest) a w := by
  obtain ⟨i, hi0, hz, hs1, hs2⟩ := info_parts hi
  rcases A with _ | ad
  · have hm := hr.none
    subst hm
    have hn : news = [] := List.eq_nil_of_length_eq_zero hr.1
    subst hn
    refine wpList_plain hgd fun K hK => ?_
    have hrun : (Builtin.append_ #[t, t] o.type #[v, .slice .none 0 c]).run P w = .ok v w := by
      rcases hown.2 with ⟨rfl, rfl⟩ | ⟨g, cap, cur, rfl, _, _, hnc, _⟩
      · simp [Builtin.append_, run_underlying ht, sizeOf, typeInfo, hi0, Builtin.lenOf, Builtin.firstCells]
      · simp [Builtin.append_, run_underlying ht, sizeOf, typeInfo, hi0, Builtin.lenOf, Builtin.firstCells, hnc, storeCells]
    unfold Oper.wp
    simp only [execOp, ho, resolve, invoke, builtin, Sem.run_bind, Sem.run_pure, Result.andThen_ok, List.map_toArray, List.map_cons, List.map_nil, hs, hx, hrun]
    exact hK _ _ (h v w (by simpa using hown) hb)
  · refine wpList_append_own _ hgd s x t ho base e i z 1 bytes ht hi0 hz hs1 hs2 hzs (by omega) v n xs hs hown ad m c news hx (by rw [hr.1]; omega) ?_ h1 h63 hby hbase ?_
    · intro j u hu
      have hj : j < m := by rw [← hr.1]; exact (List.getElem?_eq_some_iff.1 hu).1
      obtain ⟨ad', u', h1', _, h3, h4⟩ := hr.2 j hj
      injection h1' with h1'
      subst h1'
      rw [hu] at h3
      injection h3 with h3
      subst h3
      exact h4
    · intro v' w' h2 h3 _
      exact h v' w' h2 (hb.grown h3 hbase fun k hk => (hown.lt k hk).1)
end

end Go.Lt
end

section
/- Arguments that are slices, read as lists. No program in sight. -/
namespace Go.Lt
open Go.RowKit Go.ChangeShapes Go.WideShapes Go.Deep
set_option linter.unusedVariables false

section
variable {H : Type} {enc : TypeId × Value → H} {P : Program} {w : World} {base : Nat} {held : Bool}
theorem rd_cells {x : Addr} {n : Nat} {xs : List Value} (hl : xs.length = n) (hc : ∀ k u, xs[k]? = some u → w.cell? (x.add k) = some u) : Rd w (some x) n xs :=
  ⟨hl, fun k hk => by
    have hx : xs[k]? = some (xs[k]'(by omega)) := List.getElem?_eq_getElem _
    have hcell := hc k _ hx
    refine ⟨x, _, rfl, ?_, hx, hcell⟩
    have := World.block_lt_of_cell? w _ hcell
    rwa [add_block] at this⟩
theorem open_ints_rd {k : IntKind} {r : Reach} {b0 : Nat} {t e : TypeId} {v : Value} {d : DataW H} {ps : List MemPlace} (ht : P.underlying t = some (.slice e)) (he : P.underlying e = some (.int k)) (hc : P.cellsOf e = 1)
    (hval : Value.okWide P w r b0 t v) (h : DataW.Trod enc P w base (fun _ => true) held t v d ps) :
    ∃ (a : Option Addr) (n c : Nat) (l : List Int), v = .slice a n c ∧ n ≤ c ∧ c ≤ maxLen ∧ Rd w a n (l.map (Value.int k)) ∧ ∀ x ∈ l, (Lit.int k x).wf = true := by
  obtain ⟨a, n, c, rfl⟩ := okWide_slice ht hval
  obtain ⟨fuel, hf⟩ := h
  rcases open_ints ht he hc hf with ⟨hcs, _⟩ | ⟨x, l, c', zs, hcs, _, hl, hm, hz, _, hcell, hwz⟩
  · simp [Value.cells] at hcs
    obtain ⟨rfl, rfl, rfl⟩ := hcs
    exact ⟨none, 0, 0, [], rfl, Nat.le_refl _, Nat.zero_le _, Rd.nil _ _, fun x hx => by cases hx⟩
  · simp [Value.cells] at hcs
    obtain ⟨rfl, rfl, rfl⟩ := hcs
    have hz : zs.length = c := by simpa using hz
    refine ⟨some x, n, c, zs.take n, rfl, hl, hm, rd_cells (by simp; omega) fun i u hu => ?_, fun y hy => hwz y (List.mem_of_mem_take hy)⟩
    have hi : i < n := by have := (List.getElem?_eq_some_iff.1 hu).1; simp at this; omega
    rw [hcell i (by omega)]
    rw [List.getElem?_map, List.getElem?_take, if_pos hi, List.getElem?_eq_getElem (by omega)] at hu
    rw [List.getD_eq_getElem?_getD, List.getElem?_eq_getElem (by omega)]
    exact hu
theorem open_bools_rd {r : Reach} {b0 : Nat} {t e : TypeId} {v : Value} {d : DataW H} {ps : List MemPlace} (ht : P.underlying t = some (.slice e)) (he : P.underlying e = some .bool) (hc : P.cellsOf e = 1)
    (hval : Value.okWide P w r b0 t v) (h : DataW.Trod enc P w base (fun _ => true) held t v d ps) :
    ∃ (a : Option Addr) (n c : Nat) (l : List Bool), v = .slice a n c ∧ n ≤ c ∧ c ≤ maxLen ∧ Rd w a n (l.map Value.bool) := by
  obtain ⟨a, n, c, rfl⟩ := okWide_slice ht hval
  obtain ⟨fuel, hf⟩ := h
  rcases open_bools ht he hc hf with ⟨hcs, _⟩ | ⟨x, l, c', B, hcs, _, hl, hm, _, hcell⟩
  · simp [Value.cells] at hcs
    obtain ⟨rfl, rfl, rfl⟩ := hcs
    exact ⟨none, 0, 0, [], rfl, Nat.le_refl _, Nat.zero_le _, Rd.nil _ _⟩
  · simp [Value.cells] at hcs
    obtain ⟨rfl, rfl, rfl⟩ := hcs
    refine ⟨some x, n, c, (List.range n).map B, rfl, hl, hm, rd_cells (by simp) fun i u hu => ?_⟩
    have hi : i < n := by have := (List.getElem?_eq_some_iff.1 hu).1; simpa using this
    rw [hcell i (by omega)]
    rw [List.getElem?_map, List.getElem?_map, List.getElem?_range hi] at hu
    exact hu
end
end Go.Lt
end

section
/- Contracts of the functions on one literal, the program's and the document's. -/
namespace Go.Proofs.Ytcjoohaagdihlaa.Lit
open Go.RowKit Go.Lt
set_option linter.unusedVariables false

theorem ret_int {k : IntKind} {a b : Int} (h : a = b) : Ending.returned (.int k a) = .returned (.int k b) := by rw [h]
theorem ret_bool {a b : Bool} (h : a = b) : Ending.returned (.bool a) = .returned (.bool b) := by rw [h]

/-- whether a number is a literal -/
def litGood (l : Int) : Bool := decide (0 ≤ l ∧ l ≤ 33554433)
def litVar (l : Int) : Int := if litGood l then l / 2 else -1
def litNot (l : Int) : Int := if litGood l then (if l % 2 = 1 then l - 1 else l + 1) else -1
def litNeg (l : Int) : Bool := litGood l && decide (l % 2 = 1)
theorem good_iff {l : Int} : litGood l = true ↔ 0 ≤ l ∧ l ≤ 33554433 := by simp [litGood]
theorem bad_iff {l : Int} : litGood l = false ↔ ¬ (0 ≤ l ∧ l ≤ 33554433) := by unfold litGood; rw [decide_eq_false_iff_not]

theorem lit_Good (l : Int) (w : World) : Calls Try.prog 140 #[.int .i64 l] w fun e w' => e = .returned (.bool (litGood l)) ∧ w = w' := by
  by_cases h0 : 0 ≤ l
  · by_cases h1 : l ≤ 33554433
    · have HG := hide (show true = litGood l from (good_iff.2 ⟨h0, h1⟩).symm)
      go_enter Try.func140, Try.ntmps140
      go_wp2
      go_ret
      exact ⟨ret_bool HG.out, rfl⟩
    · have HG := hide (show false = litGood l from (bad_iff.2 (by omega)).symm)
      go_enter Try.func140, Try.ntmps140
      go_wp2
      go_ret
      exact ⟨ret_bool HG.out, rfl⟩
  · have HG := hide (show false = litGood l from (bad_iff.2 (by omega)).symm)
    go_enter Try.func140, Try.ntmps140
    go_wp2
    go_ret
    exact ⟨ret_bool HG.out, rfl⟩

theorem ref_Good (l : Int) (w : World) : Calls Try.prog 33 #[.int .i64 l] w fun e w' => e = .returned (.bool (litGood l)) ∧ w = w' := by
  by_cases h0 : 0 ≤ l
  · have HG := hide (show decide (l < 33554434) = litGood l by
      unfold litGood; rw [Bool.eq_iff_iff]; simp only [decide_eq_true_eq]; omega)
    go_enter Try.func33, Try.ntmps33
    go_wp2
    go_ret
    exact ⟨ret_bool HG.out, rfl⟩
  · have HG := hide (show false = litGood l from (bad_iff.2 (by omega)).symm)
    go_enter Try.func33, Try.ntmps33
    go_wp2
    go_ret
    exact ⟨ret_bool HG.out, rfl⟩

theorem lit_Var (l : Int) (w : World) : Calls Try.prog 84 #[.int .i64 l] w fun e w' => e = .returned (.int .i64 (litVar l)) ∧ w = w' := by
  cases hg : litGood l
  · have HV := hide (show -1 = litVar l by unfold litVar; rw [hg]; rfl)
    go_enter Try.func84, Try.ntmps84
    go_wp2_with (first | (go_at_call 140; refine (lit_Good _ _).mono ?_; rintro e w' ⟨rfl, rfl⟩) | go_in)
    go_ret
    exact ⟨ret_int HV.out, rfl⟩
  · have HV := hide (show l / 2 = litVar l by unfold litVar; rw [hg]; rfl)
    obtain ⟨h0, h1⟩ := good_iff.1 hg
    go_enter Try.func84, Try.ntmps84
    go_wp2_with (first | (go_at_call 140; refine (lit_Good _ _).mono ?_; rintro e w' ⟨rfl, rfl⟩) | go_in)
    go_ret
    exact ⟨ret_int HV.out, rfl⟩


theorem xor_one (l : Int) (h0 : 0 ≤ l) (h1 : l ≤ 33554433) : bits .xor .i64 l 1 = (if l % 2 = 1 then l - 1 else l + 1) := by
  obtain ⟨n, rfl⟩ := Int.eq_ofNat_of_zero_le h0
  have hn : n ≤ 33554433 := by omega
  have e : BitVec.ofInt 64 (n : Int) = BitVec.ofNat 64 n := BitVec.ofInt_natCast ..
  show IntKind.i64.wrap ((BitVec.ofInt 64 (n : Int) ^^^ BitVec.ofInt 64 ((1 : Nat) : Int)).toNat : Int) = _
  rw [BitVec.toNat_xor, ofInt_u64 n (by omega), ofInt_u64 1 (by omega)]
  have hx : n ^^^ 1 = if n % 2 = 1 then n - 1 else n + 1 := by
    have h1 : (n ^^^ 1) / 2 = n / 2 ^^^ 1 / 2 := Nat.xor_div_two
    have h2 : (n ^^^ 1) % 2 = (n + 1) % 2 := by
      rw [show (2 : Nat) = 2 ^ 1 from rfl, Nat.xor_mod_two_pow]
      rcases Nat.mod_two_eq_zero_or_one n with h | h <;> simp [h, Nat.add_mod]
    rw [show (1 : Nat) / 2 = 0 from rfl, Nat.xor_zero] at h1
    generalize n ^^^ 1 = x at *
    split <;> omega
  rw [hx]
  have : IntKind.i64.wrap (((if n % 2 = 1 then n - 1 else n + 1 : Nat)) : Int) = ((if n % 2 = 1 then n - 1 else n + 1 : Nat) : Int) := IntWalk.i64_in _ (by split <;> omega)
  rw [this]
  split <;> split <;> omega
theorem and_one (l : Int) (h0 : 0 ≤ l) (h1 : l ≤ 9223372036854775807) : bits .and .i64 l 1 = l % 2 := by
  obtain ⟨n, rfl⟩ := Int.eq_ofNat_of_zero_le h0
  show IntKind.i64.wrap ((BitVec.ofInt 64 (n : Int) &&& BitVec.ofInt 64 ((1 : Nat) : Int)).toNat : Int) = _
  rw [BitVec.toNat_and, ofInt_u64 n (by omega), ofInt_u64 1 (by omega), show n &&& 1 = n % 2 from Nat.and_one_is_mod n]
  rw [IntWalk.i64_in _ (by omega)]
  omega

theorem lit_Not (l : Int) (w : World) : Calls Try.prog 86 #[.int .i64 l] w fun e w' => e = .returned (.int .i64 (litNot l)) ∧ w = w' := by
  cases hg : litGood l
  · have HV := hide (show -1 = litNot l by unfold litNot; rw [hg]; rfl)
    go_enter Try.func86, Try.ntmps86
    go_wp2_with (first | (go_at_call 140; refine (lit_Good _ _).mono ?_; rintro e w' ⟨rfl, rfl⟩) | go_in)
    go_ret
    exact ⟨ret_int HV.out, rfl⟩
  · obtain ⟨h0, h1⟩ := good_iff.1 hg
    have hx : bits .xor .i64 l 1 = litNot l := by unfold litNot; rw [hg, xor_one l h0 h1]; rfl
    go_enter Try.func86, Try.ntmps86
    go_wp2_with (first | (go_at_call 140; refine (lit_Good _ _).mono ?_; rintro e w' ⟨rfl, rfl⟩) | go_in)
    go_ret
    exact ⟨rfl, rfl⟩

theorem ref_Not (l : Int) (w : World) : Calls Try.prog 34 #[.int .i64 l] w fun e w' => e = .returned (.int .i64 (litNot l)) ∧ w = w' := by
  cases hg : litGood l
  · have HV := hide (show -1 = litNot l by unfold litNot; rw [hg]; rfl)
    go_enter Try.func34, Try.ntmps34
    go_wp2_with (go_at_call 33; refine (ref_Good _ _).mono ?_; rintro e w' ⟨rfl, rfl⟩)
    go_ret
    exact ⟨ret_int HV.out, rfl⟩
  · obtain ⟨h0, h1⟩ := good_iff.1 hg
    by_cases h2 : l % 2 = 1
    · have HV := hide (show l - 1 = litNot l by unfold litNot; rw [hg, if_pos h2]; rfl)
      have ht : (l % 2 == 1) = true := by simpa using h2
      clear h2
      go_enter Try.func34, Try.ntmps34
      go_wp2_with (go_at_call 33; refine (ref_Good _ _).mono ?_; rintro e w' ⟨rfl, rfl⟩)
      go_ret
      exact ⟨ret_int HV.out, rfl⟩
    · have HV := hide (show l + 1 = litNot l by unfold litNot; rw [hg, if_neg h2]; rfl)
      have ht : (l % 2 == 1) = false := by simpa using h2
      clear h2
      go_enter Try.func34, Try.ntmps34
      go_wp2_with (go_at_call 33; refine (ref_Good _ _).mono ?_; rintro e w' ⟨rfl, rfl⟩)
      go_ret
      exact ⟨ret_int HV.out, rfl⟩

theorem lit_Neg (l : Int) (w : World) : Calls Try.prog 153 #[.int .i64 l] w fun e w' => e = .returned (.bool (litNeg l)) ∧ w = w' := by
  cases hg : litGood l
  · have HV := hide (show false = litNeg l by unfold litNeg; rw [hg]; rfl)
    go_enter Try.func153, Try.ntmps153
    go_wp2_with (first | (go_at_call 140; refine (lit_Good _ _).mono ?_; rintro e w' ⟨rfl, rfl⟩) | go_in)
    go_ret
    exact ⟨ret_bool HV.out, rfl⟩
  · obtain ⟨h0, h1⟩ := good_iff.1 hg
    have hx : bits .and .i64 l 1 = l % 2 := and_one l h0 (by omega)
    have HV := hide (show (l % 2 == 1) = litNeg l by unfold litNeg; rw [hg]; simp; rfl)
    go_enter Try.func153, Try.ntmps153
    go_wp2_with (first | (go_at_call 140; refine (lit_Good _ _).mono ?_; rintro e w' ⟨rfl, rfl⟩) | go_in)
    go_ret
    exact ⟨ret_bool HV.out, rfl⟩
end Go.Proofs.Ytcjoohaagdihlaa.Lit
end

section
/- Contracts of the functions on lists of numbers and truths: what is among them, and whether two are one. -/
namespace Go.Proofs.Ytcjoohaagdihlaa.Lit
open Go.RowKit Go.Lt
set_option linter.unusedVariables false

/-- integers as values -/
def ivs (l : List Int) : List Value := l.map (Value.int .i64)
def bvs (l : List Bool) : List Value := l.map Value.bool
/-- whether a number is among some -/
def hasB (l : List Int) (x : Int) : Bool := decide (x ∈ l)
theorem has_iff {l : List Int} {x : Int} : hasB l x = true ↔ x ∈ l := by simp [hasB]
theorem has_no {l : List Int} {x : Int} (h : ∀ k : Nat, k < l.length → l[k]? ≠ some x) : hasB l x = false := by
  unfold hasB
  rw [decide_eq_false_iff_not]
  intro hm
  obtain ⟨k, hk, he⟩ := List.getElem_of_mem hm
  exact h k hk (by rw [List.getElem?_eq_getElem hk, he])
theorem has_yes {l : List Int} {x : Int} {k : Nat} (h : l[k]? = some x) : hasB l x = true := has_iff.2 (List.mem_of_getElem? h)

theorem ref_Has (A : Option Addr) (n c : Nat) (l : List Int) (x : Int) (w : World) (hn : n ≤ 1000000) (hr : Rd w A n (ivs l)) :
    Calls Try.prog 95 #[.slice A n c, .int .i64 x] w fun e w' => e = .returned (.bool (hasB l x)) ∧ w = w' := by
  go_enter Try.func95, Try.ntmps95
  go_wp2
  go_loop [5] (fun i => ∃ k : Nat, k ≤ n ∧ i = .int .i64 k ∧ Hid (∀ j : Nat, j < k → l[j]? ≠ some x)) (fun i => n - (intOf i).toNat)
  case atStart => exact ⟨0, Nat.zero_le _, rfl, fun j hj => absurd hj (Nat.not_lt_zero _)⟩
  case round =>
    obtain ⟨k, hk, rfl, hno⟩ := hrel
    by_cases hlt : k < n
    · obtain ⟨ad, y, rfl, hB, hy, hc⟩ := hr.get hlt
      by_cases he : y = x
      · have HY := hide (show true = hasB l x from (has_yes (he ▸ hy)).symm)
        have hb : (y == x) = true := by simp [he]
        clear he hy
        go_wp2
        go_ret
        exact ⟨ret_bool HY.out, rfl⟩
      · have hb : (y == x) = false := by simp [he]
        have HN := hide (show ∀ j : Nat, j < k + 1 → l[j]? ≠ some x from fun j hj => by
          by_cases h1 : j < k
          · exact hno.out j h1
          · have : j = k := by omega
            subst this
            rw [hy]
            intro h; injection h with h; exact he h)
        clear he hy
        go_wp2
        go_round
        case rel => exact ⟨k + 1, hlt, by go_num, HN.out⟩
        case measure => simp [intOf]; omega
    · have hkn : n = k := by omega
      subst hkn
      have HF := hide (show false = hasB l x from (has_no (fun j hj => hno.out j (by have := hr.len; omega))).symm)
      go_wp2
      go_ret
      exact ⟨ret_bool HF.out, rfl⟩

def IdxIs (o : Bool) (w : World) (e : Ending) (w' : World) : Prop := ∃ i : Int, e = .returned (.int .i64 i) ∧ decide (0 ≤ i) = o ∧ w = w'

theorem slices_Index (A : Option Addr) (n c : Nat) (l : List Int) (x : Int) (w : World) (hn : n ≤ 1000000) (hr : Rd w A n (ivs l)) :
    Calls Try.prog 152 #[.slice A n c, .int .i64 x] w (IdxIs (hasB l x) w) := by
  go_enter Try.func152, Try.ntmps152
  go_wp2
  go_loop [8] (fun i => ∃ k : Nat, k ≤ n ∧ i = .int .i64 k ∧ Hid (∀ j : Nat, j < k → l[j]? ≠ some x)) (fun i => n - (intOf i).toNat)
  case atStart => exact ⟨0, Nat.zero_le _, rfl, fun j hj => absurd hj (Nat.not_lt_zero _)⟩
  case round =>
    obtain ⟨k, hk, rfl, hno⟩ := hrel
    by_cases hlt : k < n
    · obtain ⟨ad, y, rfl, hB, hy, hc⟩ := hr.get hlt
      by_cases he : y = x
      · have HY := hide (show decide (0 ≤ (k : Int)) = hasB l x by rw [has_yes (he ▸ hy)]; simp)
        have hb : (x == y) = true := by simp [he]
        clear he hy
        go_wp2
        go_ret
        exact ⟨k, rfl, HY.out, rfl⟩
      · have hb : (x == y) = false := by simp; exact fun h => he h.symm
        have HN := hide (show ∀ j : Nat, j < k + 1 → l[j]? ≠ some x from fun j hj => by
          by_cases h1 : j < k
          · exact hno.out j h1
          · have : j = k := by omega
            subst this
            rw [hy]
            intro h; injection h with h; exact he h)
        clear he hy
        go_wp2
        go_round
        case rel => exact ⟨k + 1, hlt, by go_num, HN.out⟩
        case measure => simp [intOf]; omega
    · have hkn : n = k := by omega
      subst hkn
      have HF := hide (show decide (0 ≤ (-1 : Int)) = hasB l x by rw [has_no (fun j hj => hno.out j (by have := hr.len; omega))]; rfl)
      go_wp2
      go_ret
      exact ⟨-1, rfl, HF.out, rfl⟩

theorem slices_Contains (A : Option Addr) (n c : Nat) (l : List Int) (x : Int) (w : World) (hn : n ≤ 1000000) (hr : Rd w A n (ivs l)) :
    Calls Try.prog 129 #[.slice A n c, .int .i64 x] w fun e w' => e = .returned (.bool (hasB l x)) ∧ w = w' := by
  go_enter Try.func129, Try.ntmps129
  go_wp2_with (go_at_call 152; refine (slices_Index _ _ _ l _ _ hn hr).mono ?_; rintro e w' ⟨i, rfl, hi, rfl⟩)
  go_ret
  exact ⟨rfl, rfl⟩

theorem lit_Has (A : Option Addr) (n c : Nat) (l : List Int) (x : Int) (w : World) (hn : n ≤ 1000000) (hr : Rd w A n (ivs l)) :
    Calls Try.prog 92 #[.slice A n c, .int .i64 x] w fun e w' => e = .returned (.bool (hasB l x)) ∧ w = w' := by
  go_enter Try.func92, Try.ntmps92
  go_wp2_with (go_at_call 129; refine (slices_Contains _ _ _ l _ _ hn hr).mono ?_; rintro e w' ⟨rfl, rfl⟩)
  go_ret
  exact ⟨rfl, rfl⟩

/-- whether two lists are one -/
def sameI (a b : List Int) : Bool := decide (a = b)
def sameB (a b : List Bool) : Bool := decide (a = b)
theorem list_no {α : Type} {a b : List α} {k : Nat} {x y : α} (hx : a[k]? = some x) (hy : b[k]? = some y) (h : x ≠ y) : a ≠ b := by
  rintro rfl
  rw [hx] at hy
  injection hy with hy
  exact h hy
theorem list_yes {α : Type} {a b : List α} (hl : a.length = b.length) (h : ∀ k : Nat, k < a.length → a[k]? = b[k]?) : a = b := by
  apply List.ext_getElem? 
  intro k
  by_cases hk : k < a.length
  · exact h k hk
  · rw [List.getElem?_eq_none (by omega), List.getElem?_eq_none (by omega)]

theorem ref_Ints (A B : Option Addr) (n m c d : Nat) (a b : List Int) (w : World) (hn : n ≤ 1000000) (hra : Rd w A n (ivs a)) (hrb : Rd w B m (ivs b)) :
    Calls Try.prog 32 #[.slice A n c, .slice B m d] w fun e w' => e = .returned (.bool (sameI a b)) ∧ Dr w w' := by
  have hla := hra.len
  have hlb := hrb.len
  by_cases hm : n = m
  · subst hm
    have HL := hide (show a.length = b.length by omega)
    have hla' := hide hla
    clear hla hlb
    go_enter Try.func32, Try.ntmps32
    go_wp2
    go_loopw [5] (fun i wr => ∃ k : Nat, k ≤ n ∧ i = .int .i64 k ∧ Dr w wr ∧ Hid (∀ j : Nat, j < k → a[j]? = b[j]?)) (fun i _ => n - (intOf i).toNat)
    case atStart => exact ⟨0, Nat.zero_le _, rfl, Dr.refl _, fun j hj => absurd hj (Nat.not_lt_zero _)⟩
    case round =>
      obtain ⟨k, hk, rfl, hd, hno⟩ := hrel
      by_cases hlt : k < n
      · obtain ⟨ad, x, rfl, hB, hx, hc⟩ := (Dr.rd hd hra).get hlt
        obtain ⟨ad', y, rfl, hB', hy, hc'⟩ := (Dr.rd hd hrb).get hlt
        by_cases he : x = y
        · have hb : (x != y) = false := by simp [he]
          have HN := hide (show ∀ j : Nat, j < k + 1 → a[j]? = b[j]? from fun j hj => by
            by_cases h1 : j < k
            · exact hno.out j h1
            · have : j = k := by omega
              subst this
              rw [hx, hy, he])
          clear he hx hy
          go_wp2
          go_quiet (fail)
          go_wp2
          go_roundw
          case rel => exact ⟨k + 1, hlt, by go_num, hd.more _, HN.out⟩
          case measure => simp [intOf]; omega
        · have hb : (x != y) = true := by simp [he]
          have HF := hide (show false = sameI a b from (decide_eq_false (list_no hx hy he)).symm)
          clear he hx hy
          go_wp2
          go_quiet (fail)
          go_wp2
          go_ret
          exact ⟨ret_bool HF.out, hd.more _⟩
      · have hkn : n = k := by omega
        subst hkn
        have HT := hide (show true = sameI a b from (decide_eq_true (list_yes HL.out (fun j hj => hno.out j (by have := hla'.out; omega)))).symm)
        go_wp2
        go_ret
        exact ⟨ret_bool HT.out, hd⟩
  · have HF := hide (show false = sameI a b from (decide_eq_false (fun h => hm (by rw [← hla, ← hlb, h]))).symm)
    have hb : ((n : Int) != (m : Int)) = true := by simp; omega
    clear hla hlb
    go_enter Try.func32, Try.ntmps32
    go_wp2
    go_ret
    exact ⟨ret_bool HF.out, Dr.refl _⟩

theorem bits_Same (A B : Option Addr) (n m c d : Nat) (a b : List Bool) (w : World) (hn : n ≤ 1000000) (hra : Rd w A n (bvs a)) (hrb : Rd w B m (bvs b)) :
    Calls Try.prog 107 #[.slice A n c, .slice B m d] w fun e w' => e = .returned (.bool (sameB a b)) ∧ Dr w w' := by
  have hla := hra.len
  have hlb := hrb.len
  by_cases hm : n = m
  · subst hm
    have HL := hide (show a.length = b.length by omega)
    have hla' := hide hla
    clear hla hlb
    go_enter Try.func107, Try.ntmps107
    go_wp2
    go_loopw [5] (fun i wr => ∃ k : Nat, k ≤ n ∧ i = .int .i64 k ∧ Dr w wr ∧ Hid (∀ j : Nat, j < k → a[j]? = b[j]?)) (fun i _ => n - (intOf i).toNat)
    case atStart => exact ⟨0, Nat.zero_le _, rfl, Dr.refl _, fun j hj => absurd hj (Nat.not_lt_zero _)⟩
    case round =>
      obtain ⟨k, hk, rfl, hd, hno⟩ := hrel
      by_cases hlt : k < n
      · obtain ⟨ad, x, rfl, hB, hx, hc⟩ := (Dr.rd hd hra).get hlt
        obtain ⟨ad', y, rfl, hB', hy, hc'⟩ := (Dr.rd hd hrb).get hlt
        by_cases he : x = y
        · have HN := hide (show ∀ j : Nat, j < k + 1 → a[j]? = b[j]? from fun j hj => by
            by_cases h1 : j < k
            · exact hno.out j h1
            · have : j = k := by omega
              subst this
              rw [hx, hy, he])
          clear hx hy
          subst he
          cases x
          all_goals
            go_wp2
            go_quiet (fail)
            go_wp2
            go_roundw
            case rel => exact ⟨k + 1, hlt, by go_num, hd.more _, HN.out⟩
            case measure => simp [intOf]; omega
        · have HF := hide (show false = sameB a b from (decide_eq_false (list_no hx hy he)).symm)
          clear hx hy
          cases x <;> cases y <;> first | exact absurd rfl he | skip
          all_goals
            clear he
            go_wp2
            go_quiet (fail)
            go_wp2
            go_ret
            exact ⟨ret_bool HF.out, hd.more _⟩
      · have hkn : n = k := by omega
        subst hkn
        have HT := hide (show true = sameB a b from (decide_eq_true (list_yes HL.out (fun j hj => hno.out j (by have := hla'.out; omega)))).symm)
        go_wp2
        go_ret
        exact ⟨ret_bool HT.out, hd⟩
  · have HF := hide (show false = sameB a b from (decide_eq_false (fun h => hm (by rw [← hla, ← hlb, h]))).symm)
    have hb : ((n : Int) != (m : Int)) = true := by simp; omega
    clear hla hlb
    go_enter Try.func107, Try.ntmps107
    go_wp2
    go_ret
    exact ⟨ret_bool HF.out, Dr.refl _⟩
end Go.Proofs.Ytcjoohaagdihlaa.Lit
end

section
/- More memory words of our own: a block that is known whole; an append that tells which block it turns. No program in sight. -/
namespace Go.Lt
open Go.RowKit

/-- block g is just these cells, none frozen -/
def Blk (w : World) (g : Nat) (t : TypeId) (cs : Array Value) : Prop := w.heap[g]? = some (.cells cs t (0, 0))
section
variable {w w' : World} {g : Nat} {t : TypeId} {cs : Array Value}
theorem Blk.lt (h : Blk w g t cs) : g < w.heap.size := by
  rcases Nat.lt_or_ge g w.heap.size with hlt | hge
  · exact hlt
  · unfold Blk at h; rw [Array.getElem?_eq_none hge] at h; cases h
theorem Blk.cell (h : Blk w g t cs) (i : Nat) : w.cell? ⟨g, i, none⟩ = cs[i]? := cell_of_row w g i cs t (0, 0) h
theorem Blk.frozen (h : Blk w g t cs) (i : Nat) : w.frozen? ⟨g, i, none⟩ = false := by
  unfold Blk at h
  simp [World.frozen?, h]
theorem Blk.new (w : World) (t : TypeId) (cs : Array Value) : Blk (w.alloc (.cells cs t)) w.heap.size t cs := heap_alloc_new w _
theorem Blk.alloc (h : Blk w g t cs) (o : Obj) : Blk (w.alloc o) g t cs := (Below.heap_alloc w o g h.lt).trans h
theorem Blk.set_ (h : Blk w g t cs) (i : Nat) (u : Value) : Blk (w.setCell ⟨g, i, none⟩ u) g t (cs.setIfInBounds i u) := by
  unfold Blk at h ⊢
  simp [World.setCell, Array.getElem?_modify, h]
theorem Blk.far (h : Blk w g t cs) {p : Addr} (hp : g ≠ p.block) (u : Value) : Blk (w.setCell p u) g t cs := (Below.heap_setCell w p u g hp).trans h
theorem Blk.below {B : Nat} (h : Blk w g t cs) (hb : Below B w w') (hg : g < B) : Blk w' g t cs := (hb.block g hg).trans h
theorem Blk.grown {row : Option Nat} (h : Blk w g t cs) (hb : w.grownBy w' row) (hg : some g ≠ row) : Blk w' g t cs := (hb.block g h.lt hg).trans h
theorem Blk.dr (h : Blk w g t cs) (hd : Dr w w') : Blk w' g t cs := by obtain ⟨m, rfl⟩ := hd; exact h
theorem own_blk_ne {base : Nat} {e : TypeId} {size n : Nat} {v : Value} {xs : List Value} (h : w.ownsRow base e size v n xs) (hg : Blk w g t cs) (hne : e ≠ t) : some g ≠ v.ownBlock := by
  rcases h.2 with ⟨rfl, _⟩ | ⟨g', cap, cur, rfl, _, hh, _⟩
  · simp [Value.ownBlock]
  · intro he
    have : g = g' := by simpa [Value.ownBlock] using he
    subst this
    unfold Blk at hg
    rw [hh] at hg
    injection hg with hg
    injection hg with _ ht
    exact hne ht
/-- a block that lies below a row's base is not its own -/
theorem own_low_ne {base : Nat} {e : TypeId} {size n : Nat} {v : Value} {xs : List Value} (h : w.ownsRow base e size v n xs) (hg : g < base) : some g ≠ v.ownBlock := by
  rcases h.2 with ⟨rfl, _⟩ | ⟨g', cap, cur, rfl, hb, _⟩
  · simp [Value.ownBlock]
  · intro he
    have : g = g' := by simpa [Value.ownBlock] using he
    omega
end
section
variable {P : Program} {w w0 : World} {base e size bytes n : Nat} {z v : Value} {xs news : List Value}
/-- append of one element onto a row of the call's own, which tells that no other block is turned. -/
theorem wpList_pushG {ops : Array Oper} {rest : List Oper} {o : Oper} {a : Act} {Q : Exit → Act → World → Prop} (hgd : o.guard = none) (s x : Operand) (t : TypeId)
    (ho : o.op = .call { callee := .builtin .append, args := #[s, x], argTypes := #[t, t] })
    (ht : P.underlying t = some (.slice e)) (hi : (P.info? e).map (fun i => (i.zero, i.size, i.bytes)) = some (some z, size, bytes)) (hzs : z.cells.size = size) (hsz : 0 < size)
    (hs : a.eval s = v) (hx : a.eval x = .slice (some ⟨w.heap.size, 0, none⟩) 1 1) (hown : w.ownsRow base e size v n xs) (hb : Below base w0 w) (hbase : base ≤ w0.heap.size)
    (hl : news.length = size) (h1 : ∀ u ∈ news, u.oneCell' = true) (h63 : n + 1 ≤ maxLen) (hby : (n + 1) * bytes ≤ 140737488355328)
    (h : ∀ v' w', w'.ownsRow base e size v' (n + 1) (xs ++ news) → Below base w0 w' → (w.alloc (.cells news.toArray e)).grownBy w' v.ownBlock → wpList P ops Q rest (a.put o.dst v') w') :
    wpList P ops Q (o :: rest) a (w.alloc (.cells news.toArray e)) := by
  obtain ⟨i, hi0, hz, hs1, hs2⟩ := info_parts hi
  refine wpList_append_own _ hgd s x t ho base e i z size bytes ht hi0 hz hs1 hs2 hzs hsz v n xs hs (hown.alloc _) ⟨w.heap.size, 0, none⟩ 1 1 news hx (by omega) ?_ h1 h63 hby ?_ ?_
  · intro j u hu
    have : (⟨w.heap.size, 0, none⟩ : Addr).add j = ⟨w.heap.size, j, none⟩ := by unfold Addr.add; split <;> simp_all
    rw [this, World.cell?_alloc_new]
    simpa using hu
  · have := hb.size; simp; omega
  · intro v' w' h2 h3 _
    refine h v' w' h2 ((hb.alloc (by have := hb.size; omega) _).grown h3 (by have := hb.size; simp; omega) ?_) h3
    intro k hk
    exact (hown.lt k hk).1
end
end Go.Lt
end

section
/- More memory words of our own: rows of elements of more than one cell, that read as a list, appended whole. No program in sight. -/
namespace Go.Lt
open Go.RowKit

/-- the slice at A, of n elements of 'size' cells each, holds these cells -/
def RdS (w : World) (A : Option Addr) (n size : Nat) (xs : List Value) : Prop :=
  xs.length = n * size ∧ (n = 0 ∨ ∃ ad, A = some ad ∧ ad.block < w.heap.size ∧ ∀ k u, xs[k]? = some u → w.cell? (ad.add k) = some u)
theorem RdS.below {w w' : World} {A : Option Addr} {n size B : Nat} {xs : List Value} (h : RdS w A n size xs) (hb : Below B w w') (hB : w.heap.size ≤ B) : RdS w' A n size xs := by
  obtain ⟨h1, h2⟩ := h
  refine ⟨h1, ?_⟩
  rcases h2 with h2 | ⟨ad, h3, h4, h5⟩
  · exact .inl h2
  · exact .inr ⟨ad, h3, Nat.lt_of_lt_of_le h4 hb.size, fun k u hk => (hb.cell (by rw [add_block]; omega)).trans (h5 k u hk)⟩
theorem flat_len {α : Type} (enc : α → List Value) (s : Nat) (hs : ∀ x, (enc x).length = s) (l : List α) : (l.flatMap enc).length = l.length * s := by
  induction l with
  | nil => simp
  | cons x l ih => rw [List.flatMap_cons, List.length_append, hs, ih, List.length_cons, Nat.succ_mul, Nat.add_comm]
theorem flat_get {α : Type} (enc : α → List Value) (s : Nat) (hs : ∀ x, (enc x).length = s) (h0 : 0 < s) (l : List α) : ∀ k, (l.flatMap enc)[k]? = (l[k / s]?).bind fun x => (enc x)[k % s]? := by
  induction l with
  | nil => intro k; simp
  | cons x l ih =>
    intro k
    rw [List.flatMap_cons]
    by_cases hk : k < s
    · rw [List.getElem?_append_left (by rw [hs]; exact hk), Nat.div_eq_of_lt hk, Nat.mod_eq_of_lt hk]; rfl
    · have e1 : k / s = (k - s) / s + 1 := Nat.div_eq_sub_div h0 (by omega)
      have e2 : k % s = (k - s) % s := Nat.mod_eq_sub_mod (by omega)
      rw [List.getElem?_append_right (by rw [hs]; omega), hs, ih (k - s), e1, e2, List.getElem?_cons_succ]
section
variable {P : Program} {w w0 : World} {base e bytes n m c size : Nat} {z v : Value} {A : Option Addr} {xs news : List Value}
/-- append of a slice that reads as a list, nil or not, onto a row of the call's own. -/
theorem wpList_append_rdS {ops : Array Oper} {rest : List Oper} {o : Oper} {a : Act} {Q : Exit → Act → World → Prop} (hgd : o.guard = none) (s x : Operand) (t : TypeId)
    (ho : o.op = .call { callee := .builtin .append, args := #[s, x], argTypes := #[t, t] })
    (ht : P.underlying t = some (.slice e)) (hi : (P.info? e).map (fun i => (i.zero, i.size, i.bytes)) = some (some z, size, bytes)) (hzs : z.cells.size = size) (hsz : 0 < size)
    (hs : a.eval s = v) (hx : a.eval x = .slice A m c) (hown : w.ownsRow base e size v n xs) (hb : Below base w0 w) (hbase : base ≤ w.heap.size)
    (hr : RdS w A m size news) (h1 : ∀ u ∈ news, u.oneCell' = true) (h63 : n + m ≤ maxLen) (hby : (n + m) * bytes ≤ 140737488355328)
    (h : ∀ v' w', w'.ownsRow base e size v' (n + m) (xs ++ news) → Below base w0 w' → w.grownBy w' v.ownBlock → wpList P ops Q rest (a.put o.dst v') w') :
    wpList P ops Q (o :: rest) a w := by
  obtain ⟨i, hi0, hz, hs1, hs2⟩ := info_parts hi
  have hnone : m = 0 → wpList P ops Q (o :: rest) a w ∨ ∃ ad, A = some ad := by
    intro hm
    rcases A with _ | ad
    · left
      subst hm
      have hn : news = [] := List.eq_nil_of_length_eq_zero (by rw [hr.1]; simp)
      subst hn
      refine wpList_plain hgd fun K hK => ?_
      have hrun : (Builtin.append_ #[t, t] o.type #[v, .slice .none 0 c]).run P w = .ok v w := by
        rcases hown.2 with ⟨rfl, rfl⟩ | ⟨g, cap, cur, rfl, _, _, hnc, _⟩
        · simp [Builtin.append_, run_underlying ht, sizeOf, typeInfo, hi0, Builtin.lenOf, Builtin.firstCells]
        · simp [Builtin.append_, run_underlying ht, sizeOf, typeInfo, hi0, Builtin.lenOf, Builtin.firstCells, hnc, storeCells]
      unfold Oper.wp
      simp only [execOp, ho, resolve, invoke, builtin, Sem.run_bind, Sem.run_pure, Result.andThen_ok, List.map_toArray, List.map_cons, List.map_nil, hs, hx, hrun]
      exact hK _ _ (h v w (by simpa using hown) hb (World.grownBy.refl _ _))
    · exact .inr ⟨ad, rfl⟩
  have hsome : wpList P ops Q (o :: rest) a w ∨ ∃ ad, A = some ad ∧ ∀ k u, news[k]? = some u → w.cell? (ad.add k) = some u := by
    rcases hr.2 with hm | ⟨ad, h3, _, h5⟩
    · rcases hnone hm with h4 | ⟨ad, h4⟩
      · exact .inl h4
      · refine .inr ⟨ad, h4, fun k u hk => ?_⟩
        have : news = [] := List.eq_nil_of_length_eq_zero (by rw [hr.1, hm]; simp)
        rw [this] at hk; cases hk
    · exact .inr ⟨ad, h3, h5⟩
  rcases hsome with hd | ⟨ad, rfl, hcell⟩
  · exact hd
  · refine wpList_append_own _ hgd s x t ho base e i z size bytes ht hi0 hz hs1 hs2 hzs hsz v n xs hs hown ad m c news hx (by rw [hr.1]) hcell h1 h63 hby hbase ?_
    intro v' w' h2 h3 _
    exact h v' w' h2 (hb.grown h3 hbase fun k hk => (hown.lt k hk).1) h3
end
section
variable {w : World} {base e size n cap g : Nat} {xs : List Value}
/-- a store into a row of the call's own -/
theorem own_set (h : w.ownsRow base e size (.slice (some ⟨g, 0, none⟩) n cap) n xs) (j : Nat) (u : Value) : (w.setCell ⟨g, j, none⟩ u).ownsRow base e size (.slice (some ⟨g, 0, none⟩) n cap) n (xs.set j u) := by
  obtain ⟨hl, h2⟩ := h
  refine ⟨by simpa using hl, ?_⟩
  rcases h2 with ⟨h3, _⟩ | ⟨g', c', cur, hv, hb, hg, hn, hm, hs, ht⟩
  · cases h3
  · injection hv with h4 _ h5
    injection h4 with h4
    injection h4 with h4 _ _
    subst h4 h5
    refine .inr ⟨g, cap, cur.setIfInBounds j u, rfl, hb, ?_, hn, hm, by simpa using hs, ?_⟩
    · simp [World.setCell, Array.getElem?_modify, hg]
    · rw [Array.toList_setIfInBounds, List.take_set, ht]
theorem own_frozen (h : w.ownsRow base e size (.slice (some ⟨g, 0, none⟩) n cap) n xs) (j : Nat) : w.frozen? ⟨g, j, none⟩ = false := by
  rcases h.2 with ⟨h3, _⟩ | ⟨g', c', cur, hv, hb, hg, hn, hm, hs, ht⟩
  · cases h3
  · injection hv with h4 _ h5
    injection h4 with h4
    injection h4 with h4 _ _
    subst h4
    simp [World.frozen?, hg]
theorem own_cell (h : w.ownsRow base e size (.slice (some ⟨g, 0, none⟩) n cap) n xs) {j : Nat} {u : Value} (hj : xs[j]? = some u) : w.cell? ⟨g, j, none⟩ = some u := by
  have := World.ownsRow.cells h rfl j u hj
  rwa [show (⟨g, 0, none⟩ : Addr).add j = ⟨g, j, none⟩ by unfold Addr.add; split <;> simp_all] at this
end
end Go.Lt
end
