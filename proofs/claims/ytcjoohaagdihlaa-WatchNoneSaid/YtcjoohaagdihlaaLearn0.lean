/- Steps, and what is learned of them: the plain words, and how steps lie in memory. No program in sight. -/
import Derived.Test.YtcjoohaagdihlaaLit2
import Derived.Test.YtcjoohaagdihlaaKept0
import Derived.Test.YtcjoohaagdihlaaSorted1
namespace Go.Proofs.Ytcjoohaagdihlaa.Learn
open Go.RowKit Go.Lt Go.Proofs.Ytcjoohaagdihlaa.Lit Go.Proofs.Ytcjoohaagdihlaa.Sorted
open Go.Proofs.Ytcjoohaagdihlaa.Kept (Sl Sl.val addr_off)
set_option linter.unusedVariables false
set_option linter.unusedSimpArgs false

/-- a step: a literal, its level, why -/
structure St where
  lit : Int
  lev : Int
  why : List Int
def zSt : St := ⟨0, 0, []⟩
def stAt (l : List St) (i : Nat) : St := l.getD i zSt
theorem stAt_is {l : List St} {i : Nat} {x : St} (h : l[i]? = some x) : stAt l i = x := by unfold stAt; rw [List.getD_eq_getElem?_getD, h]; rfl
theorem stAt_get {l : List St} {i : Nat} (h : i < l.length) : l[i]? = some (stAt l i) := by
  rw [List.getElem?_eq_getElem h]; simp [stAt, List.getD, h]
theorem take_st {l : List St} {i : Nat} (h : i < l.length) : l.take (i + 1) = l.take i ++ [stAt l i] := by
  rw [List.take_add_one, stAt_get h]; rfl
/-- whether a literal is 0, or the inverse of one that became One -/
def zeroB (l : List St) (x : Int) : Bool := decide (x = 0) || (litGood x && l.any fun s => decide (s.lit = litNot x))
/-- where a variable is -/
def placeO (l : List St) (x : Int) : Option Nat := l.findIdx? fun s => decide (s.lit / 2 = x / 2)
def placeZ : Option Nat → Int
  | none => -1
  | some i => i
def lvl (l : List St) : Nat → Int
  | 0 => 0
  | i + 1 => (stAt l i).lev
def whyB (pre : List St) (s : St) (y : Int) : Bool := decide (y = s.lit) || zeroB pre y
/-- one step more -/
structure OkStep (pre : List St) (lev : Int) (s : St) : Prop where
  two : 2 ≤ s.lit
  good : s.lit ≤ 33554433
  new : placeO pre s.lit = none
  up : lev ≤ s.lev
  tried : s.why = [] ↔ lev < s.lev
  has : s.why ≠ [] → s.lit ∈ s.why
  why : ∀ y ∈ s.why, whyB pre s y = true
def OkTo (l : List St) (n : Nat) : Prop := ∀ i, i < n → OkStep (l.take i) (lvl l i) (stAt l i)
def GoodP (l : List St) (bad : List Int) : Prop := OkTo l l.length ∧ ∀ x ∈ bad, zeroB l x = true
noncomputable def goodB (l : List St) (bad : List Int) : Bool := @decide (GoodP l bad) (Classical.propDecidable _)
theorem goodB_yes {l : List St} {bad : List Int} (h : GoodP l bad) : goodB l bad = true := by unfold goodB; exact @decide_eq_true _ (Classical.propDecidable _) h
theorem goodB_no {l : List St} {bad : List Int} (h : ¬ GoodP l bad) : goodB l bad = false := by unfold goodB; exact @decide_eq_false _ (Classical.propDecidable _) h
theorem good_of {l : List St} {bad : List Int} (h : goodB l bad = true) : GoodP l bad := by unfold goodB at h; exact @of_decide_eq_true _ (Classical.propDecidable _) h
theorem OkTo.succ {l : List St} {n : Nat} (h : OkTo l n) (hs : OkStep (l.take n) (lvl l n) (stAt l n)) : OkTo l (n + 1) := fun i hi => by
  by_cases h1 : i = n
  · subst h1; exact hs
  · exact h i (by omega)
theorem OkTo.lits {l : List St} {n : Nat} (h : OkTo l n) (hn : n ≤ l.length) : ∀ s ∈ l.take n, 2 ≤ s.lit ∧ s.lit ≤ 33554433 := fun s hs => by
  obtain ⟨i, hi, e⟩ := List.mem_take_iff_getElem.1 hs
  have := h i (by omega)
  have e2 : stAt l i = s := stAt_is (by rw [List.getElem?_eq_getElem (by omega), e])
  rw [e2] at this
  exact ⟨this.two, this.good⟩
/-- steps in memory: three cells each -/
def RdT (w : World) (A : Option Addr) (n : Nat) (l : List St) : Prop :=
  l.length = n ∧ ∀ k, k < n → ∃ ad x, ∃ s : Sl, A = some ad ∧ ad.block < w.heap.size ∧ l[k]? = some x ∧ w.cell? (ad.add (k * 3)) = some (.int .i64 x.lit) ∧ w.cell? (ad.add (k * 3 + 1)) = some (.int .i64 x.lev) ∧ w.cell? (ad.add (k * 3 + 2)) = some s.val ∧ Rd w s.A s.n (ivs x.why)
theorem RdT.nil (w : World) (A : Option Addr) : RdT w A 0 [] := ⟨rfl, fun _ h => absurd h (Nat.not_lt_zero _)⟩
theorem RdT.below {w w' : World} {A : Option Addr} {n B : Nat} {l : List St} (h : RdT w A n l) (hb : Below B w w') (hB : w.heap.size ≤ B) : RdT w' A n l :=
  ⟨h.1, fun k hk => by
    obtain ⟨ad, x, s, h1, h2, h3, h4, h5, h6, h7⟩ := h.2 k hk
    have hh : ad.block < B := Nat.lt_of_lt_of_le h2 hB
    exact ⟨ad, x, s, h1, Nat.lt_of_lt_of_le h2 hb.size, h3, (hb.cell (by rw [add_block]; exact hh)).trans h4, (hb.cell (by rw [add_block]; exact hh)).trans h5, (hb.cell (by rw [add_block]; exact hh)).trans h6, h7.below hb hB⟩⟩
theorem RdT.dr {w w' : World} {A : Option Addr} {n : Nat} {l : List St} (h : RdT w A n l) (hd : Dr w w') : RdT w' A n l := by obtain ⟨m, rfl⟩ := hd; exact h
theorem RdT.take_ {w : World} {A : Option Addr} {n m : Nat} {l : List St} (h : RdT w A n l) (hm : m ≤ n) : RdT w A m (l.take m) :=
  ⟨by rw [List.length_take, h.1]; omega, fun k hk => by
    obtain ⟨ad, x, s, h1, h2, h3, h4⟩ := h.2 k (by omega)
    exact ⟨ad, x, s, h1, h2, by rw [List.getElem?_take, if_pos hk]; exact h3, h4⟩⟩
theorem RdT.get {w : World} {A : Option Addr} {n k : Nat} {l : List St} (h : RdT w A n l) (hk : k < n) :
    ∃ ad x, ∃ s : Sl, A = some ad ∧ ad.block < w.heap.size ∧ l[k]? = some x ∧ w.cell? (ad.add (k * 3)) = some (.int .i64 x.lit) ∧ w.cell? ⟨(ad.add (k * 3)).block, (ad.add (k * 3)).off + 1, none⟩ = some (.int .i64 x.lev) ∧ w.cell? ⟨(ad.add (k * 3)).block, (ad.add (k * 3)).off + 2, none⟩ = some s.val ∧ Rd w s.A s.n (ivs x.why) := by
  obtain ⟨ad, x, s, h1, h2, h3, h4, h5, h6, h7⟩ := h.2 k hk
  exact ⟨ad, x, s, h1, h2, h3, h4, by rw [addr_off _ _ _ (by omega)]; exact h5, by rw [addr_off _ _ _ (by omega)]; exact h6, h7⟩
theorem find_step {l : List St} {x : Int} {k : Nat} {s : St} (hs : l[k]? = some s) (hno : placeO (l.take k) x = none) (h : s.lit / 2 = x / 2) : placeO l x = some k := by
  unfold placeO at *
  rw [List.findIdx?_eq_some_iff_getElem]
  obtain ⟨hk, e⟩ := List.getElem?_eq_some_iff.1 hs
  refine ⟨hk, by rw [e]; simpa using h, fun j hj => ?_⟩
  rw [List.findIdx?_eq_none_iff] at hno
  have := hno l[j] (List.mem_take_iff_getElem.2 ⟨j, by omega, rfl⟩)
  simpa using this
theorem find_next {l : List St} {x : Int} {k : Nat} {s : St} (hs : l[k]? = some s) (hno : placeO (l.take k) x = none) (h : ¬ s.lit / 2 = x / 2) : placeO (l.take (k + 1)) x = none := by
  unfold placeO at *
  rw [List.findIdx?_eq_none_iff] at hno ⊢
  intro y hy
  rw [List.take_add_one, hs] at hy
  rcases List.mem_append.1 hy with hy | hy
  · exact hno y hy
  · have : y = s := by simpa using hy
    rw [this]; simpa using h
theorem zero_hit {l : List St} {x : Int} {k : Nat} {s : St} (hs : l[k]? = some s) (hg : litGood x = true) (h : s.lit = litNot x) : zeroB l x = true := by
  unfold zeroB
  rw [hg, Bool.or_eq_true, Bool.true_and, List.any_eq_true]
  exact .inr ⟨s, List.mem_of_getElem? hs, by simpa using h⟩
theorem zero_miss {l : List St} {x : Int} (h0 : x ≠ 0) (h : ∀ k : Nat, k < l.length → ∀ s, l[k]? = some s → litGood x = true → s.lit ≠ litNot x) : zeroB l x = false := by
  unfold zeroB
  rw [Bool.or_eq_false_iff, Bool.and_eq_false_iff]
  refine ⟨by simpa using h0, ?_⟩
  cases hg : litGood x with
  | false => exact .inl rfl
  | true =>
    right
    rw [List.any_eq_false]
    intro s hs
    obtain ⟨k, hk⟩ := List.getElem?_of_mem hs
    have := h k (List.getElem?_eq_some_iff.1 hk).1 s hk hg
    simpa using this
end Go.Proofs.Ytcjoohaagdihlaa.Learn
