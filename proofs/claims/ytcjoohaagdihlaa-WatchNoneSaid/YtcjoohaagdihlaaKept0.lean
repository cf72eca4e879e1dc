/- Rows of kept cubes, read as lists. No program in sight. -/
import Derived.Test.YtcjoohaagdihlaaRegInv
namespace Go.Proofs.Ytcjoohaagdihlaa.Kept
open Go.RowKit Go.Lt
set_option linter.unusedVariables false
set_option linter.unusedSimpArgs false

/-- a slice's three words -/
structure Sl where
  A : Option Addr
  n : Nat
  c : Nat
abbrev Sl.val (s : Sl) : Value := .slice s.A s.n s.c
/-- one that is kept, as values -/
structure Kv where
  c : Sl
  d : Int
  i : Sl
/-- one that is kept -/
structure Kc where
  c : List Int
  d : Int
  i : List Bool
abbrev Kv.cells (x : Kv) : Array Value := #[x.c.val, .int .i64 x.d, x.i.val]
def encK (l : List Kv) : List Value := l.flatMap fun x => [x.c.val, .int .i64 x.d, x.i.val]
theorem encK_len (l : List Kv) : (encK l).length = l.length * 3 := flat_len _ 3 (fun _ => rfl) l
theorem encK_app (a b : List Kv) : encK (a ++ b) = encK a ++ encK b := by unfold encK; rw [List.flatMap_append]
theorem encK_one {l : List Kv} : ∀ u ∈ encK l, u.oneCell' = true := by
  intro u hu
  obtain ⟨x, _, hx⟩ := List.mem_flatMap.1 hu
  simp at hx
  rcases hx with rfl | rfl | rfl <;> rfl
theorem addr_off (ad : Addr) (n j : Nat) (hj : 0 < j) : (⟨(ad.add n).block, (ad.add n).off + j, none⟩ : Addr) = ad.add (n + j) := by
  unfold Addr.add
  rw [if_neg (show ¬ n + j = 0 by omega)]
  split
  · rename_i h; subst h; simp
  · simp [Nat.add_assoc]
/-- a slice of them reads as a list -/
def RdK (w : World) (A : Option Addr) (n : Nat) (l : List Kv) : Prop :=
  l.length = n ∧ ∀ k, k < n → ∃ ad x, A = some ad ∧ ad.block < w.heap.size ∧ l[k]? = some x ∧ w.cell? (ad.add (k * 3)) = some x.c.val ∧ w.cell? (ad.add (k * 3 + 1)) = some (.int .i64 x.d) ∧ w.cell? (ad.add (k * 3 + 2)) = some x.i.val
theorem RdK.nil (w : World) (A : Option Addr) : RdK w A 0 [] := ⟨rfl, fun _ h => absurd h (Nat.not_lt_zero _)⟩
theorem RdK.below {w w' : World} {A : Option Addr} {n B : Nat} {l : List Kv} (h : RdK w A n l) (hb : Below B w w') (hB : w.heap.size ≤ B) : RdK w' A n l :=
  ⟨h.1, fun k hk => by
    obtain ⟨ad, x, h1, h2, h3, h4, h5, h6⟩ := h.2 k hk
    have hh : ad.block < B := Nat.lt_of_lt_of_le h2 hB
    exact ⟨ad, x, h1, Nat.lt_of_lt_of_le h2 hb.size, h3, (hb.cell (by rw [add_block]; exact hh)).trans h4, (hb.cell (by rw [add_block]; exact hh)).trans h5, (hb.cell (by rw [add_block]; exact hh)).trans h6⟩⟩
theorem RdK.get {w : World} {A : Option Addr} {n k : Nat} {l : List Kv} (h : RdK w A n l) (hk : k < n) :
    ∃ ad x, A = some ad ∧ ad.block < w.heap.size ∧ l[k]? = some x ∧ w.cell? (ad.add (k * 3)) = some x.c.val ∧ w.cell? ⟨(ad.add (k * 3)).block, (ad.add (k * 3)).off + 1, none⟩ = some (.int .i64 x.d) ∧ w.cell? ⟨(ad.add (k * 3)).block, (ad.add (k * 3)).off + 2, none⟩ = some x.i.val := by
  obtain ⟨ad, x, h1, h2, h3, h4, h5, h6⟩ := h.2 k hk
  exact ⟨ad, x, h1, h2, h3, h4, by rw [addr_off _ _ _ (by omega)]; exact h5, by rw [addr_off _ _ _ (by omega)]; exact h6⟩
theorem RdK.of_own {w : World} {base n : Nat} {e : TypeId} {v : Value} {l : List Kv} (h : w.ownsRow base e 3 v n (encK l)) : ∃ A c, v = .slice A n c ∧ n ≤ c ∧ c ≤ maxLen ∧ RdK w A n l := by
  have hl : l.length = n := by have := h.1; rw [encK_len] at this; omega
  obtain ⟨_, h2⟩ := h
  rcases h2 with ⟨rfl, rfl⟩ | ⟨g, cap, cur, rfl, hbg, hg, hnc, hcm, hcs, htake⟩
  · exact ⟨none, 0, rfl, Nat.le_refl _, Nat.zero_le _, hl, fun k hk => absurd hk (Nat.not_lt_zero _)⟩
  · refine ⟨some ⟨g, 0, none⟩, cap, rfl, hnc, hcm, hl, fun k hk => ?_⟩
    have hx : l[k]? = some (l[k]'(by omega)) := List.getElem?_eq_getElem _
    have hcell := World.ownsRow.cells (w := w) (v := .slice (some ⟨g, 0, none⟩) n cap) ⟨by rw [encK_len, hl], .inr ⟨g, cap, cur, rfl, hbg, hg, hnc, hcm, hcs, htake⟩⟩ rfl
    have hq : ∀ j, j < 3 → (encK l)[k * 3 + j]? = [(l[k]'(by omega)).c.val, Value.int .i64 (l[k]'(by omega)).d, (l[k]'(by omega)).i.val][j]? := by
      intro j hj
      unfold encK
      rw [flat_get _ 3 (fun _ => rfl) (by omega), show (k * 3 + j) / 3 = k by omega, show (k * 3 + j) % 3 = j by omega, hx]
      rfl
    exact ⟨_, _, rfl, (Array.getElem?_eq_some_iff.1 hg).1, hx, hcell _ _ ((hq 0 (by omega)).trans rfl), hcell _ _ ((hq 1 (by omega)).trans rfl), hcell _ _ ((hq 2 (by omega)).trans rfl)⟩
/-- the first ones with their places -/
def upK (l : List Kv) (k : Nat) : List (Nat × Kv) := (l.take k).zipIdx.map fun p => (p.2, p.1)
theorem upK_succ {l : List Kv} {k : Nat} {x : Kv} (h : l[k]? = some x) : upK l (k + 1) = upK l k ++ [(k, x)] := by
  have hk : k < l.length := (List.getElem?_eq_some_iff.1 h).1
  unfold upK
  rw [List.take_add_one, h, Option.toList_some, List.zipIdx_append, List.map_append]
  simp [Nat.min_eq_left (Nat.le_of_lt hk)]
theorem upK_len (l : List Kv) (k : Nat) (h : k ≤ l.length) : (upK l k).length = k := by unfold upK; simp [h]
end Go.Proofs.Ytcjoohaagdihlaa.Kept
