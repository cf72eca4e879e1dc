/- Rows of one's own by their words; what a store keeps behind what is written over. -/
import Derived.Test.YtcjoohaagdihlaaStore17a
namespace Go.Proofs.Ytcjoohaagdihlaa.Kept
open Go.RowKit Go.Shelf Go.Lt Go.Proofs.Ytcjoohaagdihlaa.Lit Go.Proofs.Ytcjoohaagdihlaa.CubeHas Go.Proofs.Ytcjoohaagdihlaa.Cube Go.Proofs.Ytcjoohaagdihlaa.Sorted
set_option linter.unusedVariables false
set_option linter.unusedSimpArgs false

theorem OwnV.words {base : Nat} {e : TypeId} {x : Value} {xs : List Value} {w : World} (h : OwnV base e x xs w) : ∃ A n c, x = .slice A n c ∧ n = xs.length ∧ w.ownsRow base e 1 (.slice A n c) n xs := by
  obtain ⟨s, rfl, ho⟩ := h
  obtain ⟨s', he, hn⟩ := own_sl ho
  injection he with h1 h2 h3
  have hn : s.n = xs.length := by rw [h2]; exact hn
  exact ⟨s.A, s.n, s.c, rfl, hn, by rw [hn]; have := ho; rwa [show s.val = .slice s.A xs.length s.c by rw [← hn]] at this⟩
theorem own_place {w : World} {base e n c : Nat} {A : Option Addr} {xs : List Value} (h : w.ownsRow base e 1 (.slice A n c) n xs) {j : Nat} (hj : j < n) :
    ∃ q u, A = some ⟨q, 0, none⟩ ∧ w.cell? ⟨q, j, none⟩ = some u ∧ w.frozen? ⟨q, j, none⟩ = false ∧ xs[j]? = some u ∧ base ≤ q := by
  rcases own_cases h with ⟨h1, h2⟩ | ⟨q, cap, h1, h2, _⟩
  · omega
  · injection h1 with h1 _ h3
    subst h1 h3
    have hl := h.1
    have hx : xs[j]? = some (xs[j]'(by omega)) := List.getElem?_eq_getElem _
    exact ⟨q, _, rfl, own_cell h hx, own_frozen h j, hx, h2⟩
theorem own_addr {w : World} {base e m : Nat} {A : Option Addr} {n c : Nat} {xs : List Value} (h : w.ownsRow base e 1 (.slice A n c) m xs) {ad : Addr} (ha : A = some ad) : (Value.slice A n c).ownBlock = some ad.block := by
  subst ha; rfl
theorem fr_set {S : Nat → Prop} {w W : World} {q j : Nat} {u : Value} (h : Fr S w W) (hq : S q) : Fr S w (W.setCell ⟨q, j, none⟩ u) :=
  h.trans ⟨rfl, rfl, rfl, by simp, fun k hk hS => Below.heap_setCell _ _ _ _ (fun e => hS (by rw [e]; exact hq))⟩
theorem bvs_set (l : List Bool) (j : Nat) (b : Bool) : (bvs l).set j (.bool b) = bvs (l.set j b) := by unfold bvs; rw [List.map_set]
theorem bvs_at {l : List Bool} {j : Nat} {u : Value} (h : (bvs l)[j]? = some u) : ∃ b, u = .bool b := by
  unfold bvs at h
  rw [List.getElem?_map] at h
  cases hl : l[j]? with
  | none => rw [hl] at h; cases h
  | some b => rw [hl] at h; injection h with h; exact ⟨b, h.symm⟩
/-- the blocks of two slices -/
abbrev S2 (A B : Option Addr) : Nat → Prop := fun k => (∃ a, A = some a ∧ a.block = k) ∨ ∃ b, B = some b ∧ b.block = k
theorem offE_new {L : List Kv} {S : Nat → Prop} {N M : Nat} (h : ∀ x ∈ L, ((∀ g, x.c.val.ownBlock = some g → g < N) ∧ ∀ g, x.i.val.ownBlock = some g → g < N) ∨ NewK M x) (h1 : ∀ k, S k → N ≤ k) (h2 : ∀ k, S k → k < M) : OffE S L := fun x hx => by
  rcases h x hx with ⟨a, b⟩ | ⟨a, b⟩
  · exact ⟨fun g hg hs => by have := a g hg; have := h1 g hs; omega, fun g hg hs => by have := b g hg; have := h1 g hs; omega⟩
  · exact ⟨fun g hg hs => by have := a g hg; have := h2 g hs; omega, fun g hg hs => by have := b g hg; have := h2 g hs; omega⟩
theorem row_n {w : World} {base e : Nat} {s : Sl} {L : List Kv} (h : w.ownsRow base e 3 s.val L.length (encK L)) : s.n = L.length := by
  obtain ⟨s', he, hn⟩ := own_sl h
  injection he with h1 h2 h3
  rw [h2]; exact hn
theorem same_is (x y : Kv) (a b : Kc) (w : World) (hx : KvR w x a) (hy : KvR w y b) (h1 : x.c.n ≤ 1000000) (h2 : x.i.n ≤ 1000000) {r : Bool} (hr : sameK a b = r) :
    Calls Try.prog 51 #[.agg x.cells, .agg y.cells] w fun e w' => e = .returned (.bool r) ∧ Below w.heap.size w w' := by subst hr; exact ref_Same x y a b w hx hy h1 h2
theorem sameK_self (a : Kc) : sameK a a = true := by simp [sameK, sameI, sameB]
end Go.Proofs.Ytcjoohaagdihlaa.Kept
