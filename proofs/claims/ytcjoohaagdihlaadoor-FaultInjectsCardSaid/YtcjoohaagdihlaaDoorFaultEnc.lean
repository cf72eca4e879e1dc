/- Nodes as cells. -/
import Derived.Test.YtcjoohaagdihlaaDoorFault2
import Derived.Test.YtcjoohaagdihlaaDoorMem3
namespace Go.Proofs.YtcjoohaagdihlaaDoor.Fault
open Go.RowKit Go.Lt Go.Proofs.YtcjoohaagdihlaaDoor.Lit Go.Instr
set_option linter.unusedVariables false
set_option linter.unusedSimpArgs false

/-- nodes as cells -/
def cellsN (x : Nd) : List Value := [.int .i64 x.A, .int .i64 x.B]
def encN (l : List Nd) : List Value := l.flatMap cellsN
theorem encN_len (l : List Nd) : (encN l).length = l.length * 2 := flat_len cellsN 2 (fun _ => rfl) l
theorem encN_app (a b : List Nd) : encN (a ++ b) = encN a ++ encN b := by unfold encN; rw [List.flatMap_append]
theorem encN_one {l : List Nd} : ∀ u ∈ encN l, u.oneCell' = true := by
  intro u hu
  unfold encN at hu
  rw [List.mem_flatMap] at hu
  obtain ⟨f, _, hf⟩ := hu
  unfold cellsN at hf
  simp only [List.mem_cons, List.not_mem_nil, or_false] at hf
  rcases hf with rfl | rfl <;> rfl
theorem encN_get {l : List Nd} {k : Nat} {x : Nd} (h : l[k]? = some x) : (encN l)[k * 2]? = some (.int .i64 x.A) ∧ (encN l)[k * 2 + 1]? = some (.int .i64 x.B) := by
  unfold encN
  rw [flat_get cellsN 2 (fun _ => rfl) (by omega), flat_get cellsN 2 (fun _ => rfl) (by omega), show k * 2 / 2 = k by omega, show (k * 2 + 1) / 2 = k by omega, show k * 2 % 2 = 0 by omega, show (k * 2 + 1) % 2 = 1 by omega, h]
  exact ⟨rfl, rfl⟩
theorem RdN.of_cells {w : World} {g : Nat} {l : List Nd} (hg : g < w.heap.size) (h : ∀ j u, (encN l)[j]? = some u → w.cell? ⟨g, j, none⟩ = some u) : RdN w (some ⟨g, 0, none⟩) l.length l := by
  refine ⟨rfl, fun k hk => ?_⟩
  have hx : l[k]? = some l[k] := List.getElem?_eq_getElem hk
  obtain ⟨e0, e1⟩ := encN_get hx
  refine ⟨_, _, rfl, hg, hx, ?_, ?_⟩
  · rw [add_lit3, Nat.zero_add]; exact h _ _ e0
  · rw [add_lit3, Nat.zero_add]; exact h _ _ e1
theorem RdN.of_blk {w : World} {g : Nat} {t : TypeId} {l : List Nd} (h : Blk w g t (encN l).toArray) : RdN w (some ⟨g, 0, none⟩) l.length l :=
  RdN.of_cells h.lt fun j u hj => by rw [h.cell]; simpa using hj
theorem RdN.of_own {w : World} {base n : Nat} {e : TypeId} {v : Value} {l : List Nd} (h : w.ownsRow base e 2 v n (encN l)) : ∃ A c, v = .slice A n c ∧ n ≤ c ∧ c ≤ maxLen ∧ RdN w A n l := by
  have hl : l.length = n := by have := h.1; rw [encN_len] at this; omega
  rcases own_cases h with ⟨rfl, rfl⟩ | ⟨g, cap, rfl, hb, hg, hc, hm⟩
  · exact ⟨none, 0, rfl, Nat.le_refl _, Nat.zero_le _, hl, fun k hk => absurd hk (Nat.not_lt_zero _)⟩
  · refine ⟨some ⟨g, 0, none⟩, cap, rfl, hc, hm, ?_⟩
    have := RdN.of_cells (w := w) (g := g) (l := l) hg fun j u hj => own_cell h hj
    rwa [hl] at this
theorem RdN.rdS {w : World} {A : Option Addr} {n : Nat} {l : List Nd} (h : RdN w A n l) : RdS w A n 2 (encN l) := by
  refine ⟨by rw [encN_len, h.1], ?_⟩
  rcases Nat.eq_zero_or_pos n with h0 | h0
  · exact .inl h0
  · obtain ⟨ad, _, h1, h2, _⟩ := h.2 0 h0
    refine .inr ⟨ad, h1, h2, fun k u hk => ?_⟩
    unfold encN at hk
    rw [flat_get cellsN 2 (fun _ => rfl) (by omega)] at hk
    obtain ⟨x, hx, hu⟩ := Option.bind_eq_some_iff.1 hk
    have hlt := (List.getElem?_eq_some_iff.1 hx).1
    obtain ⟨ad', y, h1', _, hy, c0, c1⟩ := h.2 (k / 2) (by rw [← h.1]; exact hlt)
    rw [h1] at h1'
    injection h1' with h1'
    subst h1'
    rw [hx] at hy
    injection hy with hy
    subst hy
    have hm : k % 2 = 0 ∨ k % 2 = 1 := by omega
    rcases hm with hm | hm
    · rw [hm] at hu
      rw [show k = k / 2 * 2 by omega, c0]; exact hu
    · rw [hm] at hu
      rw [show k = k / 2 * 2 + 1 by omega, c1]; exact hu
end Go.Proofs.YtcjoohaagdihlaaDoor.Fault
