/- How long a slice of numbers that came in may be. No program in sight. -/
import Derived.Test.YtcjoohaagdihlaaOpen1
import Derived.SizedLaws
namespace Go.Lt
open Go.RowKit Go.ChangeShapes Go.WideShapes Go.Deep
set_option linter.unusedVariables false

section
variable {H : Type} {enc : TypeId × Value → H} {P : Program} {w : World} {base : Nat} {held : Bool}
theorem ints_size {k : IntKind} {t e : TypeId} {v : Value} {d : DataW H} {ps : List MemPlace} (ht : P.underlying t = some (.slice e)) (he : P.underlying e = some (.int k)) (hc : P.cellsOf e = 1)
    (h : DataW.Trod enc P w base (fun _ => true) held t v d ps) (hsz : ∀ e1 e2, d = .slice e1 e2 → (e1.length + e2.length) * 8 ≤ reachBytes) {a : Option Addr} {n c : Nat} (hv : v = .slice a n c) : n ≤ 17592186044416 := by
  subst hv
  obtain ⟨fuel, hf⟩ := h
  rcases open_ints ht he hc hf with ⟨hcs, _⟩ | ⟨x, l, c', zs, hcs, _, hl, hm, hz, hx, _, _⟩
  · simp [Value.cells] at hcs
    obtain ⟨rfl, rfl, rfl⟩ := hcs
    omega
  · simp [Value.cells] at hcs
    obtain ⟨rfl, rfl, rfl⟩ := hcs
    have hz : zs.length = c := by simpa using hz
    have hd : d = .slice (lits k (zs.take n)) (lits k (zs.drop n)) := congrArg Prod.fst hx
    have h1 := hsz _ _ hd
    have e1 : (lits (H := H) k (zs.take n)).length = n := by simp [lits]; omega
    rw [e1] at h1
    unfold reachBytes at h1
    omega
end
end Go.Lt
