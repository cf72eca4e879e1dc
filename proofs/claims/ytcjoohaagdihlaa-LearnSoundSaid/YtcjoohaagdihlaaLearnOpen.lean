/- An argument that is a slice of steps, read as a list. -/
import Derived.Test.YtcjoohaagdihlaaLearn0
import Derived.Test.YtcjoohaagdihlaaKeptOpen
namespace Go.Proofs.Ytcjoohaagdihlaa.Learn
open Go.RowKit Go.ChangeShapes Go.WideShapes Go.Deep Go.Lt Go.Proofs.Ytcjoohaagdihlaa.Lit Go.Proofs.Ytcjoohaagdihlaa.CubeHas
open Go.Proofs.Ytcjoohaagdihlaa.Kept (Sl Sl.val addr_off list3 ints_cells)
set_option linter.unusedVariables false
set_option linter.unusedSimpArgs false

structure WfSt (s : St) : Prop where
  lit : (Lit.int .i64 s.lit).wf = true
  lev : (Lit.int .i64 s.lev).wf = true
  why : ∀ x ∈ s.why, (Lit.int .i64 x).wf = true
section
variable {H : Type} {enc : TypeId × Value → H} {P : Program} {w : World} {base : Nat} {held : Bool}
theorem open_steps_rd {r : Reach} {b0 : Nat} {t e eI : TypeId} {f0 f1 f2 : Field} {v : Value} {d : DataW H} {ps : List MemPlace} (ht : P.underlying t = some (.slice e)) (he : P.underlying e = some (.struct #[f0, f1, f2])) (hc : P.cellsOf e = 3)
    (h0 : P.underlying f0.type = some (.int .i64)) (h1 : P.underlying f1.type = some (.int .i64)) (h2 : P.underlying f2.type = some (.slice eI)) (hI : P.underlying eI = some (.int .i64)) (cI : P.cellsOf eI = 1) (c0 : P.cellsOf f0.type = 1) (c1 : P.cellsOf f1.type = 1) (c2 : P.cellsOf f2.type = 1) (o0 : f0.offset = 0) (o1 : f1.offset = 1) (o2 : f2.offset = 2)
    (hval : Value.okWide P w r b0 t v) (h : DataW.Trod enc P w base (fun _ => true) held t v d ps) :
    ∃ (a : Option Addr) (n c : Nat) (l : List St), v = .slice a n c ∧ n ≤ c ∧ c ≤ maxLen ∧ RdT w a n l ∧ ∀ s ∈ l, WfSt s := by
  obtain ⟨a, n, c, rfl⟩ := okWide_slice ht hval
  obtain ⟨fuel, hf⟩ := h
  rcases DataW.trod_slice ht hf with ⟨hcs, _⟩ | ⟨x, len, cap, elems, rest, k, _, hcs, _, _, hl, hm, hlen, hel, _, _⟩
  · simp [Value.cells] at hcs
    obtain ⟨rfl, rfl, rfl⟩ := hcs
    exact ⟨none, 0, 0, [], rfl, Nat.le_refl _, Nat.zero_le _, RdT.nil _ _, fun x hx => (by cases hx)⟩
  · simp [Value.cells] at hcs
    obtain ⟨rfl, rfl, rfl⟩ := hcs
    have each : ∀ i, ∃ z : St × Sl, i < n → w.cell? (x.add (i * 3)) = some (.int .i64 z.1.lit) ∧ w.cell? (x.add (i * 3 + 1)) = some (.int .i64 z.1.lev) ∧ w.cell? (x.add (i * 3 + 2)) = some z.2.val ∧ Rd w z.2.A z.2.n (ivs z.1.why) ∧ WfSt z.1 := by
      intro i
      by_cases hi : i < n
      · have hE := hel i hi
        rw [hc, List.getElem?_eq_getElem (by omega), Option.bind_eq_some_iff] at hE
        obtain ⟨cs', hcs, hy⟩ := hE
        obtain ⟨_, _, hcell⟩ := World.cells?_some hcs
        obtain ⟨y0, y1, y2, m, _, hl2, hy0, hy1, hy2⟩ := trod_struct3 he hy
        rw [c2] at hy2
        obtain ⟨q, e0, _, w0⟩ := DataW.trod_int h0 hy0
        obtain ⟨p, e1, _, w1⟩ := DataW.trod_int h1 hy1
        obtain ⟨a2, n2, k2, l2, e2, _, _, r2, w2⟩ := ints_cells h2 hI cI hy2
        rw [o0, c0] at e0
        rw [o1, c1] at e1
        rw [o2] at e2
        have := list3 (by rw [hl2, hc]) e0 e1 e2
        subst this
        have g0 := hcell 0 (by omega)
        have g1 := hcell 1 (by omega)
        have g2 := hcell 2 (by omega)
        rw [Kept.add_add] at g0 g1 g2
        exact ⟨⟨⟨q, p, l2⟩, ⟨a2, n2, k2⟩⟩, fun _ => ⟨g0, g1, g2, r2, ⟨w0, w1, w2⟩⟩⟩
      · exact ⟨⟨zSt, ⟨none, 0, 0⟩⟩, fun h => absurd h hi⟩
    obtain ⟨g, hg⟩ := Classical.axiomOfChoice each
    refine ⟨some x, n, c, (List.range n).map fun i => (g i).1, rfl, hl, hm, ⟨by simp, fun i hi => ?_⟩, fun z hz => ?_⟩
    · obtain ⟨g0, g1, g2, g3, _⟩ := hg i hi
      refine ⟨x, (g i).1, (g i).2, rfl, ?_, by rw [List.getElem?_map, List.getElem?_range hi]; rfl, g0, g1, g2, g3⟩
      have := World.block_lt_of_cell? w _ g0
      rwa [add_block] at this
    · obtain ⟨i, hi, rfl⟩ := List.mem_map.1 hz
      exact (hg i (List.mem_range.1 hi)).2.2.2.2
end
end Go.Proofs.Ytcjoohaagdihlaa.Learn
