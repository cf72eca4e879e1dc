/- An argument that is a slice of kept cubes, read as a list. -/
import Derived.Test.YtcjoohaagdihlaaStore4
import Derived.Test.YtcjoohaagdihlaaOpen1
import Derived.ProofKit
import Derived.OpenShut
import Derived.Deep.Strs
import Derived.Deep.Grids
namespace Go.Proofs.Ytcjoohaagdihlaa.Kept
open Go.RowKit Go.ChangeShapes Go.WideShapes Go.Deep Go.Lt Go.Proofs.Ytcjoohaagdihlaa.Lit Go.Proofs.Ytcjoohaagdihlaa.CubeHas
set_option linter.unusedVariables false
set_option linter.unusedSimpArgs false

theorem add_add (a : Addr) (n j : Nat) : (a.add n).add j = a.add (n + j) := by
  unfold Addr.add
  by_cases hn : n = 0 <;> by_cases hj : j = 0 <;> simp_all [Nat.add_assoc]
theorem list3 {cs : List Value} {a b c : Value} (hl : cs.length = 3) (h0 : (cs.drop 0).take 1 = [a]) (h1 : (cs.drop 1).take 1 = [b]) (h2 : (cs.drop 2).take 1 = [c]) : cs = [a, b, c] := by
  match cs, hl with
  | [x, y, z], _ => simp_all
section
variable {H : Type} {enc : TypeId × Value → H} {P : Program} {w : World} {base : Nat} {held : Bool}
theorem ints_cells {fuel : Nat} {t e : TypeId} {cs : List Value} {x : DataW H × List MemPlace} (ht : P.underlying t = some (.slice e)) (he : P.underlying e = some (.int .i64)) (hc : P.cellsOf e = 1)
    (h : DataW.trod enc P w base (fun _ => true) held fuel t cs = some x) :
    ∃ (a : Option Addr) (n c : Nat) (l : List Int), cs = [.slice a n c] ∧ n ≤ c ∧ c ≤ maxLen ∧ Rd w a n (ivs l) ∧ ∀ x ∈ l, (Lit.int .i64 x).wf = true := by
  rcases open_ints ht he hc h with ⟨hcs, _⟩ | ⟨x, n, c, zs, hcs, _, hl, hm, hz, _, hcell, hwz⟩
  · exact ⟨none, 0, 0, [], hcs, Nat.le_refl _, Nat.zero_le _, Rd.nil _ _, fun x hx => by cases hx⟩
  · have hz : zs.length = c := by simpa using hz
    refine ⟨some x, n, c, zs.take n, hcs, hl, hm, rd_cells (by simp [ivs]; omega) fun i u hu => ?_, fun y hy => hwz y (List.mem_of_mem_take hy)⟩
    have hi : i < n := by have := (List.getElem?_eq_some_iff.1 hu).1; simp [ivs] at this; omega
    rw [hcell i (by omega)]
    unfold ivs at hu
    rw [List.getElem?_map, List.getElem?_take, if_pos hi, List.getElem?_eq_getElem (by omega)] at hu
    rw [List.getD_eq_getElem?_getD, List.getElem?_eq_getElem (by omega)]
    exact hu
theorem bools_cells {fuel : Nat} {t e : TypeId} {cs : List Value} {x : DataW H × List MemPlace} (ht : P.underlying t = some (.slice e)) (he : P.underlying e = some .bool) (hc : P.cellsOf e = 1)
    (h : DataW.trod enc P w base (fun _ => true) held fuel t cs = some x) :
    ∃ (a : Option Addr) (n c : Nat) (l : List Bool), cs = [.slice a n c] ∧ n ≤ c ∧ c ≤ maxLen ∧ Rd w a n (bvs l) := by
  rcases open_bools ht he hc h with ⟨hcs, _⟩ | ⟨x, l, c', B, hcs, _, hl, hm, _, hcell⟩
  · exact ⟨none, 0, 0, [], hcs, Nat.le_refl _, Nat.zero_le _, Rd.nil _ _⟩
  · refine ⟨some x, l, c', (List.range l).map B, hcs, hl, hm, rd_cells (by simp [bvs]) fun i u hu => ?_⟩
    have hi : i < l := by have := (List.getElem?_eq_some_iff.1 hu).1; simpa [bvs] using this
    rw [hcell i (by omega)]
    unfold bvs at hu
    rw [List.getElem?_map, List.getElem?_map, List.getElem?_range hi] at hu
    exact hu
theorem open_kept_rd {r : Reach} {b0 : Nat} {t e eI eB : TypeId} {f0 f1 f2 : Field} {v : Value} {d : DataW H} {ps : List MemPlace} (ht : P.underlying t = some (.slice e)) (he : P.underlying e = some (.struct #[f0, f1, f2])) (hc : P.cellsOf e = 3)
    (h0 : P.underlying f0.type = some (.slice eI)) (hI : P.underlying eI = some (.int .i64)) (cI : P.cellsOf eI = 1) (h1 : P.underlying f1.type = some (.int .i64)) (h2 : P.underlying f2.type = some (.slice eB)) (hB : P.underlying eB = some .bool) (cB : P.cellsOf eB = 1) (c0 : P.cellsOf f0.type = 1) (c1 : P.cellsOf f1.type = 1) (c2 : P.cellsOf f2.type = 1) (o0 : f0.offset = 0) (o1 : f1.offset = 1) (o2 : f2.offset = 2)
    (hval : Value.okWide P w r b0 t v) (h : DataW.Trod enc P w base (fun _ => true) held t v d ps) :
    ∃ (a : Option Addr) (n c : Nat) (L : List Kv) (l : List Kc), v = .slice a n c ∧ n ≤ c ∧ c ≤ maxLen ∧ RdK w a n L ∧ AllK w L l ∧ (∀ k ∈ l, Wfs k.c) ∧ ∀ k ∈ l, (Lit.int .i64 k.d).wf = true := by
  obtain ⟨a, n, c, rfl⟩ := okWide_slice ht hval
  obtain ⟨fuel, hf⟩ := h
  rcases DataW.trod_slice ht hf with ⟨hcs, _⟩ | ⟨x, len, cap, elems, rest, k, _, hcs, _, _, hl, hm, hlen, hel, _, _⟩
  · simp [Value.cells] at hcs
    obtain ⟨rfl, rfl, rfl⟩ := hcs
    exact ⟨none, 0, 0, [], [], rfl, Nat.le_refl _, Nat.zero_le _, RdK.nil _ _, ⟨rfl, fun j hj => absurd hj (Nat.not_lt_zero _)⟩, fun x hx => (by cases hx), fun x hx => (by cases hx)⟩
  · simp [Value.cells] at hcs
    obtain ⟨rfl, rfl, rfl⟩ := hcs
    have each : ∀ i, ∃ z : Kv × Kc, i < n → w.cell? (x.add (i * 3)) = some z.1.c.val ∧ w.cell? (x.add (i * 3 + 1)) = some (.int .i64 z.1.d) ∧ w.cell? (x.add (i * 3 + 2)) = some z.1.i.val ∧ KvR w z.1 z.2 ∧ Wfs z.2.c ∧ (Lit.int .i64 z.2.d).wf = true := by
      intro i
      by_cases hi : i < n
      · have hE := hel i hi
        rw [hc, List.getElem?_eq_getElem (by omega), Option.bind_eq_some_iff] at hE
        obtain ⟨cs', hcs, hy⟩ := hE
        obtain ⟨_, _, hcell⟩ := World.cells?_some hcs
        obtain ⟨y0, y1, y2, m, _, hl2, hy0, hy1, hy2⟩ := trod_struct3 he hy
        rw [c0] at hy0
        rw [c2] at hy2
        obtain ⟨a0, n0, k0, l0, e0, _, _, r0, w0⟩ := ints_cells h0 hI cI hy0
        obtain ⟨q, e1, _, w1⟩ := DataW.trod_int h1 hy1
        obtain ⟨a2, n2, k2, l2, e2, _, _, r2⟩ := bools_cells h2 hB cB hy2
        rw [o0] at e0
        rw [o1, c1] at e1
        rw [o2] at e2
        have := list3 (by rw [hl2, hc]) e0 e1 e2
        subst this
        have g0 := hcell 0 (by omega)
        have g1 := hcell 1 (by omega)
        have g2 := hcell 2 (by omega)
        rw [add_add] at g0 g1 g2
        refine ⟨⟨⟨⟨a0, n0, k0⟩, q, ⟨a2, n2, k2⟩⟩, ⟨l0, q, l2⟩⟩, fun _ => ⟨g0, g1, g2, ⟨rfl, r0, r2⟩, fun y hy => ?_, w1⟩⟩
        have := w0 y hy
        simp [Lit.wf, IntKind.min, IntKind.max, IntKind.signed, IntKind.bits] at this
        omega
      · exact ⟨⟨zKv, zKc⟩, fun h => absurd h hi⟩
    obtain ⟨g, hg⟩ := Classical.axiomOfChoice each
    have e1 : ∀ i, i < n → kvAt ((List.range n).map fun i => (g i).1) i = (g i).1 := fun i hi => by
      unfold kvAt; rw [List.getD_eq_getElem?_getD, List.getElem?_map, List.getElem?_range hi]; rfl
    have e2 : ∀ i, i < n → kcAt ((List.range n).map fun i => (g i).2) i = (g i).2 := fun i hi => by
      unfold kcAt; rw [List.getD_eq_getElem?_getD, List.getElem?_map, List.getElem?_range hi]; rfl
    refine ⟨some x, n, c, (List.range n).map fun i => (g i).1, (List.range n).map fun i => (g i).2, rfl, hl, hm, ⟨by simp, fun i hi => ?_⟩, ⟨by simp, fun i hi => ?_⟩, fun z hz => ?_, fun z hz => ?_⟩
    · obtain ⟨g0, g1, g2, _⟩ := hg i hi
      refine ⟨x, (g i).1, rfl, ?_, by rw [List.getElem?_map, List.getElem?_range hi]; rfl, g0, g1, g2⟩
      have := World.block_lt_of_cell? w _ g0
      rwa [add_block] at this
    · have hi : i < n := by simpa using hi
      rw [e1 i hi, e2 i hi]
      exact (hg i hi).2.2.2.1
    · obtain ⟨i, hi, rfl⟩ := List.mem_map.1 hz
      exact (hg i (List.mem_range.1 hi)).2.2.2.2.1
    · obtain ⟨i, hi, rfl⟩ := List.mem_map.1 hz
      exact (hg i (List.mem_range.1 hi)).2.2.2.2.2
end
end Go.Proofs.Ytcjoohaagdihlaa.Kept
