/- Arguments that are slices of nodes, slices of faults, and faults, read as lists. -/
import Derived.Test.YtcjoohaagdihlaaDoorFault2
import Derived.ProofKit
import Derived.OpenShut
import Derived.Deep.Strs
import Derived.Deep.Grids
namespace Go.Proofs.YtcjoohaagdihlaaDoor.Fault
open Go.RowKit Go.ChangeShapes Go.WideShapes Go.Deep Go.Lt
set_option linter.unusedVariables false
set_option linter.unusedSimpArgs false

theorem add_add (a : Addr) (n j : Nat) : (a.add n).add j = a.add (n + j) := by
  unfold Addr.add
  by_cases hn : n = 0 <;> by_cases hj : j = 0 <;> simp_all [Nat.add_assoc]
theorem list2 {cs : List Value} {a b : Value} (hl : cs.length = 2) (h0 : (cs.drop 0).take 1 = [a]) (h1 : (cs.drop 1).take 1 = [b]) : cs = [a, b] := by
  match cs, hl with
  | [x, y], _ => simp_all
theorem list3 {cs : List Value} {a b c : Value} (hl : cs.length = 3) (h0 : (cs.drop 0).take 1 = [a]) (h1 : (cs.drop 1).take 1 = [b]) (h2 : (cs.drop 2).take 1 = [c]) : cs = [a, b, c] := by
  match cs, hl with
  | [x, y, z], _ => simp_all
def WfN (l : List Nd) : Prop := ∀ x ∈ l, (Lit.int .i64 x.A).wf = true ∧ (Lit.int .i64 x.B).wf = true
def WfF (f : Ft) : Prop := (Lit.int .i64 f.v).wf = true ∧ (Lit.int .i64 f.p).wf = true
section
variable {H : Type} {enc : TypeId × Value → H} {P : Program} {w : World} {base : Nat} {held : Bool}
theorem open_nodes_rd {r : Reach} {b0 : Nat} {t e : TypeId} {f0 f1 : Field} {v : Value} {d : DataW H} {ps : List MemPlace} (ht : P.underlying t = some (.slice e)) (he : P.underlying e = some (.struct #[f0, f1])) (hc : P.cellsOf e = 2)
    (h0 : P.underlying f0.type = some (.int .i64)) (h1 : P.underlying f1.type = some (.int .i64)) (c0 : P.cellsOf f0.type = 1) (c1 : P.cellsOf f1.type = 1) (o0 : f0.offset = 0) (o1 : f1.offset = 1)
    (hval : Value.okWide P w r b0 t v) (h : DataW.Trod enc P w base (fun _ => true) held t v d ps) :
    ∃ (a : Option Addr) (n c : Nat) (l : List Nd), v = .slice a n c ∧ n ≤ c ∧ c ≤ maxLen ∧ RdN w a n l ∧ WfN l := by
  obtain ⟨a, n, c, rfl⟩ := okWide_slice ht hval
  obtain ⟨fuel, hf⟩ := h
  rcases DataW.trod_slice ht hf with ⟨hcs, _⟩ | ⟨x, len, cap, elems, rest, k, _, hcs, _, _, hl, hm, hlen, hel, _, _⟩
  · simp [Value.cells] at hcs
    obtain ⟨rfl, rfl, rfl⟩ := hcs
    exact ⟨none, 0, 0, [], rfl, Nat.le_refl _, Nat.zero_le _, RdN.nil _ _, fun x hx => by cases hx⟩
  · simp [Value.cells] at hcs
    obtain ⟨rfl, rfl, rfl⟩ := hcs
    have each : ∀ i, ∃ z : Nd, i < n → w.cell? (x.add (i * 2)) = some (.int .i64 z.A) ∧ w.cell? (x.add (i * 2 + 1)) = some (.int .i64 z.B) ∧ (Lit.int .i64 z.A).wf = true ∧ (Lit.int .i64 z.B).wf = true := by
      intro i
      by_cases hi : i < n
      · have hE := hel i hi
        rw [hc, List.getElem?_eq_getElem (by omega), Option.bind_eq_some_iff] at hE
        obtain ⟨cs', hcs, hy⟩ := hE
        obtain ⟨_, _, hcell⟩ := World.cells?_some hcs
        obtain ⟨y0, y1, m, _, hl2, hy0, hy1⟩ := trod_struct2 he hy
        obtain ⟨p, e0, _, w0⟩ := DataW.trod_int h0 hy0
        obtain ⟨q, e1, _, w1⟩ := DataW.trod_int h1 hy1
        rw [o0, c0] at e0
        rw [o1, c1] at e1
        have := list2 (by rw [hl2, hc]) e0 e1
        subst this
        have g0 := hcell 0 (by omega)
        have g1 := hcell 1 (by omega)
        rw [add_add] at g0 g1
        exact ⟨⟨p, q⟩, fun _ => ⟨g0, g1, w0, w1⟩⟩
      · exact ⟨⟨0, 0⟩, fun h => absurd h hi⟩
    obtain ⟨g, hg⟩ := Classical.axiomOfChoice each
    refine ⟨some x, n, c, (List.range n).map g, rfl, hl, hm, ⟨by simp, fun i hi => ?_⟩, fun z hz => ?_⟩
    · obtain ⟨g0, g1, _, _⟩ := hg i hi
      refine ⟨x, g i, rfl, ?_, by rw [List.getElem?_map, List.getElem?_range hi]; rfl, g0, g1⟩
      have := World.block_lt_of_cell? w _ g0
      rwa [add_block] at this
    · obtain ⟨i, hi, rfl⟩ := List.mem_map.1 hz
      obtain ⟨_, _, w0, w1⟩ := hg i (List.mem_range.1 hi)
      exact ⟨w0, w1⟩
theorem open_faults_rd {r : Reach} {b0 : Nat} {t e : TypeId} {f0 f1 f2 : Field} {v : Value} {d : DataW H} {ps : List MemPlace} (ht : P.underlying t = some (.slice e)) (he : P.underlying e = some (.struct #[f0, f1, f2])) (hc : P.cellsOf e = 3)
    (h0 : P.underlying f0.type = some (.int .i64)) (h1 : P.underlying f1.type = some (.int .i64)) (h2 : P.underlying f2.type = some .bool) (c0 : P.cellsOf f0.type = 1) (c1 : P.cellsOf f1.type = 1) (c2 : P.cellsOf f2.type = 1) (o0 : f0.offset = 0) (o1 : f1.offset = 1) (o2 : f2.offset = 2)
    (hval : Value.okWide P w r b0 t v) (h : DataW.Trod enc P w base (fun _ => true) held t v d ps) :
    ∃ (a : Option Addr) (n c : Nat) (l : List Ft), v = .slice a n c ∧ n ≤ c ∧ c ≤ maxLen ∧ RdF w a n l ∧ ∀ f ∈ l, WfF f := by
  obtain ⟨a, n, c, rfl⟩ := okWide_slice ht hval
  obtain ⟨fuel, hf⟩ := h
  rcases DataW.trod_slice ht hf with ⟨hcs, _⟩ | ⟨x, len, cap, elems, rest, k, _, hcs, _, _, hl, hm, hlen, hel, _, _⟩
  · simp [Value.cells] at hcs
    obtain ⟨rfl, rfl, rfl⟩ := hcs
    exact ⟨none, 0, 0, [], rfl, Nat.le_refl _, Nat.zero_le _, RdF.nil _ _, fun x hx => by cases hx⟩
  · simp [Value.cells] at hcs
    obtain ⟨rfl, rfl, rfl⟩ := hcs
    have each : ∀ i, ∃ z : Ft, i < n → w.cell? (x.add (i * 3)) = some (.int .i64 z.v) ∧ w.cell? (x.add (i * 3 + 1)) = some (.int .i64 z.p) ∧ w.cell? (x.add (i * 3 + 2)) = some (.bool z.o) ∧ WfF z := by
      intro i
      by_cases hi : i < n
      · have hE := hel i hi
        rw [hc, List.getElem?_eq_getElem (by omega), Option.bind_eq_some_iff] at hE
        obtain ⟨cs', hcs, hy⟩ := hE
        obtain ⟨_, _, hcell⟩ := World.cells?_some hcs
        obtain ⟨y0, y1, y2, m, _, hl2, hy0, hy1, hy2⟩ := trod_struct3 he hy
        obtain ⟨p, e0, _, w0⟩ := DataW.trod_int h0 hy0
        obtain ⟨q, e1, _, w1⟩ := DataW.trod_int h1 hy1
        obtain ⟨o, e2, _⟩ := DataW.trod_bool h2 hy2
        rw [o0, c0] at e0
        rw [o1, c1] at e1
        rw [o2, c2] at e2
        have := list3 (by rw [hl2, hc]) e0 e1 e2
        subst this
        have g0 := hcell 0 (by omega)
        have g1 := hcell 1 (by omega)
        have g2 := hcell 2 (by omega)
        rw [add_add] at g0 g1 g2
        exact ⟨⟨p, q, o⟩, fun _ => ⟨g0, g1, g2, w0, w1⟩⟩
      · exact ⟨⟨0, 0, false⟩, fun h => absurd h hi⟩
    obtain ⟨g, hg⟩ := Classical.axiomOfChoice each
    refine ⟨some x, n, c, (List.range n).map g, rfl, hl, hm, ⟨by simp, fun i hi => ?_⟩, fun z hz => ?_⟩
    · obtain ⟨g0, g1, g2, _⟩ := hg i hi
      refine ⟨x, g i, rfl, ?_, by rw [List.getElem?_map, List.getElem?_range hi]; rfl, g0, g1, g2⟩
      have := World.block_lt_of_cell? w _ g0
      rwa [add_block] at this
    · obtain ⟨i, hi, rfl⟩ := List.mem_map.1 hz
      exact (hg i (List.mem_range.1 hi)).2.2.2
theorem open_fault_rd {r : Reach} {b0 : Nat} {t : TypeId} {f0 f1 f2 : Field} {v : Value} {d : DataW H} {ps : List MemPlace} (he : P.underlying t = some (.struct #[f0, f1, f2])) (hc : P.cellsOf t = 3)
    (h0 : P.underlying f0.type = some (.int .i64)) (h1 : P.underlying f1.type = some (.int .i64)) (h2 : P.underlying f2.type = some .bool) (c0 : P.cellsOf f0.type = 1) (c1 : P.cellsOf f1.type = 1) (c2 : P.cellsOf f2.type = 1) (o0 : f0.offset = 0) (o1 : f1.offset = 1) (o2 : f2.offset = 2)
    (hval : Value.okWide P w r b0 t v) (h : DataW.Trod enc P w base (fun _ => true) held t v d ps) :
    ∃ f : Ft, v = .agg #[.int .i64 f.v, .int .i64 f.p, .bool f.o] ∧ WfF f := by
  obtain ⟨cs, rfl, hsz⟩ := okWide_struct he hval
  obtain ⟨fuel, hf⟩ := h
  obtain ⟨y0, y1, y2, m, _, hl2, hy0, hy1, hy2⟩ := trod_struct3 he hf
  obtain ⟨p, e0, _, w0⟩ := DataW.trod_int h0 hy0
  obtain ⟨q, e1, _, w1⟩ := DataW.trod_int h1 hy1
  obtain ⟨o, e2, _⟩ := DataW.trod_bool h2 hy2
  rw [o0, c0] at e0
  rw [o1, c1] at e1
  rw [o2, c2] at e2
  obtain ⟨l⟩ := cs
  have := list3 (by rw [hl2, hc]) e0 e1 e2
  simp only [Value.cells] at this
  subst this
  exact ⟨⟨p, q, o⟩, rfl, w0, w1⟩
end
end Go.Proofs.YtcjoohaagdihlaaDoor.Fault
