/- A circuit as an argument, read as lists. -/
import Derived.Test.YtcjoohaagdihlaaDoorCirc0
import Derived.Test.YtcjoohaagdihlaaDoorLit2
import Derived.Test.YtcjoohaagdihlaaDoorOpen1
import Derived.ProofKit
import Derived.OpenShut
import Derived.Deep.Strs
import Derived.Deep.Grids
namespace Go.Proofs.YtcjoohaagdihlaaDoor.Circ
open Go.RowKit Go.ChangeShapes Go.WideShapes Go.Deep Go.Lt Go.Proofs.YtcjoohaagdihlaaDoor.Lit
set_option linter.unusedVariables false
set_option linter.unusedSimpArgs false

theorem add_add (a : Addr) (n j : Nat) : (a.add n).add j = a.add (n + j) := by
  unfold Addr.add
  by_cases hn : n = 0 <;> by_cases hj : j = 0 <;> simp_all [Nat.add_assoc]
theorem list3 {cs : List Value} {a b c : Value} (hl : cs.length = 3) (h0 : (cs.drop 0).take 1 = [a]) (h1 : (cs.drop 1).take 1 = [b]) (h2 : (cs.drop 2).take 1 = [c]) : cs = [a, b, c] := by
  match cs, hl with
  | [x, y, z], _ => simp_all
section
variable {H : Type} {enc : TypeId × Value → H} {P : Program} {w : World} {base : Nat} {held : Bool}
theorem ints_cells {fuel : Nat} {t e : TypeId} {cs : List Value} {x : DataW H × List MemPlace} (ht : P.underlying t = some (.slice e)) (he : P.underlying e = some (.int .i64)) (hc : P.cellsOf e = 1)
    (h : DataW.trod enc P w base (fun _ => true) held fuel t cs = some x) :
    ∃ (a : Option Addr) (n c : Nat) (l : List Int), cs = [.slice a n c] ∧ n ≤ c ∧ c ≤ maxLen ∧ Rd w a n (ivs l) ∧ ∀ x ∈ l, (Lit.int .i64 x).wf = true := by
  rcases open_ints ht he hc h with ⟨hcs, _⟩ | ⟨x, n, c, zs, hcs, _, hl, hm, hz, _, hcell, hwz⟩
  · exact ⟨none, 0, 0, [], hcs, Nat.le_refl _, Nat.zero_le _, Rd.nil _ _, fun x hx => by cases hx⟩
  · have hz : zs.length = c := by simpa using hz
    refine ⟨some x, n, c, zs.take n, hcs, hl, hm, rd_cells (by simp [ivs]; omega) fun i u hu => ?_, fun y hy => hwz y (List.mem_of_mem_take hy)⟩
    have hi : i < n := by have := (List.getElem?_eq_some_iff.1 hu).1; simp [ivs] at this; omega
    rw [hcell i (by omega)]
    unfold ivs at hu
    rw [List.getElem?_map, List.getElem?_take, if_pos hi, List.getElem?_eq_getElem (by omega)] at hu
    rw [List.getD_eq_getElem?_getD, List.getElem?_eq_getElem (by omega)]
    exact hu
theorem t3_cells {fuel : Nat} {t e : TypeId} {f0 f1 f2 : Field} {cs : List Value} {x : DataW H × List MemPlace} (ht : P.underlying t = some (.slice e)) (he : P.underlying e = some (.struct #[f0, f1, f2])) (hc : P.cellsOf e = 3)
    (h0 : P.underlying f0.type = some (.int .i64)) (h1 : P.underlying f1.type = some (.int .i64)) (h2 : P.underlying f2.type = some (.int .i64)) (c0 : P.cellsOf f0.type = 1) (c1 : P.cellsOf f1.type = 1) (c2 : P.cellsOf f2.type = 1) (o0 : f0.offset = 0) (o1 : f1.offset = 1) (o2 : f2.offset = 2)
    (hf : DataW.trod enc P w base (fun _ => true) held fuel t cs = some x) :
    ∃ (a : Option Addr) (n c : Nat) (l : List T3), cs = [.slice a n c] ∧ n ≤ c ∧ c ≤ maxLen ∧ RdT w a n l := by
  rcases DataW.trod_slice ht hf with ⟨hcs, _⟩ | ⟨x, n, c, elems, rest, k, _, hcs, _, _, hl, hm, hlen, hel, _, _⟩
  · exact ⟨none, 0, 0, [], hcs, Nat.le_refl _, Nat.zero_le _, RdT.nil _ _⟩
  · have each : ∀ i, ∃ z : T3, i < n → w.cell? (x.add (i * 3)) = some (.int .i64 z.a) ∧ w.cell? (x.add (i * 3 + 1)) = some (.int .i64 z.b) ∧ w.cell? (x.add (i * 3 + 2)) = some (.int .i64 z.c) := by
      intro i
      by_cases hi : i < n
      · have hE := hel i hi
        rw [hc, List.getElem?_eq_getElem (by omega), Option.bind_eq_some_iff] at hE
        obtain ⟨cs', hcs, hy⟩ := hE
        obtain ⟨_, _, hcell⟩ := World.cells?_some hcs
        obtain ⟨y0, y1, y2, m, _, hl2, hy0, hy1, hy2⟩ := trod_struct3 he hy
        obtain ⟨p, e0, _, _⟩ := DataW.trod_int h0 hy0
        obtain ⟨q, e1, _, _⟩ := DataW.trod_int h1 hy1
        obtain ⟨o, e2, _, _⟩ := DataW.trod_int h2 hy2
        rw [o0, c0] at e0
        rw [o1, c1] at e1
        rw [o2, c2] at e2
        have := list3 (by rw [hl2, hc]) e0 e1 e2
        subst this
        have g0 := hcell 0 (by omega)
        have g1 := hcell 1 (by omega)
        have g2 := hcell 2 (by omega)
        rw [add_add] at g0 g1 g2
        exact ⟨⟨p, q, o⟩, fun _ => ⟨g0, g1, g2⟩⟩
      · exact ⟨⟨0, 0, 0⟩, fun h => absurd h hi⟩
    obtain ⟨g, hg⟩ := Classical.axiomOfChoice each
    refine ⟨some x, n, c, (List.range n).map g, hcs, hl, hm, ⟨by simp, fun i hi => ?_⟩⟩
    obtain ⟨g0, g1, g2⟩ := hg i hi
    refine ⟨x, g i, rfl, ?_, by rw [List.getElem?_map, List.getElem?_range hi]; rfl, g0, g1, g2⟩
    have := World.block_lt_of_cell? w _ g0
    rwa [add_block] at this
/-- a slice of structs of a number, a number and a text: some cells -/
theorem sym_cells {fuel : Nat} {t e : TypeId} {f0 f1 f2 : Field} {cs : List Value} {x : DataW H × List MemPlace} {k0 : IntKind} (ht : P.underlying t = some (.slice e)) (he : P.underlying e = some (.struct #[f0, f1, f2])) (hc : P.cellsOf e = 3)
    (h0 : P.underlying f0.type = some (.int k0)) (h1 : P.underlying f1.type = some (.int .i64)) (h2 : P.underlying f2.type = some .string) (c0 : P.cellsOf f0.type = 1) (c1 : P.cellsOf f1.type = 1) (c2 : P.cellsOf f2.type = 1) (o0 : f0.offset = 0) (o1 : f1.offset = 1) (o2 : f2.offset = 2)
    (hf : DataW.trod enc P w base (fun _ => true) held fuel t cs = some x) :
    ∃ (a : Option Addr) (n c : Nat) (xs : List Value), cs = [.slice a n c] ∧ n ≤ c ∧ c ≤ maxLen ∧ RdS w a n 3 xs ∧ ∀ u ∈ xs, u.oneCell' = true := by
  rcases DataW.trod_slice ht hf with ⟨hcs, _⟩ | ⟨x, n, c, elems, rest, k, _, hcs, _, _, hl, hm, hlen, hel, _, _⟩
  · exact ⟨none, 0, 0, [], hcs, Nat.le_refl _, Nat.zero_le _, ⟨rfl, .inl rfl⟩, fun x hx => by cases hx⟩
  · have each : ∀ i, ∃ z : Int × Int × ByteArray, i < n → w.cell? (x.add (i * 3)) = some (.int k0 z.1) ∧ w.cell? (x.add (i * 3 + 1)) = some (.int .i64 z.2.1) ∧ w.cell? (x.add (i * 3 + 2)) = some (.string z.2.2) := by
      intro i
      by_cases hi : i < n
      · have hE := hel i hi
        rw [hc, List.getElem?_eq_getElem (by omega), Option.bind_eq_some_iff] at hE
        obtain ⟨cs', hcs, hy⟩ := hE
        obtain ⟨_, _, hcell⟩ := World.cells?_some hcs
        obtain ⟨y0, y1, y2, m, _, hl2, hy0, hy1, hy2⟩ := trod_struct3 he hy
        obtain ⟨p, e0, _, _⟩ := DataW.trod_int h0 hy0
        obtain ⟨q, e1, _, _⟩ := DataW.trod_int h1 hy1
        obtain ⟨o, e2, _, _⟩ := DataW.trod_string h2 hy2
        rw [o0, c0] at e0
        rw [o1, c1] at e1
        rw [o2, c2] at e2
        have := list3 (by rw [hl2, hc]) e0 e1 e2
        subst this
        have g0 := hcell 0 (by omega)
        have g1 := hcell 1 (by omega)
        have g2 := hcell 2 (by omega)
        rw [add_add] at g0 g1 g2
        exact ⟨⟨p, q, o⟩, fun _ => ⟨g0, g1, g2⟩⟩
      · exact ⟨⟨0, 0, .empty⟩, fun h => absurd h hi⟩
    obtain ⟨g, hg⟩ := Classical.axiomOfChoice each
    obtain ⟨E, hE⟩ : ∃ E : Nat → List Value, E = fun i => [.int k0 (g i).1, .int .i64 (g i).2.1, .string (g i).2.2] := ⟨_, rfl⟩
    have hE3 : ∀ i, (E i).length = 3 := fun i => by rw [hE]; rfl
    refine ⟨some x, n, c, (List.range n).flatMap E, hcs, hl, hm, ⟨by rw [flat_len E 3 hE3, List.length_range], ?_⟩, ?_⟩
    · rcases Nat.eq_zero_or_pos n with hz | hz
      · exact .inl hz
      · refine .inr ⟨x, rfl, ?_, fun k u hu => ?_⟩
        · have := World.block_lt_of_cell? w _ (hg 0 hz).1
          rwa [add_block] at this
        · rw [flat_get E 3 hE3 (by omega)] at hu
          have hlt : k / 3 < n := by
            rcases Nat.lt_or_ge (k / 3) n with h | h
            · exact h
            · rw [List.getElem?_eq_none (by simpa using h)] at hu; cases hu
          rw [List.getElem?_range hlt, Option.bind_some, hE] at hu
          have e3 : k = k / 3 * 3 + k % 3 := by omega
          obtain ⟨j, hj⟩ : ∃ j, k / 3 = j := ⟨_, rfl⟩
          rw [hj] at hu hlt e3
          obtain ⟨g0, g1, g2⟩ := hg j hlt
          rcases (show k % 3 = 0 ∨ k % 3 = 1 ∨ k % 3 = 2 by omega) with hz | hz | hz
          all_goals
            rw [hz] at hu e3
            injection hu with hu
            subst hu
            rw [e3]
            first | exact g0 | exact g1 | exact g2
    · intro u hu
      obtain ⟨i, _, hi⟩ := List.mem_flatMap.1 hu
      rw [hE] at hi
      simp at hi
      rcases hi with rfl | rfl | rfl <;> rfl
end
/-- a slice's three words -/
structure Sl where
  A : Option Addr
  n : Nat
  c : Nat
/-- a circuit's slices, and its comment -/
structure Cv where
  ins : Sl
  lat : Sl
  outs : Sl
  bads : Sl
  cons : Sl
  gat : Sl
  sym : Sl
  com : ByteArray
/-- the cells of a circuit -/
abbrev cells9 (m : Int) (v : Cv) : Array Value := #[.int .i64 m, .slice v.ins.A v.ins.n v.ins.c, .slice v.lat.A v.lat.n v.lat.c, .slice v.outs.A v.outs.n v.outs.c, .slice v.bads.A v.bads.n v.bads.c, .slice v.cons.A v.cons.n v.cons.c, .slice v.gat.A v.gat.n v.gat.c, .slice v.sym.A v.sym.n v.sym.c, .string v.com]
structure CiIs (w : World) (v : Cv) (c : Ci) : Prop where
  ins : Rd w v.ins.A v.ins.n (ivs c.ins)
  lat : RdT w v.lat.A v.lat.n c.lat
  outs : Rd w v.outs.A v.outs.n (ivs c.outs)
  bads : Rd w v.bads.A v.bads.n (ivs c.bads)
  cons : Rd w v.cons.A v.cons.n (ivs c.cons)
  gat : RdT w v.gat.A v.gat.n c.gat
  sym : ∃ xs, RdS w v.sym.A v.sym.n 3 xs ∧ ∀ u ∈ xs, u.oneCell' = true
theorem CiIs.below {w w' : World} {v : Cv} {c : Ci} {B : Nat} (h : CiIs w v c) (hb : Below B w w') (hB : w.heap.size ≤ B) : CiIs w' v c :=
  ⟨h.ins.below hb hB, h.lat.below hb hB, h.outs.below hb hB, h.bads.below hb hB, h.cons.below hb hB, h.gat.below hb hB, by obtain ⟨xs, h1, h2⟩ := h.sym; exact ⟨xs, h1.below hb hB, h2⟩⟩
/-- each slice is no longer than there may be -/
structure CiLen (v : Cv) : Prop where
  ins : v.ins.n ≤ maxLen
  lat : v.lat.n ≤ maxLen
  outs : v.outs.n ≤ maxLen
  bads : v.bads.n ≤ maxLen
  cons : v.cons.n ≤ maxLen
  gat : v.gat.n ≤ maxLen
  sym : v.sym.n ≤ maxLen
  com : v.com.size ≤ maxLen
theorem take1 {cs : List Value} (hl : cs.length = 9) {a0 a1 a2 a3 a4 a5 a6 a7 a8 : Value} (h0 : (cs.drop 0).take 1 = [a0]) (h1 : (cs.drop 1).take 1 = [a1]) (h2 : (cs.drop 2).take 1 = [a2]) (h3 : (cs.drop 3).take 1 = [a3]) (h4 : (cs.drop 4).take 1 = [a4]) (h5 : (cs.drop 5).take 1 = [a5]) (h6 : (cs.drop 6).take 1 = [a6]) (h7 : (cs.drop 7).take 1 = [a7]) (h8 : (cs.drop 8).take 1 = [a8]) : cs = [a0, a1, a2, a3, a4, a5, a6, a7, a8] := by
  match cs, hl with
  | [b0, b1, b2, b3, b4, b5, b6, b7, b8], _ => simp_all
section
variable {H : Type} {enc : TypeId × Value → H} {P : Program} {w : World} {base : Nat} {held : Bool}
theorem open_circ_rd {r : Reach} {b0 : Nat} {t tI tL tG tS eL eG eS : TypeId} {F : Array Field} {L0 L1 L2 G0 G1 G2 S0 S1 S2 : Field} {k0 : IntKind} {tInt tStr : TypeId} {v : Value} {d : DataW H} {ps : List MemPlace}
    (he : P.underlying t = some (.struct F)) (hc : P.cellsOf t = 9)
    (hF : F.map (fun f => (f.type, f.offset)) = #[(tInt, 0), (tI, 1), (tL, 2), (tI, 3), (tI, 4), (tI, 5), (tG, 6), (tS, 7), (tStr, 8)])
    (hInt : P.underlying tInt = some (.int .i64)) (cInt : P.cellsOf tInt = 1) (hStr : P.underlying tStr = some .string) (cStr : P.cellsOf tStr = 1)
    (hI : P.underlying tI = some (.slice tInt)) (cI : P.cellsOf tI = 1)
    (hL : P.underlying tL = some (.slice eL)) (cL : P.cellsOf tL = 1) (heL : P.underlying eL = some (.struct #[L0, L1, L2])) (ceL : P.cellsOf eL = 3) (oL : (L0.type, L0.offset, L1.type, L1.offset, L2.type, L2.offset) = (tInt, 0, tInt, 1, tInt, 2))
    (hG : P.underlying tG = some (.slice eG)) (cG : P.cellsOf tG = 1) (heG : P.underlying eG = some (.struct #[G0, G1, G2])) (ceG : P.cellsOf eG = 3) (oG : (G0.type, G0.offset, G1.type, G1.offset, G2.type, G2.offset) = (tInt, 0, tInt, 1, tInt, 2))
    (hS : P.underlying tS = some (.slice eS)) (cS : P.cellsOf tS = 1) (heS : P.underlying eS = some (.struct #[S0, S1, S2])) (ceS : P.cellsOf eS = 3) (hS0 : P.underlying S0.type = some (.int k0)) (cS0 : P.cellsOf S0.type = 1) (oS : (S0.offset, S1.type, S1.offset, S2.type, S2.offset) = (0, tInt, 1, tStr, 2))
    (hval : Value.okWide P w r b0 t v) (h : DataW.Trod enc P w base (fun _ => true) held t v d ps) :
    ∃ (z : Cv) (c : Ci), v = .agg (cells9 c.max z) ∧ CiIs w z c ∧ CiLen z ∧ (Lit.int .i64 c.max).wf = true := by
  obtain ⟨cs, rfl, hsz⟩ := okWide_struct he hval
  obtain ⟨fuel, hf⟩ := h
  obtain ⟨xs, n, _, _, hl, hlen, hfs⟩ := DataW.trod_struct he hf
  have hsize : F.size = 9 := by have := congrArg Array.size hF; simpa using this
  have get : ∀ (i : Nat) (ty : TypeId) (off : Nat), (#[(tInt, 0), (tI, 1), (tL, 2), (tI, 3), (tI, 4), (tI, 5), (tG, 6), (tS, 7), (tStr, 8)] : Array (TypeId × Nat))[i]? = some (ty, off) → P.cellsOf ty = 1 →
      ∃ y, DataW.trod enc P w base (fun _ => true) held n ty (((Value.agg cs).cells.toList.drop off).take 1) = some y := by
    intro i ty off hi hc1
    rw [← hF, Array.getElem?_map] at hi
    cases hfi : F[i]? with
    | none => rw [hfi] at hi; cases hi
    | some f =>
      rw [hfi] at hi
      injection hi with hi
      injection hi with h1 h2
      have hlt : i < F.size := (Array.getElem?_eq_some_iff.1 hfi).1
      have := hfs i f hfi
      rw [h1, h2, hc1, List.getElem?_eq_getElem (by rw [hlen]; exact hlt)] at this
      exact ⟨_, this⟩
  injection oL with a1 a2
  injection a2 with a2 a3
  injection a3 with a3 a4
  injection a4 with a4 a5
  injection a5 with a5 a6
  injection oG with g1 g2
  injection g2 with g2 g3
  injection g3 with g3 g4
  injection g4 with g4 g5
  injection g5 with g5 g6
  injection oS with s1 s2
  injection s2 with s2 s3
  injection s3 with s3 s4
  injection s4 with s4 s5
  obtain ⟨y0, h0⟩ := get 0 _ _ rfl cInt
  obtain ⟨y1, h1⟩ := get 1 _ _ rfl cI
  obtain ⟨y2, h2⟩ := get 2 _ _ rfl cL
  obtain ⟨y3, h3⟩ := get 3 _ _ rfl cI
  obtain ⟨y4, h4⟩ := get 4 _ _ rfl cI
  obtain ⟨y5, h5⟩ := get 5 _ _ rfl cI
  obtain ⟨y6, h6⟩ := get 6 _ _ rfl cG
  obtain ⟨y7, h7⟩ := get 7 _ _ rfl cS
  obtain ⟨y8, h8⟩ := get 8 _ _ rfl cStr
  obtain ⟨p, e0, _, w0⟩ := DataW.trod_int hInt h0
  obtain ⟨A1, n1, c1, l1, e1, m1, x1, r1, _⟩ := ints_cells hI hInt cInt h1
  obtain ⟨A2, n2, c2, l2, e2, m2, x2, r2⟩ := t3_cells hL heL ceL (by rw [a1]; exact hInt) (by rw [a3]; exact hInt) (by rw [a5]; exact hInt) (by rw [a1]; exact cInt) (by rw [a3]; exact cInt) (by rw [a5]; exact cInt) a2 a4 a6 h2
  obtain ⟨A3, n3, c3, l3, e3, m3, x3, r3, _⟩ := ints_cells hI hInt cInt h3
  obtain ⟨A4, n4, c4, l4, e4, m4, x4, r4, _⟩ := ints_cells hI hInt cInt h4
  obtain ⟨A5, n5, c5, l5, e5, m5, x5, r5, _⟩ := ints_cells hI hInt cInt h5
  obtain ⟨A6, n6, c6, l6, e6, m6, x6, r6⟩ := t3_cells hG heG ceG (by rw [g1]; exact hInt) (by rw [g3]; exact hInt) (by rw [g5]; exact hInt) (by rw [g1]; exact cInt) (by rw [g3]; exact cInt) (by rw [g5]; exact cInt) g2 g4 g6 h6
  obtain ⟨A7, n7, c7, l7, e7, m7, x7, r7, q7⟩ := sym_cells hS heS ceS hS0 (by rw [s2]; exact hInt) (by rw [s4]; exact hStr) cS0 (by rw [s2]; exact cInt) (by rw [s4]; exact cStr) s1 s3 s5 h7
  obtain ⟨s, e8, _, w8⟩ := DataW.trod_string hStr h8
  have := take1 (by rw [hl, hc]) e0 e1 e2 e3 e4 e5 e6 e7 e8
  obtain ⟨l⟩ := cs
  simp only [Value.cells] at this
  subst this
  exact ⟨⟨⟨A1, n1, c1⟩, ⟨A2, n2, c2⟩, ⟨A3, n3, c3⟩, ⟨A4, n4, c4⟩, ⟨A5, n5, c5⟩, ⟨A6, n6, c6⟩, ⟨A7, n7, c7⟩, s⟩, ⟨p, l1, l2, l3, l4, l5, l6⟩, rfl,
    ⟨r1, r2, r3, r4, r5, r6, l7, r7, q7⟩, ⟨Nat.le_trans m1 x1, Nat.le_trans m2 x2, Nat.le_trans m3 x3, Nat.le_trans m4 x4, Nat.le_trans m5 x5, Nat.le_trans m6 x6, Nat.le_trans m7 x7, w8⟩, w0⟩
end
end Go.Proofs.YtcjoohaagdihlaaDoor.Circ
