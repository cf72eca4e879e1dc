/- The keys of a map that the call may go through, by a range over a function. No program in sight. -/
import Derived.Test.YtcjoohaagdihlaaMap2
import Derived.Shelf.SlIterI.Nil
namespace Go.Lt
open Go.RowKit Go.Instr Go.ChangeMaps Go.Maps Go.Sort Go.Shelf Go.Proofs
set_option linter.unusedVariables false
set_option linter.unusedSimpArgs false
set_option linter.unusedSectionVars false

section
variable {κ : Type} [DecidableEq κ] {enc : κ → Value} {w w' : World} {B r : Nat} {l todo : List (κ × Value)}
theorem RngO.iter_walk (h : RngO w enc B r l todo) : ∃ o : Obj, w.heap[r]? = some o ∧ o.isWalk = true := by
  obtain ⟨es, c, since, seen, c0, h1, h2, h3, h4, h5, h6, _⟩ := h
  exact ⟨_, h6, rfl⟩
theorem RngO.of_walks (h : RngO w enc B r l todo) (hk : KeepsWalks w w') : RngO w' enc B r l todo := by
  obtain ⟨es, c, since, seen, c0, h1, h2, h3, h4, h5, h6, h7⟩ := h
  exact ⟨es, c, since, seen, c0, hk.same _ _ h1 rfl, h2, h3, h4, h5, hk.same _ _ h6 rfl, h7⟩
variable {F : Fence} {n : Nat} {P : Program} {t K E : TypeId} {ops : Array Oper} {rest : List Oper} {o : Oper} {a : Act} {Q : Exit → Act → World → Prop}
theorem wpListIn_rangeO (ht : P.underlying t = some (.map K E)) (hgd : o.guard = none) (m : Operand) (hop : o.op = Op.range t m) (h : MapS w enc B l) (hm : a.eval m = .map (some B))
    (hK : ∀ w', RngO w' enc B w.heap.size l l → Below w.heap.size w w' → w'.heap.size = w.heap.size + 1 → wpListIn F n P ops Q rest (a.put o.dst (.pointer (some ⟨w.heap.size, 0, none⟩))) w') : wpListIn F n P ops Q (o :: rest) a w := by
  refine wpListIn_plain hgd fun K' hK' => ?_
  obtain ⟨w', hrun, r1, r2, r3⟩ := run_rangeO ht h
  unfold Oper.wpIn
  refine ⟨by simp [Oper.about, hop], ?_⟩
  rw [Oper.semAt_plain F _ _ (by rw [hop]; intro c hc'; cases hc')]
  simp [execOp, hop, hm, hrun, Result.andThen]
  exact hK' _ _ (hK w' r1 r2 r3)
/-- a step: whatever the elements are -/
theorem wpListIn_nextV (hgd : o.guard = none) (it : Operand) (hop : o.op = Op.next it false) (hit : a.eval it = .pointer (some ⟨r, 0, none⟩)) (h : RngO w enc B r l todo)
    (hDone : todo = [] → wpListIn F n P ops Q rest (a.put o.dst (.tuple #[.bool false])) w)
    (hMore : ∀ (x : κ) (c : Value) (u v : List (κ × Value)) (w' : World), todo = u ++ (x, c) :: v → RngO w' enc B r l (u ++ v) → w.grownBy w' (some r) → w'.heap.size = w.heap.size →
      (Instr.entry (.pointer (some ⟨r, 0, none⟩))).run P w' = .ok (.tuple #[enc x, c]) w' → wpListIn F n P ops Q rest (a.put o.dst (.tuple #[.bool true, enc x, c])) w') :
    wpListIn F n P ops Q (o :: rest) a w := by
  refine wpListIn_plain hgd fun K' hK' => ?_
  unfold Oper.wpIn
  refine ⟨by simp [Oper.about, hop], ?_⟩
  rw [Oper.semAt_plain F _ _ (by rw [hop]; intro c hc'; cases hc')]
  rcases run_nextO (P := P) h o.type with ⟨h0, hrun⟩ | ⟨u, p, v, w', htd, hrun, hrg, hgr, hsz, hen⟩
  · simp [execOp, hop, hit, hrun, Result.andThen]
    exact hK' _ _ (hDone h0)
  · obtain ⟨x, y⟩ := p
    simp [execOp, hop, hit, hrun, Result.andThen]
    exact hK' _ _ (hMore x y u v w' htd hrg hgr hsz hen)
end
/-- .. of keys that are integers -/
theorem wpListIn_nextZ {F : Fence} {n : Nat} {P : Program} {w : World} {B r : Nat} {l todo : List (Int × Value)} {ops : Array Oper} {rest : List Oper} {o : Oper} {a : Act} {Q : Exit → Act → World → Prop} (hgd : o.guard = none) (it : Operand) (hop : o.op = Op.next it false) (hit : a.eval it = .pointer (some ⟨r, 0, none⟩)) (h : RngO w Lt.encI B r l todo)
    (hDone : todo = [] → wpListIn F n P ops Q rest (a.put o.dst (.tuple #[.bool false])) w)
    (hMore : ∀ (x : Int) (c : Value) (u v : List (Int × Value)) (w' : World), todo = u ++ (x, c) :: v → RngO w' Lt.encI B r l (u ++ v) → w.grownBy w' (some r) → w'.heap.size = w.heap.size →
      (Instr.entry (.pointer (some ⟨r, 0, none⟩))).run P w' = .ok (.tuple #[encZ x, c]) w' → wpListIn F n P ops Q rest (a.put o.dst (.tuple #[.bool true, encZ x, c])) w') :
    wpListIn F n P ops Q (o :: rest) a w := wpListIn_nextV hgd it hop hit h hDone hMore
section
variable {P : Program} {ρ : Ren}
set_option maxRecDepth 100000 in
set_option maxHeartbeats 1000000 in
/-- maps.Keys' iterator over such a map: each key once -/
theorem keys1_S (L : SlLaysZI.n10 P ρ) (F : Fence) (n : Nat) (h10 : F.fn (ρ.f 10)) (hro : F.round = none) (hn : 1 ≤ n) (l Bm b : Nat) (ml : List (Int × Value)) (J : List Int → World → Prop)
    (hY : ∀ pre x W, J pre W → pre.length < ml.length → YieldAt F (n - 1) P l #[encZ x] W fun e W' => e = .returned (.bool true) ∧ J (pre ++ [x]) W' ∧ KeepsWalks W W')
    (W : World) (hJ : AbidesFrom W.heap.size J) (hm : W.cell? ⟨Bm, 0, none⟩ = some (.map (some b))) (hown : MapS W Lt.encI b ml) (h0 : J [] W) :
    CallsIn F n P (ρ.f 10) #[.func (.yield l) #[] #[], .pointer (some ⟨Bm, 0, none⟩)] W fun e W' => (∃ v, e = .returned v) ∧ ∃ ss : List Int, ss.Perm (ml.map (·.1)) ∧ J ss W' := by
  have mixed := L.mixed; have t0 := L.t0; have a0 := L.a0; have z0 := L.z0; have v0 := L.v0; have t4 := L.t4; have a4 := L.a4; have z4 := L.z4; have v4 := L.v4; have t23 := L.t23; have a23 := L.a23; have z23 := L.z23; have v23 := L.v23; have t26 := L.t26; have a26 := L.a26; have z26 := L.z26; have v26 := L.v26; have t33 := L.t33; have a33 := L.a33; have z33 := L.z33; have v33 := L.v33
  have u0 := run_underlying L.t0; have u4 := run_underlying L.t4; have u23 := run_underlying L.t23; have u26 := run_underlying L.t26; have u33 := run_underlying L.t33
  obtain ⟨_, _, FG⟩ := L.f10
  refine callsIn_of_wp FG rfl h10 ?_ hro
  simp only [SlBodyZ.n10_ntmps ρ, List.size_toArray, List.length_cons, List.length_nil, Nat.reduceAdd, Nat.reduceSub, Array.replicate_succ, Array.replicate_zero, List.push_toArray, List.append_toArray, List.nil_append, List.cons_append]
  gi_wp2_with (first
    | (gi_at_range; refine wpListIn_rangeO L.t23 rfl _ rfl hown rfl ?_; intro w0 hrg0 hb0 hs0)
    | gi_in)
  go_frame
  gi_loopw [3] (fun _ wr => ∃ (todo : List (Int × Value)) (ss : List Int), RngO wr Lt.encI b W.heap.size ml todo ∧ ss.length + todo.length = ml.length ∧ (ss ++ todo.map (·.1)).Perm (ml.map (·.1)) ∧ J ss wr)
    (fun _ wr => wr.rangeLeft b W.heap.size)
  case atStart =>
    exact ⟨ml, [], hrg0, by simp, by simp, hJ [] W w0 none h0 ⟨hb0.os, hb0.tape, hb0.output, hb0.size, fun k hk _ => hb0.block k hk⟩ (fun r e => by cases e)⟩
  case round =>
    obtain ⟨todo, ss, hrg, hcs, hC, hJs⟩ := hrel
    gi_wp2_with (first
      | (gi_at_next; refine wpListIn_nextZ rfl _ rfl rfl hrg ?_ ?_)
      | gi_in)
    · intro hc0
      subst hc0
      gi_wp2
      go_end0
      exact ⟨⟨_, rfl⟩, ss, by simpa using hC, hJs⟩
    · intro x c u v w2 htd hrg2 hg2 hs2 hen
      have hJ2 : J ss w2 := hJ ss wr w2 (some W.heap.size) hJs hg2 (fun r e => by cases e; exact ⟨Nat.le_refl _, hrg.iter_walk⟩)
      have hlt : ss.length < ml.length := by rw [htd] at hcs; simp at hcs; omega
      obtain ⟨fn, tmps, assign, body, hy, hR⟩ := hY ss x w2 hJ2 hlt
      clear hs2
      gi_wp2
      refine hR.mono ?_
      rintro e W3 ⟨rfl, hJ3, hk3⟩
      gi_wp2
      have hrg3 := hrg2.of_walks hk3
      go_roundw
      case rel =>
        refine ⟨u ++ v, ss ++ [x], hrg3, by rw [htd] at hcs; simp at hcs ⊢; omega, ?_, hJ3⟩
        refine List.Perm.trans ?_ hC
        rw [htd, List.append_assoc, List.map_append, List.map_append, List.map_cons]
        exact List.Perm.append_left ss (show List.Perm (x :: (u.map (·.1) ++ v.map (·.1))) (u.map (·.1) ++ x :: v.map (·.1)) from List.perm_middle.symm)
      case measure => rw [hrg3.left_eq, hrg.left_eq, htd]; simp
theorem keys_S (L : SlLaysZI.n10 P ρ) (F : Fence) (n : Nat) (h10 : F.fn (ρ.f 10)) (hro : F.round = none) (hn : 1 ≤ n) (Bm b : Nat) (ml : List (Int × Value)) (w : World) (hBm : Bm < w.heap.size)
    (hm : w.cell? ⟨Bm, 0, none⟩ = some (.map (some b))) (hown : MapS w Lt.encI b ml) :
    SeqGives F n P (ρ.f 10) #[.pointer (some ⟨Bm, 0, none⟩)] encZ (fun ss => ss.Perm (ml.map (·.1))) ml.length w := fun l J W hW hJ hY h0 =>
  keys1_S { L with } F n h10 hro hn l Bm b ml J hY W hJ ((hW.cell (p := ⟨Bm, 0, none⟩) hBm).trans hm) (hown.block (hW.block b hown.lt)) h0
end
end Go.Lt
