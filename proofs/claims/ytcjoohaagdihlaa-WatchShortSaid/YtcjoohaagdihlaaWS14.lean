/- Texts behind a row, one behind the other: MapSlots, KeysS, KeysShelf, Keys2, StoreM, MapEnt, Norm1. -/
import Derived.Test.YtcjoohaagdihlaaWS13
import Derived.Test.YtcjoohaagdihlaaWS3
import Derived.Shelf.SlIterI.Nil
import Derived.Shelf.SlGeneric
import Derived.Ground.GgzProg
import Derived.Test.YtcjoohaagdihlaaProg
import Derived.Test.YtcjoohaagdihlaaWS8
import Derived.Test.YtcjoohaagdihlaaWS2
import Derived.Test.YtcjoohaagdihlaaWS1
section
/- Maps at one operation of a region that draws its order. No program in sight. -/
namespace Go.Lt
open Go.RowKit Go.Instr Go.ChangeMaps
set_option linter.unusedVariables false
set_option linter.unusedSimpArgs false
section
variable {κ : Type} [DecidableEq κ] {P : Program} {t K E : TypeId} {z : Value} {enc : κ → Value} {w : World} {B : Nat} {l : List (κ × Value)} {o : Oper} {a : Act} {N : Act → World → Prop} {Q : Exit → Act → World → Prop}
theorem oper_lookupO (L : KeyLaw P K enc) (ht : P.underlying t = some (.map K E)) (hz : ∀ w : World, (zeroValue E).run P w = .ok z w) (m k : Operand)
    (hop : o.op = Op.lookup t m k false) (h : MapO w enc B l) (x : κ) (hm : a.eval m = .map (some B)) (hx : a.eval k = enc x)
    (hK : N (a.put o.dst ((mget l x).getD z)) w) : Oper.wp P o a w N Q := by
  have hrun := run_lookupO L ht hz h x
  unfold Oper.wp
  simp [execOp, hop, hm, hx, hrun, Result.andThen]
  exact hK
theorem oper_updateS (L : KeyLaw P K enc) (ht : P.underlying t = some (.map K E)) (m k v : Operand)
    (hop : o.op = Op.mapUpdate t m k v) (h : MapS w enc B l) (x : κ) (u : Value) (hm : a.eval m = .map (some B)) (hx : a.eval k = enc x) (hv : a.eval v = u)
    (hK : ∀ w', MapS w' enc B (mput l x u) → w.grownBy w' (some B) → w'.heap.size = w.heap.size → N (a.put o.dst undef) w') : Oper.wp P o a w N Q := by
  obtain ⟨w', hrun, r1, r2, r3⟩ := run_updateS L ht h x u
  unfold Oper.wp
  simp [execOp, hop, hm, hx, hv, hrun, Result.andThen]
  exact hK w' r1 r2 r3
theorem wpList_insertS {ops : Array Oper} {rest : List Oper} (L : KeyLaw P K enc) (ht : P.underlying t = some (.map K E)) (hgd : o.guard = none) (m k v : Operand)
    (hop : o.op = Op.insert t m k v) (h : MapS w enc B l) (x : κ) (u : Value) (hm : a.eval m = .map (some B)) (hx : a.eval k = enc x) (hv : a.eval v = u)
    (hK : ∀ w', MapS w' enc B (mput l x u) → w.grownBy w' (some B) → w'.heap.size = w.heap.size → wpList P ops Q rest (a.put o.dst undef) w') : wpList P ops Q (o :: rest) a w := by
  refine wpList_plain hgd fun K' hK' => ?_
  obtain ⟨w', hrun, r1, r2, r3⟩ := run_updateS L ht h x u
  unfold Oper.wp
  simp [execOp, hop, hm, hx, hv, hrun, Result.andThen]
  exact hK' _ _ (hK w' r1 r2 r3)
theorem oper_deleteS (L : KeyLaw P K enc) (ht : P.underlying t = some (.map K E)) (m k : Operand)
    (hop : o.op = Op.call { callee := Callee.builtin Builtin.delete, args := #[m, k], argTypes := #[t, K] }) (h : MapS w enc B l) (x : κ) (hm : a.eval m = .map (some B)) (hx : a.eval k = enc x)
    (hK : ∀ w', MapS w' enc B (mdel l x) → w.grownBy w' (some B) → w'.heap.size = w.heap.size → N (a.put o.dst (.tuple #[])) w') : Oper.wp P o a w N Q := by
  obtain ⟨w', hrun, r1, r2, r3⟩ := run_deleteS L ht h x o.type
  unfold Oper.wp
  simp [execOp, hop, resolve, invoke, builtin, hm, hx, hrun, Result.andThen]
  exact hK w' r1 r2 r3
end
end Go.Lt
end

section
/- The keys of a map that the call may go through, by a range over a function. No program in sight. -/
namespace Go.Lt
open Go.RowKit Go.Instr Go.ChangeMaps Go.Maps Go.Sort Go.Shelf Go.Proofs
set_option linter.unusedVariables false
set_option linter.unusedSimpArgs false
set_option linter.unusedSectionVars false

section
variable {κ : Type} [DecidableEq κ] {enc : κ → Value} {w w' : World} {B r : Nat} {l todo : List (κ × Value)}
theorem RngO.iter_walk (h : RngO w enc B r l todo) : ∃ o : Obj, w.heap[r]? = some o ∧ o.isWalk = true := by
  obtain ⟨es, c, since, seen, c0, h1, h2, h3, h4, h5, h6, _⟩ := h
  exact ⟨_, h6, rfl⟩
theorem RngO.of_walks (h : RngO w enc B r l todo) (hk : KeepsWalks w w') : RngO w' enc B r l todo := by
  obtain ⟨es, c, since, seen, c0, h1, h2, h3, h4, h5, h6, h7⟩ := h
  exact ⟨es, c, since, seen, c0, hk.same _ _ h1 rfl, h2, h3, h4, h5, hk.same _ _ h6 rfl, h7⟩
variable {F : Fence} {n : Nat} {P : Program} {t K E : TypeId} {ops : Array Oper} {rest : List Oper} {o : Oper} {a : Act} {Q : Exit → Act → World → Prop}
theorem wpListIn_rangeO (ht : P.underlying t = some (.map K E)) (hgd : o.guard = none) (m : Operand) (hop : o.op = Op.range t m) (h : MapS w enc B l) (hm : a.eval m = .map (some B))
    (hK : ∀ w', RngO w' enc B w.heap.size l l → Below w.heap.size w w' → w'.heap.size = w.heap.size + 1 → wpListIn F n P ops Q rest (a.put o.dst (.pointer (some ⟨w.heap.size, 0, none⟩))) w') : wpListIn F n P ops Q (o :: rest) a w := by
  refine wpListIn_plain hgd fun K' hK' => ?_
  obtain ⟨w', hrun, r1, r2, r3⟩ := run_rangeO ht h
  unfold Oper.wpIn
  refine ⟨by simp [Oper.about, hop], ?_⟩
  rw [Oper.semAt_plain F _ _ (by rw [hop]; intro c hc'; cases hc')]
  simp [execOp, hop, hm, hrun, Result.andThen]
  exact hK' _ _ (hK w' r1 r2 r3)
/-- a step: whatever the elements are -/
theorem wpListIn_nextV (hgd : o.guard = none) (it : Operand) (hop : o.op = Op.next it false) (hit : a.eval it = .pointer (some ⟨r, 0, none⟩)) (h : RngO w enc B r l todo)
    (hDone : todo = [] → wpListIn F n P ops Q rest (a.put o.dst (.tuple #[.bool false])) w)
    (hMore : ∀ (x : κ) (c : Value) (u v : List (κ × Value)) (w' : World), todo = u ++ (x, c) :: v → RngO w' enc B r l (u ++ v) → w.grownBy w' (some r) → w'.heap.size = w.heap.size →
      (Instr.entry (.pointer (some ⟨r, 0, none⟩))).run P w' = .ok (.tuple #[enc x, c]) w' → wpListIn F n P ops Q rest (a.put o.dst (.tuple #[.bool true, enc x, c])) w') :
    wpListIn F n P ops Q (o :: rest) a w := by
  refine wpListIn_plain hgd fun K' hK' => ?_
  unfold Oper.wpIn
  refine ⟨by simp [Oper.about, hop], ?_⟩
  rw [Oper.semAt_plain F _ _ (by rw [hop]; intro c hc'; cases hc')]
  rcases run_nextO (P := P) h o.type with ⟨h0, hrun⟩ | ⟨u, p, v, w', htd, hrun, hrg, hgr, hsz, hen⟩
  · simp [execOp, hop, hit, hrun, Result.andThen]
    exact hK' _ _ (hDone h0)
  · obtain ⟨x, y⟩ := p
    simp [execOp, hop, hit, hrun, Result.andThen]
    exact hK' _ _ (hMore x y u v w' htd hrg hgr hsz hen)
end
/-- .. of keys that are integers -/
theorem wpListIn_nextZ {F : Fence} {n : Nat} {P : Program} {w : World} {B r : Nat} {l todo : List (Int × Value)} {ops : Array Oper} {rest : List Oper} {o : Oper} {a : Act} {Q : Exit → Act → World → Prop} (hgd : o.guard = none) (it : Operand) (hop : o.op = Op.next it false) (hit : a.eval it = .pointer (some ⟨r, 0, none⟩)) (h : RngO w Lt.encI B r l todo)
    (hDone : todo = [] → wpListIn F n P ops Q rest (a.put o.dst (.tuple #[.bool false])) w)
    (hMore : ∀ (x : Int) (c : Value) (u v : List (Int × Value)) (w' : World), todo = u ++ (x, c) :: v → RngO w' Lt.encI B r l (u ++ v) → w.grownBy w' (some r) → w'.heap.size = w.heap.size →
      (Instr.entry (.pointer (some ⟨r, 0, none⟩))).run P w' = .ok (.tuple #[encZ x, c]) w' → wpListIn F n P ops Q rest (a.put o.dst (.tuple #[.bool true, encZ x, c])) w') :
    wpListIn F n P ops Q (o :: rest) a w := wpListIn_nextV hgd it hop hit h hDone hMore
section
variable {P : Program} {ρ : Ren}
set_option maxRecDepth 100000 in
set_option maxHeartbeats 1000000 in
/-- maps.Keys' iterator over such a map: each key once -/
theorem keys1_S (L : SlLaysZI.n10 P ρ) (F : Fence) (n : Nat) (h10 : F.fn (ρ.f 10)) (hro : F.round = none) (hn : 1 ≤ n) (l Bm b : Nat) (ml : List (Int × Value)) (J : List Int → World → Prop)
    (hY : ∀ pre x W, J pre W → pre.length < ml.length → YieldAt F (n - 1) P l #[encZ x] W fun e W' => e = .returned (.bool true) ∧ J (pre ++ [x]) W' ∧ KeepsWalks W W')
    (W : World) (hJ : AbidesFrom W.heap.size J) (hm : W.cell? ⟨Bm, 0, none⟩ = some (.map (some b))) (hown : MapS W Lt.encI b ml) (h0 : J [] W) :
    CallsIn F n P (ρ.f 10) #[.func (.yield l) #[] #[], .pointer (some ⟨Bm, 0, none⟩)] W fun e W' => (∃ v, e = .returned v) ∧ ∃ ss : List Int, ss.Perm (ml.map (·.1)) ∧ J ss W' := by
  have mixed := L.mixed; have t0 := L.t0; have a0 := L.a0; have z0 := L.z0; have v0 := L.v0; have t4 := L.t4; have a4 := L.a4; have z4 := L.z4; have v4 := L.v4; have t23 := L.t23; have a23 := L.a23; have z23 := L.z23; have v23 := L.v23; have t26 := L.t26; have a26 := L.a26; have z26 := L.z26; have v26 := L.v26; have t33 := L.t33; have a33 := L.a33; have z33 := L.z33; have v33 := L.v33
  have u0 := run_underlying L.t0; have u4 := run_underlying L.t4; have u23 := run_underlying L.t23; have u26 := run_underlying L.t26; have u33 := run_underlying L.t33
  obtain ⟨_, _, FG⟩ := L.f10
  refine callsIn_of_wp FG rfl h10 ?_ hro
  simp only [SlBodyZ.n10_ntmps ρ, List.size_toArray, List.length_cons, List.length_nil, Nat.reduceAdd, Nat.reduceSub, Array.replicate_succ, Array.replicate_zero, List.push_toArray, List.append_toArray, List.nil_append, List.cons_append]
  gi_wp2_with (first
    | (gi_at_range; refine wpListIn_rangeO L.t23 rfl _ rfl hown rfl ?_; intro w0 hrg0 hb0 hs0)
    | gi_in)
  go_frame
  gi_loopw [3] (fun _ wr => ∃ (todo : List (Int × Value)) (ss : List Int), RngO wr Lt.encI b W.heap.size ml todo ∧ ss.length + todo.length = ml.length ∧ (ss ++ todo.map (·.1)).Perm (ml.map (·.1)) ∧ J ss wr)
    (fun _ wr => wr.rangeLeft b W.heap.size)
  case atStart =>
    exact ⟨ml, [], hrg0, by simp, by simp, hJ [] W w0 none h0 ⟨hb0.os, hb0.tape, hb0.output, hb0.size, fun k hk _ => hb0.block k hk⟩ (fun r e => by cases e)⟩
  case round =>
    obtain ⟨todo, ss, hrg, hcs, hC, hJs⟩ := hrel
    gi_wp2_with (first
      | (gi_at_next; refine wpListIn_nextZ rfl _ rfl rfl hrg ?_ ?_)
      | gi_in)
    · intro hc0
      subst hc0
      gi_wp2
      go_end0
      exact ⟨⟨_, rfl⟩, ss, by simpa using hC, hJs⟩
    · intro x c u v w2 htd hrg2 hg2 hs2 hen
      have hJ2 : J ss w2 := hJ ss wr w2 (some W.heap.size) hJs hg2 (fun r e => by cases e; exact ⟨Nat.le_refl _, hrg.iter_walk⟩)
      have hlt : ss.length < ml.length := by rw [htd] at hcs; simp at hcs; omega
      obtain ⟨fn, tmps, assign, body, hy, hR⟩ := hY ss x w2 hJ2 hlt
      clear hs2
      gi_wp2
      refine hR.mono ?_
      rintro e W3 ⟨rfl, hJ3, hk3⟩
      gi_wp2
      have hrg3 := hrg2.of_walks hk3
      go_roundw
      case rel =>
        refine ⟨u ++ v, ss ++ [x], hrg3, by rw [htd] at hcs; simp at hcs ⊢; omega, ?_, hJ3⟩
        refine List.Perm.trans ?_ hC
        rw [htd, List.append_assoc, List.map_append, List.map_append, List.map_cons]
        exact List.Perm.append_left ss (show List.Perm (x :: (u.map (·.1) ++ v.map (·.1))) (u.map (·.1) ++ x :: v.map (·.1)) from List.perm_middle.symm)
      case measure => rw [hrg3.left_eq, hrg.left_eq, htd]; simp
theorem keys_S (L : SlLaysZI.n10 P ρ) (F : Fence) (n : Nat) (h10 : F.fn (ρ.f 10)) (hro : F.round = none) (hn : 1 ≤ n) (Bm b : Nat) (ml : List (Int × Value)) (w : World) (hBm : Bm < w.heap.size)
    (hm : w.cell? ⟨Bm, 0, none⟩ = some (.map (some b))) (hown : MapS w Lt.encI b ml) :
    SeqGives F n P (ρ.f 10) #[.pointer (some ⟨Bm, 0, none⟩)] encZ (fun ss => ss.Perm (ml.map (·.1))) ml.length w := fun l J W hW hJ hY h0 =>
  keys1_S { L with } F n h10 hro hn l Bm b ml J hY W hJ ((hW.cell (p := ⟨Bm, 0, none⟩) hBm).trans hm) (hown.block (hW.block b hown.lt)) h0
end
end Go.Lt
end

section
/-
  DERIVED: THE SHELF's CONTRACTS AT THIS DUMP, IN PLAIN WORDS (tools/lay-plain.mjs out of 'YtcjoohaagdihlaaKeysShelfL.lean', which tools/lay-shelf.mjs wrote): THE SAME DECLARATIONS UNDER THE SAME NAMES: 'import', 'namespace', 'open', 'def', 'theorem' AND NOTHING ELSE: no command of the shelf's: FOR A HAND-IN. Each laying: the table of numbers ('.._ren') and one theorem, a field a fact of the dump's own or the kernel's comparison; each contract: ONE APPLICATION.
-/
namespace Go.Proofs
open Go.Shelf
def Try.keysA_ren : Go.Shelf.Ren := ⟨fun | 7 => 115 | 10 => 143 | n => n, fun | 23 => 108 | 26 => 3 | 3 => 4 | 28 => 142 | 0 => 0 | 27 => 141 | 33 => 52 | 4 => 4 | n => n, fun | n => n⟩
theorem Try.keysA : Go.Proofs.SlLaysZI.n7 Try.prog Try.keysA_ren := {
  mixed := by kernel_rfl
  f7 := ⟨Try.f115.name, by decide, Try.func115.trans (congrArg some (by kernel_rfl))⟩
  f10 := ⟨Try.f143.name, by decide, Try.func143.trans (congrArg some (by kernel_rfl))⟩
  t0 := Try.underlying0
  a0 := Try.isAgg0
  z0 := Try.sizeOf0
  v0 := Try.zeroValue0
  t4 := Try.underlying4
  a4 := Try.isAgg4
  z4 := Try.sizeOf4
  v4 := Try.zeroValue4
  t23 := Try.underlying108
  a23 := Try.isAgg108
  z23 := Try.sizeOf108
  v23 := Try.zeroValue108
  t26 := Try.underlying3
  a26 := Try.isAgg3
  z26 := Try.sizeOf3
  v26 := Try.zeroValue3
  t27 := Try.underlying141
  a27 := Try.isAgg141
  z27 := Try.sizeOf141
  v27 := Try.zeroValue141
  t28 := Try.underlying142
  a28 := Try.isAgg142
  z28 := Try.sizeOf142
  v28 := Try.zeroValue142
  t33 := Try.underlying52
  a33 := Try.isAgg52
  z33 := Try.sizeOf52
  v33 := Try.zeroValue52 }
def Try.keysB_ren : Go.Shelf.Ren := ⟨fun | 7 => 121 | 10 => 148 | n => n, fun | 23 => 128 | 26 => 3 | 3 => 137 | 28 => 142 | 0 => 0 | 27 => 141 | 33 => 52 | 4 => 4 | n => n, fun | n => n⟩
theorem Try.keysB : Go.Proofs.SlLaysZI.n7 Try.prog Try.keysB_ren := {
  mixed := by kernel_rfl
  f7 := ⟨Try.f121.name, by decide, Try.func121.trans (congrArg some (by kernel_rfl))⟩
  f10 := ⟨Try.f148.name, by decide, Try.func148.trans (congrArg some (by kernel_rfl))⟩
  t0 := Try.underlying0
  a0 := Try.isAgg0
  z0 := Try.sizeOf0
  v0 := Try.zeroValue0
  t4 := Try.underlying4
  a4 := Try.isAgg4
  z4 := Try.sizeOf4
  v4 := Try.zeroValue4
  t23 := Try.underlying128
  a23 := Try.isAgg128
  z23 := Try.sizeOf128
  v23 := Try.zeroValue128
  t26 := Try.underlying3
  a26 := Try.isAgg3
  z26 := Try.sizeOf3
  v26 := Try.zeroValue3
  t27 := Try.underlying141
  a27 := Try.isAgg141
  z27 := Try.sizeOf141
  v27 := Try.zeroValue141
  t28 := Try.underlying142
  a28 := Try.isAgg142
  z28 := Try.sizeOf142
  v28 := Try.zeroValue142
  t33 := Try.underlying52
  a33 := Try.isAgg52
  z33 := Try.sizeOf52
  v33 := Try.zeroValue52 }
def Try.sortedA_ren : Go.Shelf.Ren := ⟨fun | 6 => 114 | 8 => 142 | 9 => 127 | 11 => 156 | 13 => 151 | 12 => 150 | 23 => 167 | 24 => 168 | 14 => 158 | 15 => 159 | 16 => 160 | 17 => 161 | 18 => 162 | 19 => 163 | 20 => 164 | 21 => 165 | 22 => 166 | 25 => 171 | 26 => 172 | 27 => 173 | 28 => 174 | 29 => 175 | 30 => 176 | 31 => 178 | n => n, fun | 26 => 3 | 28 => 142 | 24 => 40 | 0 => 0 | 3 => 3 | 37 => 151 | 48 => 176 | 50 => 22 | 4 => 4 | 40 => 168 | 39 => 167 | 45 => 173 | 5 => 5 | 9 => 9 | 51 => 180 | 55 => 184 | 57 => 186 | 58 => 187 | 33 => 52 | n => n, fun | n => n⟩
theorem Try.sortedA : Go.Proofs.SlLaysZI.n6 Try.prog Try.sortedA_ren := {
  mixed := by kernel_rfl
  f6 := ⟨Try.f114.name, by decide, Try.func114.trans (congrArg some (by kernel_rfl))⟩
  f8 := ⟨Try.f142.name, by decide, Try.func142.trans (congrArg some (by kernel_rfl))⟩
  f11 := ⟨Try.f156.name, by decide, Try.func156.trans (congrArg some (by kernel_rfl))⟩
  t0 := Try.underlying0
  a0 := Try.isAgg0
  z0 := Try.sizeOf0
  v0 := Try.zeroValue0
  t24 := Try.underlying40
  a24 := Try.isAgg40
  z24 := Try.sizeOf40
  v24 := Try.zeroValue40
  t26 := Try.underlying3
  a26 := Try.isAgg3
  z26 := Try.sizeOf3
  v26 := Try.zeroValue3
  t28 := Try.underlying142
  a28 := Try.isAgg142
  z28 := Try.sizeOf142
  v28 := Try.zeroValue142
  i26 := by kernel_rfl }
end Go.Proofs
end

section
/- The keys of a map in order: the program's slices.Sorted(maps.Keys(..)). -/
namespace Go.Proofs.Ytcjoohaagdihlaa.Watch
open Go.RowKit Go.Lt Go.Proofs.Ytcjoohaagdihlaa.Lit Go.Proofs.Ytcjoohaagdihlaa.Sorted Go.Proofs Go.Maps Go.Sort Go.Shelf
set_option linter.unusedVariables false
set_option linter.unusedSimpArgs false

theorem sort_srt {ss ks : List Int} (h : ss.Perm ks) (hn : ks.Nodup) : (ss.mergeSort fun x y => decide (x ≤ y)) = srt ks := by
  have hp : (ss.mergeSort fun x y => decide (x ≤ y)).Perm ks := (List.mergeSort_perm ss _).trans h
  have hs : (ss.mergeSort fun x y => decide (x ≤ y)).Pairwise (· ≤ ·) := (List.pairwise_mergeSort (le := fun x y : Int => decide (x ≤ y)) (fun a b c h1 h2 => by simp at *; omega) (fun a b => by simp; omega) ss).imp (fun h => by simpa using h)
  refine rise_one ?_ (srt_rise ks) (fun y => by rw [hp.mem_iff, srt_mem])
  exact (hs.and (hp.symm.nodup hn)).imp (fun h => by have h1 := h.1; have h2 := h.2; omega)
theorem sorts_A (m : Nat) : AnyZI.SortsIn Try.prog Try.sortedA_ren Fence.wide m :=
  ⟨fun blk off cap ss W hH hblk hsz => callsIn_wide.2 (Try.slices_Sort_int blk off cap ss W hH hblk hsz),
   fun p cap W => callsIn_wide.2 (Try.slices_Sort_int_none p cap W)⟩
theorem keys_A (mb : Option Nat) (w : World) : Calls Try.prog 115 #[.map mb] w fun e w' => e = .returned (.func (.func 143) #[] #[.pointer (some ⟨w.heap.size, 0, none⟩)]) ∧ w' = w.alloc (.cells #[.map mb] 108) :=
  (callsIn_wide (n := 5)).1 (AnyZI.keys_in Try.keysA Fence.wide 5 trivial rfl mb w)
theorem keys_B (mb : Option Nat) (w : World) : Calls Try.prog 121 #[.map mb] w fun e w' => e = .returned (.func (.func 148) #[] #[.pointer (some ⟨w.heap.size, 0, none⟩)]) ∧ w' = w.alloc (.cells #[.map mb] 128) :=
  (callsIn_wide (n := 5)).1 (AnyZI.keys_in Try.keysB Fence.wide 5 trivial rfl mb w)
def SortedIs (ks : List Int) (w : World) (e : Ending) (w' : World) : Prop := ∃ v, e = .returned v ∧ w'.ownsRow w.heap.size 3 1 v ks.length (ivs (srt ks)) ∧ Below w.heap.size w w'
set_option maxRecDepth 100000 in
theorem sorted_is {ks : List Int} {w : World} {g : Nat} {lb : Array Value} (hk : ks.Nodup) (hn : ks.length ≤ 1000000) (hg : ∀ args w, (callFunc g args).run Try.prog w = .ok (.enter g args) w) (hseq : SeqGives Fence.wide 2 Try.prog g lb encZ (fun ss => ss.Perm ks) ks.length w) :
    Calls Try.prog 114 #[.func (.func g) #[] lb] w (SortedIs ks w) := by
  have cS := AnyZI.sorted_in Try.sortedA Fence.wide 5 trivial trivial trivial trivial rfl (by omega) (sorts_A _) (enters_of Try.func127 (by kernel_rfl) rfl) g lb trivial hg _ ks.length (by unfold maxLen; omega) (by omega) _ hseq
  refine ((callsIn_wide (n := 5)).1 cS).mono ?_
  rintro e w' ⟨v, ss, rfl, hS, hrow, hnil, hb⟩
  refine ⟨v, rfl, ?_, hb⟩
  rw [sort_srt hS hk, hS.length_eq] at hrow
  exact hrow
theorem sorted_A {w : World} {Bm b : Nat} {ml : List (Int × Value)} (hBm : Bm < w.heap.size) (hm : w.cell? ⟨Bm, 0, none⟩ = some (.map (some b))) (h : MapS w Lt.encI b ml) (hn : ml.length ≤ 1000000) :
    Calls Try.prog 114 #[.func (.func 143) #[] #[.pointer (some ⟨Bm, 0, none⟩)]] w (SortedIs (ml.map (·.1)) w) := by
  have hs := keys_S (ρ := Try.keysA_ren) { Try.keysA with } Fence.wide 2 trivial rfl (by omega) Bm b ml w hBm hm h
  rw [show ml.length = (ml.map (·.1)).length by simp] at hs
  exact sorted_is h.keys (by rw [List.length_map]; exact hn) (enters_of Try.func143 (by kernel_rfl) rfl) hs
theorem sorted_B {w : World} {Bm b : Nat} {ml : List (Int × Value)} (hBm : Bm < w.heap.size) (hm : w.cell? ⟨Bm, 0, none⟩ = some (.map (some b))) (h : MapS w Lt.encI b ml) (hn : ml.length ≤ 1000000) :
    Calls Try.prog 114 #[.func (.func 148) #[] #[.pointer (some ⟨Bm, 0, none⟩)]] w (SortedIs (ml.map (·.1)) w) := by
  have hs := keys_S (ρ := Try.keysB_ren) { Try.keysB with } Fence.wide 2 trivial rfl (by omega) Bm b ml w hBm hm h
  rw [show ml.length = (ml.map (·.1)).length by simp] at hs
  exact sorted_is h.keys (by rw [List.length_map]; exact hn) (enters_of Try.func148 (by kernel_rfl) rfl) hs
end Go.Proofs.Ytcjoohaagdihlaa.Watch
end

section
/- The program's store of clauses in memory: watch.New. -/
namespace Go.Proofs.Ytcjoohaagdihlaa.Watch
open Go.RowKit Go.Lt Go.Proofs.Ytcjoohaagdihlaa.Lit Go.Proofs.Ytcjoohaagdihlaa.Sorted Go.Proofs.Ytcjoohaagdihlaa.Learn Go.Instr
set_option linter.unusedVariables false
set_option linter.unusedSimpArgs false

abbrev boxS (n next : Int) (mA mN mS mB : Nat) (fv : Value) : Array Value := #[.int .i64 n, .int .i64 next, .map (some mA), .map (some mN), .map (some mS), fv, .map (some mB)]
/-- a store in memory: its box, its maps, what was not looked at -/
structure StM (base : Nat) (W : World) (p mA mN mS mB : Nat) (n next : Int) (fv : Value) (al nl sl bl : List (Int × Value)) (fr : List Int) : Prop where
  box : Blk W p 131 (boxS n next mA mN mS mB fv)
  all : MapS W Lt.encI mA al
  norms : MapS W Lt.encI mN nl
  short : MapS W Lt.encI mS sl
  by_ : MapS W Lt.encI mB bl
  fresh : W.ownsRow base 3 1 fv fr.length (ivs fr)
  d1 : mA ≠ mN ∧ mA ≠ mS ∧ mA ≠ mB ∧ mN ≠ mS ∧ mN ≠ mB ∧ mS ≠ mB
  lo : base ≤ p ∧ base ≤ mA ∧ base ≤ mN ∧ base ≤ mS ∧ base ≤ mB
theorem StM.keep {base : Nat} {W W' : World} {p mA mN mS mB : Nat} {n next : Int} {fv : Value} {al nl sl bl : List (Int × Value)} {fr : List Int} (h : StM base W p mA mN mS mB n next fv al nl sl bl fr) (hb : Below W.heap.size W W') : StM base W' p mA mN mS mB n next fv al nl sl bl fr :=
  ⟨h.box.below hb h.box.lt, h.all.below hb h.all.lt, h.norms.below hb h.norms.lt, h.short.below hb h.short.lt, h.by_.below hb h.by_.lt, own_keep h.fresh hb, h.d1, h.lo⟩
abbrev newW (w : World) (n : Int) : World := ((((w.alloc (.map #[] 0)).alloc (.map #[] 0)).alloc (.map #[] 0)).alloc (.map #[] 0)).alloc (.cells (boxS n 0 w.heap.size (w.heap.size + 1) (w.heap.size + 1 + 1) (w.heap.size + 1 + 1 + 1) (.slice none 0 0)) 131)
set_option maxRecDepth 8000 in
set_option maxHeartbeats 1000000 in
theorem watch_New (n : Int) (hn : 0 ≤ n ∧ n ≤ 1048576) (w : World) : Calls Try.prog 55 #[.int .i64 n] w fun e w' => ∃ p mA mN mS mB, e = .returned (.pointer (some ⟨p, 0, none⟩)) ∧ StM w.heap.size w' p mA mN mS mB n 0 (.slice none 0 0) [] [] [] [] [] ∧ Below w.heap.size w w' := by
  have hmm := @run_makeMap Try.prog
  have e1 : decide (n < 0) = false := decide_eq_false (by omega)
  have e2 : True → decide (1048576 < n) = false := fun _ => decide_eq_false (by omega)
  replace hn := hide hn
  have hR := hide (show ∃ p mA mN mS mB, p = w.heap.size + 1 + 1 + 1 + 1 ∧ StM w.heap.size (newW w n) p mA mN mS mB n 0 (.slice none 0 0) [] [] [] [] [] ∧ Below w.heap.size w (newW w n) from by
    have hA : MapS (newW w n) Lt.encI w.heap.size ([] : List (Int × Value)) := ((((MapS.made w _).alloc _).alloc _).alloc _).alloc _
    have hN : MapS (newW w n) Lt.encI (w.heap.size + 1) ([] : List (Int × Value)) := by
      have := ((((MapS.made (w.alloc (.map #[] 0)) Lt.encI).alloc (.map #[] 0)).alloc (.map #[] 0)).alloc (.cells (boxS n 0 w.heap.size (w.heap.size + 1) (w.heap.size + 1 + 1) (w.heap.size + 1 + 1 + 1) (.slice none 0 0)) 131))
      rw [World.size_alloc] at this; exact this
    have hS : MapS (newW w n) Lt.encI (w.heap.size + 1 + 1) ([] : List (Int × Value)) := by
      have := (((MapS.made ((w.alloc (.map #[] 0)).alloc (.map #[] 0)) Lt.encI).alloc (.map #[] 0)).alloc (.cells (boxS n 0 w.heap.size (w.heap.size + 1) (w.heap.size + 1 + 1) (w.heap.size + 1 + 1 + 1) (.slice none 0 0)) 131))
      rw [World.size_alloc, World.size_alloc] at this; exact this
    have hB : MapS (newW w n) Lt.encI (w.heap.size + 1 + 1 + 1) ([] : List (Int × Value)) := by
      have := ((MapS.made (((w.alloc (.map #[] 0)).alloc (.map #[] 0)).alloc (.map #[] 0)) Lt.encI).alloc (.cells (boxS n 0 w.heap.size (w.heap.size + 1) (w.heap.size + 1 + 1) (w.heap.size + 1 + 1 + 1) (.slice none 0 0)) 131))
      rw [World.size_alloc, World.size_alloc, World.size_alloc] at this; exact this
    have hX : Blk (newW w n) (w.heap.size + 1 + 1 + 1 + 1) 131 (boxS n 0 w.heap.size (w.heap.size + 1) (w.heap.size + 1 + 1) (w.heap.size + 1 + 1 + 1) (.slice none 0 0)) := by
      have := Blk.new ((((w.alloc (.map #[] 0)).alloc (.map #[] 0)).alloc (.map #[] 0)).alloc (.map #[] 0)) 131 (boxS n 0 w.heap.size (w.heap.size + 1) (w.heap.size + 1 + 1) (w.heap.size + 1 + 1 + 1) (.slice none 0 0))
      rw [World.size_alloc, World.size_alloc, World.size_alloc, World.size_alloc] at this; exact this
    have hbel : Below w.heap.size w (newW w n) := (((((Below.refl w.heap.size w).alloc (Nat.le_refl _) _).alloc (by simp) _).alloc (by simp; omega) _).alloc (by simp; omega) _).alloc (by simp; omega) _
    exact ⟨_, w.heap.size, w.heap.size + 1, w.heap.size + 1 + 1, w.heap.size + 1 + 1 + 1, rfl, ⟨hX, hA, hN, hS, hB, World.ownsRow_nil _ _ _ _, ⟨by omega, by omega, by omega, by omega, by omega, by omega⟩, ⟨by omega, by omega, by omega, by omega, by omega⟩⟩, hbel⟩)
  go_enter Try.func55, Try.ntmps55
  go_wp2
  go_ret
  obtain ⟨p, mA, mN, mS, mB, rfl, hs, hb⟩ := hR.out
  exact ⟨_, mA, mN, mS, mB, rfl, hs, hb⟩
end Go.Proofs.Ytcjoohaagdihlaa.Watch
end

section
/- A map's entry, laid first and filled later. No program in sight. -/
namespace Go.Lt
open Go.RowKit Go.Instr Go.ChangeMaps
set_option linter.unusedVariables false
set_option linter.unusedSimpArgs false
set_option linter.unusedSectionVars false

section
variable {κ : Type} [DecidableEq κ] {enc : κ → Value} {w w' : World} {B r : Nat} {l : List (κ × Value)} {P : Program} {t K E : TypeId} {z : Value}
/-- the map of block B holds just this, and the entry of key x bears this stamp -/
def EntS (w : World) (enc : κ → Value) (B : Nat) (l : List (κ × Value)) (x : κ) (c : Nat) : Prop :=
  ∃ (es : Array MapEntry) (clk : Nat), w.heap[B]? = some (.map es clk) ∧ es.toList.map (fun e => (e.key, e.val)) = l.map (fun p => (enc p.1, p.2)) ∧ (es.toList.map (·.born)).Nodup ∧ (∀ x ∈ es.toList, x.born < clk) ∧ (l.map (·.1)).Nodup ∧
    ∃ (i : Nat) (e : MapEntry) (u : Value), es.toList[i]? = some e ∧ e.born = c ∧ l[i]? = some (x, u)
theorem EntS.mapS {x : κ} {c : Nat} (h : EntS w enc B l x c) : MapS w enc B l := by
  obtain ⟨es, clk, h1, h2, h3, h4, h5, _⟩ := h
  exact ⟨es, clk, h1, h2, h3, h4, h5⟩
theorem EntS.block {x : κ} {c : Nat} (h : EntS w enc B l x c) (hb : w'.heap[B]? = w.heap[B]?) : EntS w' enc B l x c := by
  obtain ⟨es, clk, h1, h2⟩ := h
  exact ⟨es, clk, hb.trans h1, h2⟩
theorem mput_new {x : κ} {v : Value} (h : mfind l x 0 = none) : mput l x v = l ++ [(x, v)] := mfind_none h v
theorem run_entryNew (L : KeyLaw P K enc) (ht : P.underlying t = some (.map K E)) (hz : ∀ w : World, (zeroValue E).run P w = .ok z w) (h : MapS w enc B l) (x : κ) (hx : mfind l x 0 = none) :
    ∃ w' c, (Instr.mapEntry t (.map (some B)) (enc x)).run P w = .ok (.tuple #[z, .int .i64 ((c : Nat) : Int)]) w' ∧ EntS w' enc B (mput l x z) x c ∧ w.grownBy w' (some B) ∧ w'.heap.size = w.heap.size := by
  obtain ⟨es, c, h1, h2, hn, hc0, hk0⟩ := h
  have hf := L.find x es.toList l w h2
  have hc := fun b => L.check b x w
  have hlen : es.toList.length = l.length := by have := congrArg List.length h2; simpa using this
  rw [hx] at hf
  refine ⟨setBlock w B (.map (es.push ⟨enc x, z, c⟩) (c + 1)), c, ?_, ⟨_, _, heap_setBlock_same h1 _, ?_, ?_, ?_, mput_nodup hk0 x z, l.length, ⟨enc x, z, c⟩, z, ?_, rfl, ?_⟩, ⟨rfl, rfl, rfl, by simp [setBlock], fun i _ hi => heap_setBlock_other h1 _ (fun e => hi (by rw [e]))⟩, by simp [setBlock]⟩
  · simp [Instr.mapEntry, run_underlying ht, MapKept.run_getObj_map h1, hc, hf, hz, MapKept.run_setObj_map _ h1, Result.andThen, setBlock, goInt]
  · rw [mput_new hx, Array.toList_push, List.map_append, List.map_append, h2]; rfl
  · rw [Array.toList_push, List.map_append, List.nodup_append]
    refine ⟨hn, by simp, ?_⟩
    intro a ha b hb
    obtain ⟨y, hy, rfl⟩ := List.mem_map.1 ha
    have hb : b = c := by simpa using hb
    have := hc0 y hy
    omega
  · intro y hy
    rw [Array.toList_push, List.mem_append] at hy
    rcases hy with hy | hy
    · have := hc0 y hy; omega
    · have hy : y = ⟨enc x, z, c⟩ := by simpa using hy
      rw [hy]; show c < c + 1; omega
  · rw [Array.toList_push, ← hlen, List.getElem?_append_right (Nat.le_refl _)]; simp
  · rw [mput_new hx, List.getElem?_append_right (Nat.le_refl _)]; simp
theorem find_born {es : List MapEntry} (hn : (es.map (·.born)).Nodup) {i : Nat} {e : MapEntry} (hi : es[i]? = some e) : es.findIdx? (fun a => (a.born : Int) == (e.born : Int)) = some i := by
  obtain ⟨hl, he⟩ := List.getElem?_eq_some_iff.1 hi
  rw [List.findIdx?_eq_some_iff_getElem]
  refine ⟨hl, by rw [he]; simp, fun j hj => ?_⟩
  intro h
  have h : (es[j].born : Int) = e.born := by simpa using h
  have h2 : es[j].born = es[i].born := by rw [he]; omega
  have h3 := List.pairwise_iff_getElem.1 hn j i (by simp; omega) (by simpa using hl) hj
  exact h3 (by simpa using h2)
theorem run_entryStore {x : κ} {c : Nat} (hinj : ∀ a b : κ, enc a = enc b → a = b) (h : EntS w enc B l x c) (v : Value) :
    ∃ w', (Instr.entryStore t (.map (some B)) (.int .i64 (c : Int)) v).run P w = .ok () w' ∧ MapS w' enc B (mput l x v) ∧ w.grownBy w' (some B) ∧ w'.heap.size = w.heap.size := by
  obtain ⟨es, clk, h1, h2, hn, hc0, hk0, i, e, u, hi, rfl, hli⟩ := h
  have hfi := find_born hn hi
  have hfa : es.findIdx? (fun a => (a.born : Int) == (e.born : Int)) = some i := by rw [show es.findIdx? (fun a => (a.born : Int) == (e.born : Int)) = es.toList.findIdx? (fun a => (a.born : Int) == (e.born : Int)) by cases es; simp]; exact hfi
  obtain ⟨hil, hie0⟩ := List.getElem?_eq_some_iff.1 hi
  have hie : i < es.size := by rwa [Array.length_toList] at hil
  have hput : mput l x v = l.set i (x, v) := by
    cases hm : mfind l x 0 with
    | none => exact absurd (List.mem_map.2 ⟨(x, u), List.mem_of_getElem? hli, rfl⟩) (mfind_no hm)
    | some q =>
      obtain ⟨k, u2⟩ := q
      obtain ⟨k2, hk1, hk2, hp⟩ := mfind_some hm v
      have hki : k2 = i := by
        obtain ⟨a1, a2⟩ := List.getElem?_eq_some_iff.1 hk2
        obtain ⟨b1, b2⟩ := List.getElem?_eq_some_iff.1 hli
        rcases Nat.lt_trichotomy k2 i with h3 | h3 | h3
        · exact (List.pairwise_iff_getElem.1 hk0 k2 i (by simpa using a1) (by simpa using b1) h3 (by simp [a2, b2])).elim
        · exact h3
        · exact (List.pairwise_iff_getElem.1 hk0 i k2 (by simpa using b1) (by simpa using a1) h3 (by simp [a2, b2])).elim
      rw [hp, hki]
  have hborn : (es.modify i fun e => { e with val := v }).toList.map (·.born) = es.toList.map (·.born) := by
    apply List.ext_getElem?
    intro j
    rw [List.getElem?_map, Array.getElem?_toList, Array.getElem?_modify, List.getElem?_map, Array.getElem?_toList]
    by_cases hj : i = j
    · subst hj; simp [hie]
    · simp [hj]
  refine ⟨setBlock w B (.map (es.modify i fun e => { e with val := v }) clk), ?_, ⟨_, _, heap_setBlock_same h1 _, ?_, by rw [hborn]; exact hn, ?_, mput_nodup hk0 x v⟩, ⟨rfl, rfl, rfl, by simp [setBlock], fun i _ hi => heap_setBlock_other h1 _ (fun e => hi (by rw [e]))⟩, by simp [setBlock]⟩
  · simp [Instr.entryStore, MapKept.run_getObj_map h1, MapKept.run_setObj_map _ h1, Result.andThen, setBlock, asInt, asIntOf, hfa]
  · rw [hput, List.map_set, ← h2]
    apply List.ext_getElem?
    intro j
    rw [List.getElem?_map, Array.getElem?_toList, Array.getElem?_modify, List.getElem?_set, List.getElem?_map, Array.getElem?_toList]
    by_cases hj : i = j
    · subst hj
      have hkey : (es[i]'hie).key = enc x := by
        have h3 : (es.toList.map (fun e => (e.key, e.val)))[i]? = (l.map (fun p => (enc p.1, p.2)))[i]? := by rw [h2]
        rw [List.getElem?_map, List.getElem?_map, hli, Array.getElem?_toList, Array.getElem?_eq_getElem hie] at h3
        exact congrArg Prod.fst (Option.some.inj h3)
      simp [hie, hkey]
    · simp [hj]
  · intro y hy
    have hy2 : y.born ∈ es.toList.map (·.born) := by rw [← hborn]; exact List.mem_map.2 ⟨y, hy, rfl⟩
    obtain ⟨y', hy', e⟩ := List.mem_map.1 hy2
    rw [← e]; exact hc0 y' hy'
variable {o : Oper} {a : Act} {N : Act → World → Prop} {Q : Exit → Act → World → Prop}
theorem oper_entryNew (L : KeyLaw P K enc) (ht : P.underlying t = some (.map K E)) (hz : ∀ w : World, (zeroValue E).run P w = .ok z w) (m k : Operand) (hop : o.op = Op.mapEntry t m k) (h : MapS w enc B l) (x : κ) (hx : mfind l x 0 = none) (hm : a.eval m = .map (some B)) (hk : a.eval k = enc x)
    (hK : ∀ w' c, EntS w' enc B (mput l x z) x c → w.grownBy w' (some B) → w'.heap.size = w.heap.size → N (a.put o.dst (.tuple #[z, .int .i64 ((c : Nat) : Int)])) w') : Oper.wp P o a w N Q := by
  obtain ⟨w', c, hrun, r1, r2, r3⟩ := run_entryNew L ht hz h x hx
  unfold Oper.wp
  simp [execOp, hop, hm, hk, hrun, Result.andThen]
  exact hK w' c r1 r2 r3
theorem oper_entryStore (hinj : ∀ a b : κ, enc a = enc b → a = b) (m s v : Operand) (hop : o.op = Op.entryStore t m s v) {x : κ} {c : Nat} (h : EntS w enc B l x c) (u : Value) (hm : a.eval m = .map (some B)) (hs : a.eval s = .int .i64 (c : Int)) (hv : a.eval v = u)
    (hK : ∀ w', MapS w' enc B (mput l x u) → w.grownBy w' (some B) → w'.heap.size = w.heap.size → N (a.put o.dst undef) w') : Oper.wp P o a w N Q := by
  obtain ⟨w', hrun, r1, r2, r3⟩ := run_entryStore (P := P) (t := t) hinj h u
  unfold Oper.wp
  simp [execOp, hop, hm, hs, hv, hrun, Result.andThen]
  exact hK w' r1 r2 r3
end
end Go.Lt
end

section
/- Whether literals are tied, and cubes in order: the plain laws, no program in sight. -/
namespace Go.Proofs.Ytcjoohaagdihlaa.Sorted
open Go.RowKit Go.Lt Go.Proofs.Ytcjoohaagdihlaa.Lit
set_option linter.unusedVariables false
set_option linter.unusedSimpArgs false

theorem rise_idem {s : List Int} (h : Rise s) : srt s = s := rise_one (srt_rise s) h (fun y => srt_mem)
theorem srt_srt (l : List Int) : srt (srt l) = srt l := rise_idem (srt_rise l)
/-- whether a literal and its inverse are among some -/
def tiedB (l : List Int) : Bool := l.any fun x => litGood x && hasB l (litNot x)
theorem any_congr {α : Type} {f g : α → Bool} {a b : List α} (h : ∀ x, x ∈ a ↔ x ∈ b) (hf : ∀ x, f x = g x) : a.any f = b.any g := by
  rw [Bool.eq_iff_iff, List.any_eq_true, List.any_eq_true]
  constructor
  · rintro ⟨x, h1, h2⟩; exact ⟨x, (h x).1 h1, by rw [← hf]; exact h2⟩
  · rintro ⟨x, h1, h2⟩; exact ⟨x, (h x).2 h1, by rw [hf]; exact h2⟩
theorem hasB_congr {a b : List Int} (h : ∀ x, x ∈ a ↔ x ∈ b) (x : Int) : hasB a x = hasB b x := by
  rw [Bool.eq_iff_iff, has_iff, has_iff]; exact h x
theorem tiedB_srt (l : List Int) : tiedB (srt l) = tiedB l :=
  any_congr (fun x => srt_mem) fun x => by rw [hasB_congr (fun y => srt_mem)]
/-- two that stand one behind the other, and are one variable's -/
def Adj (s : List Int) (i : Nat) : Prop := ∃ y x, s[i]? = some y ∧ s[i + 1]? = some x ∧ litNeg x = true ∧ y = x - 1
theorem neg_iff {x : Int} : litNeg x = true ↔ (0 ≤ x ∧ x ≤ 33554433) ∧ x % 2 = 1 := by
  unfold litNeg; rw [Bool.and_eq_true, good_iff, decide_eq_true_iff]
theorem adj_tied {s : List Int} {i : Nat} (h : Adj s i) : tiedB s = true := by
  obtain ⟨y, x, hy, hx, hn, rfl⟩ := h
  obtain ⟨hg, h2⟩ := neg_iff.1 hn
  unfold tiedB
  rw [List.any_eq_true]
  refine ⟨x, List.mem_of_getElem? hx, ?_⟩
  rw [Bool.and_eq_true, good_iff, has_iff]
  refine ⟨hg, ?_⟩
  unfold litNot
  rw [if_pos (good_iff.2 hg), if_pos h2]
  exact List.mem_of_getElem? hy
theorem rise_get {s : List Int} (h : Rise s) {i j : Nat} {x y : Int} (hij : i < j) (hx : s[i]? = some x) (hy : s[j]? = some y) : x < y := by
  obtain ⟨h1, e1⟩ := List.getElem?_eq_some_iff.1 hx
  obtain ⟨h2, e2⟩ := List.getElem?_eq_some_iff.1 hy
  rw [← e1, ← e2]
  exact List.pairwise_iff_getElem.1 h i j h1 h2 hij
/-- a number and the next one stand side by side in order -/
theorem rise_next {s : List Int} (h : Rise s) {x : Int} (h1 : x - 1 ∈ s) (h2 : x ∈ s) : ∃ i, s[i]? = some (x - 1) ∧ s[i + 1]? = some x := by
  obtain ⟨i, hi⟩ := List.getElem?_of_mem h1
  obtain ⟨j, hj⟩ := List.getElem?_of_mem h2
  have hlt : i < j := by
    rcases Nat.lt_trichotomy i j with h3 | h3 | h3
    · exact h3
    · subst h3; rw [hi] at hj; injection hj with hj; omega
    · have := rise_get h h3 hj hi; omega
  refine ⟨i, hi, ?_⟩
  rcases Nat.lt_or_ge (i + 1) j with h3 | h3
  · have hlj := (List.getElem?_eq_some_iff.1 hj).1
    have hz : s[i + 1]? = some (s[i + 1]'(by omega)) := List.getElem?_eq_getElem _
    have h4 := rise_get h (Nat.lt_succ_self i) hi hz
    have h5 := rise_get h h3 hz hj
    omega
  · have : j = i + 1 := by omega
    rw [← this]; exact hj
theorem tied_adj {s : List Int} (hs : Rise s) (h : tiedB s = true) : ∃ i, Adj s i := by
  unfold tiedB at h
  rw [List.any_eq_true] at h
  obtain ⟨x, hx, h⟩ := h
  rw [Bool.and_eq_true, good_iff, has_iff] at h
  obtain ⟨hg, hm⟩ := h
  unfold litNot at hm
  rw [if_pos (good_iff.2 hg)] at hm
  split at hm
  · rename_i h2
    obtain ⟨i, h3, h4⟩ := rise_next hs hm hx
    exact ⟨i, _, _, h3, h4, neg_iff.2 ⟨hg, h2⟩, rfl⟩
  · rename_i h2
    obtain ⟨i, h3, h4⟩ := rise_next hs (x := x + 1) (by rw [show x + 1 - 1 = x by omega]; exact hx) hm
    exact ⟨i, _, _, h3, h4, neg_iff.2 ⟨by omega, by omega⟩, rfl⟩
theorem tied_no {s : List Int} (hs : Rise s) (h : ∀ i, i + 1 < s.length → ¬ Adj s i) : tiedB s = false := by
  cases ht : tiedB s
  · rfl
  · obtain ⟨i, ha⟩ := tied_adj hs ht
    refine absurd ha (h i ?_)
    obtain ⟨_, x, _, hx, _⟩ := ha
    exact (List.getElem?_eq_some_iff.1 hx).1

/-- whether numbers are a cube -/
def inR (x : Int) : Bool := decide (0 ≤ x ∧ x ≤ 4001)
def normB (c : List Int) : Bool := (srt c).all inR && !tiedB (srt c)
theorem inR_iff {x : Int} : inR x = true ↔ 0 ≤ x ∧ x ≤ 4001 := by simp [inR]
/-- what the document asks at a place -/
def BadAt (s : List Int) (i : Nat) : Prop := ∃ x, s[i]? = some x ∧ (x < 0 ∨ 4001 < x ∨ ∃ j y, i = j + 1 ∧ s[j]? = some y ∧ x / 2 = y / 2)
theorem norm_bad {c : List Int} {i : Nat} (h : BadAt (srt c) i) (h0 : ∀ y ∈ (srt c).take i, inR y = true) : normB c = false := by
  obtain ⟨x, hx, h⟩ := h
  unfold normB
  rw [Bool.and_eq_false_iff]
  by_cases hr : inR x = true
  · right
    rcases h with h | h | ⟨j, y, rfl, hy, he⟩
    · have := inR_iff.1 hr; omega
    · have := inR_iff.1 hr; omega
    · have hlt := rise_get (srt_rise c) (Nat.lt_succ_self j) hy hx
      have := inR_iff.1 hr
      rw [adj_tied (i := j) ⟨y, x, hy, hx, neg_iff.2 ⟨by omega, by omega⟩, by omega⟩]
      rfl
  · left
    rw [List.all_eq_false]
    exact ⟨x, List.mem_of_getElem? hx, hr⟩
theorem norm_good {c : List Int} (h : ∀ i, i < (srt c).length → ¬ BadAt (srt c) i) : normB c = true := by
  unfold normB
  have h1 : ∀ x ∈ srt c, inR x = true := by
    intro x hx
    obtain ⟨i, hi⟩ := List.getElem?_of_mem hx
    rw [inR_iff]
    have := h i (List.getElem?_eq_some_iff.1 hi).1
    refine ⟨Int.not_lt.1 fun hc => this ⟨x, hi, .inl hc⟩, Int.not_lt.1 fun hc => this ⟨x, hi, .inr (.inl hc)⟩⟩
  rw [Bool.and_eq_true, List.all_eq_true]
  refine ⟨h1, ?_⟩
  rw [tied_no (srt_rise c)]
  · rfl
  · rintro i hi ⟨y, x, hy, hx, hn, rfl⟩
    have h2 := (neg_iff.1 hn).2
    exact h (i + 1) hi ⟨x, hx, .inr (.inr ⟨i, x - 1, rfl, hy, by omega⟩)⟩
/-- what the program asks: the first one, the last one, whether two are tied -/
theorem norm_ends {c : List Int} (x y : Int) (hx : (srt c)[0]? = some x) (hy : (srt c)[(srt c).length - 1]? = some y) :
    normB c = (decide (0 ≤ x) && decide (y ≤ 4001) && !tiedB (srt c)) := by
  unfold normB
  congr 1
  rw [Bool.eq_iff_iff, List.all_eq_true, Bool.and_eq_true, decide_eq_true_iff, decide_eq_true_iff]
  constructor
  · intro h
    exact ⟨(inR_iff.1 (h x (List.mem_of_getElem? hx))).1, (inR_iff.1 (h y (List.mem_of_getElem? hy))).2⟩
  · rintro ⟨h1, h2⟩ z hz
    obtain ⟨i, hi⟩ := List.getElem?_of_mem hz
    have hil := (List.getElem?_eq_some_iff.1 hi).1
    rw [inR_iff]
    constructor
    · rcases Nat.eq_zero_or_pos i with h3 | h3
      · subst h3; rw [hx] at hi; injection hi with hi; omega
      · have := rise_get (srt_rise c) h3 hx hi; omega
    · rcases Nat.lt_or_ge i ((srt c).length - 1) with h3 | h3
      · have := rise_get (srt_rise c) h3 hi hy; omega
      · have : i = (srt c).length - 1 := by omega
        subst this; rw [hy] at hi; injection hi with hi; omega
theorem norm_nil {c : List Int} (h : srt c = []) : normB c = true := by unfold normB; rw [h]; rfl
end Go.Proofs.Ytcjoohaagdihlaa.Sorted
end
