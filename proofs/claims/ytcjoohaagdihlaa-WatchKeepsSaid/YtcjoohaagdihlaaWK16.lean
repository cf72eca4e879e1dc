/- Texts behind a row, one behind the other: KeysShelf, Keys2, StoreM, MapEnt, Norm1, Tied2, Norm2. -/
import Derived.Shelf.SlGeneric
import Derived.Shelf.SlIterI.Nil
import Derived.Ground.GgzProg
import Derived.Test.YtcjoohaagdihlaaProg
import Derived.Test.YtcjoohaagdihlaaWK15
import Derived.Test.YtcjoohaagdihlaaWK8
import Derived.Test.YtcjoohaagdihlaaWK2
import Derived.Test.YtcjoohaagdihlaaWK1
import Derived.Test.YtcjoohaagdihlaaWK14
section
/-
  DERIVED: THE SHELF's CONTRACTS AT THIS DUMP, IN PLAIN WORDS (tools/lay-plain.mjs out of 'YtcjoohaagdihlaaKeysShelfL.lean', which tools/lay-shelf.mjs wrote): THE SAME DECLARATIONS UNDER THE SAME NAMES: 'import', 'namespace', 'open', 'def', 'theorem' AND NOTHING ELSE: no command of the shelf's: FOR A HAND-IN. Each laying: the table of numbers ('.._ren') and one theorem, a field a fact of the dump's own or the kernel's comparison; each contract: ONE APPLICATION.
-/
namespace Go.Proofs
open Go.Shelf
def Try.keysA_ren : Go.Shelf.Ren := ⟨fun | 7 => 115 | 10 => 143 | n => n, fun | 23 => 108 | 26 => 3 | 3 => 4 | 28 => 142 | 0 => 0 | 27 => 141 | 33 => 52 | 4 => 4 | n => n, fun | n => n⟩
theorem Try.keysA : Go.Proofs.SlLaysZI.n7 Try.prog Try.keysA_ren := {
  mixed := by kernel_rfl
  f7 := ⟨Try.f115.name, by decide, Try.func115.trans (congrArg some (by kernel_rfl))⟩
  f10 := ⟨Try.f143.name, by decide, Try.func143.trans (congrArg some (by kernel_rfl))⟩
  t0 := Try.underlying0
  a0 := Try.isAgg0
  z0 := Try.sizeOf0
  v0 := Try.zeroValue0
  t4 := Try.underlying4
  a4 := Try.isAgg4
  z4 := Try.sizeOf4
  v4 := Try.zeroValue4
  t23 := Try.underlying108
  a23 := Try.isAgg108
  z23 := Try.sizeOf108
  v23 := Try.zeroValue108
  t26 := Try.underlying3
  a26 := Try.isAgg3
  z26 := Try.sizeOf3
  v26 := Try.zeroValue3
  t27 := Try.underlying141
  a27 := Try.isAgg141
  z27 := Try.sizeOf141
  v27 := Try.zeroValue141
  t28 := Try.underlying142
  a28 := Try.isAgg142
  z28 := Try.sizeOf142
  v28 := Try.zeroValue142
  t33 := Try.underlying52
  a33 := Try.isAgg52
  z33 := Try.sizeOf52
  v33 := Try.zeroValue52 }
def Try.keysB_ren : Go.Shelf.Ren := ⟨fun | 7 => 121 | 10 => 148 | n => n, fun | 23 => 128 | 26 => 3 | 3 => 137 | 28 => 142 | 0 => 0 | 27 => 141 | 33 => 52 | 4 => 4 | n => n, fun | n => n⟩
theorem Try.keysB : Go.Proofs.SlLaysZI.n7 Try.prog Try.keysB_ren := {
  mixed := by kernel_rfl
  f7 := ⟨Try.f121.name, by decide, Try.func121.trans (congrArg some (by kernel_rfl))⟩
  f10 := ⟨Try.f148.name, by decide, Try.func148.trans (congrArg some (by kernel_rfl))⟩
  t0 := Try.underlying0
  a0 := Try.isAgg0
  z0 := Try.sizeOf0
  v0 := Try.zeroValue0
  t4 := Try.underlying4
  a4 := Try.isAgg4
  z4 := Try.sizeOf4
  v4 := Try.zeroValue4
  t23 := Try.underlying128
  a23 := Try.isAgg128
  z23 := Try.sizeOf128
  v23 := Try.zeroValue128
  t26 := Try.underlying3
  a26 := Try.isAgg3
  z26 := Try.sizeOf3
  v26 := Try.zeroValue3
  t27 := Try.underlying141
  a27 := Try.isAgg141
  z27 := Try.sizeOf141
  v27 := Try.zeroValue141
  t28 := Try.underlying142
  a28 := Try.isAgg142
  z28 := Try.sizeOf142
  v28 := Try.zeroValue142
  t33 := Try.underlying52
  a33 := Try.isAgg52
  z33 := Try.sizeOf52
  v33 := Try.zeroValue52 }
def Try.sortedA_ren : Go.Shelf.Ren := ⟨fun | 6 => 114 | 8 => 142 | 9 => 127 | 11 => 156 | 13 => 151 | 12 => 150 | 23 => 167 | 24 => 168 | 14 => 158 | 15 => 159 | 16 => 160 | 17 => 161 | 18 => 162 | 19 => 163 | 20 => 164 | 21 => 165 | 22 => 166 | 25 => 171 | 26 => 172 | 27 => 173 | 28 => 174 | 29 => 175 | 30 => 176 | 31 => 178 | n => n, fun | 26 => 3 | 28 => 142 | 24 => 40 | 0 => 0 | 3 => 3 | 37 => 151 | 48 => 176 | 50 => 22 | 4 => 4 | 40 => 168 | 39 => 167 | 45 => 173 | 5 => 5 | 9 => 9 | 51 => 180 | 55 => 184 | 57 => 186 | 58 => 187 | 33 => 52 | n => n, fun | n => n⟩
theorem Try.sortedA : Go.Proofs.SlLaysZI.n6 Try.prog Try.sortedA_ren := {
  mixed := by kernel_rfl
  f6 := ⟨Try.f114.name, by decide, Try.func114.trans (congrArg some (by kernel_rfl))⟩
  f8 := ⟨Try.f142.name, by decide, Try.func142.trans (congrArg some (by kernel_rfl))⟩
  f11 := ⟨Try.f156.name, by decide, Try.func156.trans (congrArg some (by kernel_rfl))⟩
  t0 := Try.underlying0
  a0 := Try.isAgg0
  z0 := Try.sizeOf0
  v0 := Try.zeroValue0
  t24 := Try.underlying40
  a24 := Try.isAgg40
  z24 := Try.sizeOf40
  v24 := Try.zeroValue40
  t26 := Try.underlying3
  a26 := Try.isAgg3
  z26 := Try.sizeOf3
  v26 := Try.zeroValue3
  t28 := Try.underlying142
  a28 := Try.isAgg142
  z28 := Try.sizeOf142
  v28 := Try.zeroValue142
  i26 := by kernel_rfl }
end Go.Proofs
end

section
/- The keys of a map in order: the program's slices.Sorted(maps.Keys(..)). -/
namespace Go.Proofs.Ytcjoohaagdihlaa.Watch
open Go.RowKit Go.Lt Go.Proofs.Ytcjoohaagdihlaa.Lit Go.Proofs.Ytcjoohaagdihlaa.Sorted Go.Proofs Go.Maps Go.Sort Go.Shelf
set_option linter.unusedVariables false
set_option linter.unusedSimpArgs false

theorem sort_srt {ss ks : List Int} (h : ss.Perm ks) (hn : ks.Nodup) : (ss.mergeSort fun x y => decide (x ≤ y)) = srt ks := by
  have hp : (ss.mergeSort fun x y => decide (x ≤ y)).Perm ks := (List.mergeSort_perm ss _).trans h
  have hs : (ss.mergeSort fun x y => decide (x ≤ y)).Pairwise (· ≤ ·) := (List.pairwise_mergeSort (le := fun x y : Int => decide (x ≤ y)) (fun a b c h1 h2 => by simp at *; omega) (fun a b => by simp; omega) ss).imp (fun h => by simpa using h)
  refine rise_one ?_ (srt_rise ks) (fun y => by rw [hp.mem_iff, srt_mem])
  exact (hs.and (hp.symm.nodup hn)).imp (fun h => by have h1 := h.1; have h2 := h.2; omega)
theorem sorts_A (m : Nat) : AnyZI.SortsIn Try.prog Try.sortedA_ren Fence.wide m :=
  ⟨fun blk off cap ss W hH hblk hsz => callsIn_wide.2 (Try.slices_Sort_int blk off cap ss W hH hblk hsz),
   fun p cap W => callsIn_wide.2 (Try.slices_Sort_int_none p cap W)⟩
theorem keys_A (mb : Option Nat) (w : World) : Calls Try.prog 115 #[.map mb] w fun e w' => e = .returned (.func (.func 143) #[] #[.pointer (some ⟨w.heap.size, 0, none⟩)]) ∧ w' = w.alloc (.cells #[.map mb] 108) :=
  (callsIn_wide (n := 5)).1 (AnyZI.keys_in Try.keysA Fence.wide 5 trivial rfl mb w)
theorem keys_B (mb : Option Nat) (w : World) : Calls Try.prog 121 #[.map mb] w fun e w' => e = .returned (.func (.func 148) #[] #[.pointer (some ⟨w.heap.size, 0, none⟩)]) ∧ w' = w.alloc (.cells #[.map mb] 128) :=
  (callsIn_wide (n := 5)).1 (AnyZI.keys_in Try.keysB Fence.wide 5 trivial rfl mb w)
def SortedIs (ks : List Int) (w : World) (e : Ending) (w' : World) : Prop := ∃ v, e = .returned v ∧ w'.ownsRow w.heap.size 3 1 v ks.length (ivs (srt ks)) ∧ Below w.heap.size w w'
set_option maxRecDepth 100000 in
theorem sorted_is {ks : List Int} {w : World} {g : Nat} {lb : Array Value} (hk : ks.Nodup) (hn : ks.length ≤ 1000000) (hg : ∀ args w, (callFunc g args).run Try.prog w = .ok (.enter g args) w) (hseq : SeqGives Fence.wide 2 Try.prog g lb encZ (fun ss => ss.Perm ks) ks.length w) :
    Calls Try.prog 114 #[.func (.func g) #[] lb] w (SortedIs ks w) := by
  have cS := AnyZI.sorted_in Try.sortedA Fence.wide 5 trivial trivial trivial trivial rfl (by omega) (sorts_A _) (enters_of Try.func127 (by kernel_rfl) rfl) g lb trivial hg _ ks.length (by unfold maxLen; omega) (by omega) _ hseq
  refine ((callsIn_wide (n := 5)).1 cS).mono ?_
  rintro e w' ⟨v, ss, rfl, hS, hrow, hnil, hb⟩
  refine ⟨v, rfl, ?_, hb⟩
  rw [sort_srt hS hk, hS.length_eq] at hrow
  exact hrow
theorem sorted_A {w : World} {Bm b : Nat} {ml : List (Int × Value)} (hBm : Bm < w.heap.size) (hm : w.cell? ⟨Bm, 0, none⟩ = some (.map (some b))) (h : MapS w Lt.encI b ml) (hn : ml.length ≤ 1000000) :
    Calls Try.prog 114 #[.func (.func 143) #[] #[.pointer (some ⟨Bm, 0, none⟩)]] w (SortedIs (ml.map (·.1)) w) := by
  have hs := keys_S (ρ := Try.keysA_ren) { Try.keysA with } Fence.wide 2 trivial rfl (by omega) Bm b ml w hBm hm h
  rw [show ml.length = (ml.map (·.1)).length by simp] at hs
  exact sorted_is h.keys (by rw [List.length_map]; exact hn) (enters_of Try.func143 (by kernel_rfl) rfl) hs
theorem sorted_B {w : World} {Bm b : Nat} {ml : List (Int × Value)} (hBm : Bm < w.heap.size) (hm : w.cell? ⟨Bm, 0, none⟩ = some (.map (some b))) (h : MapS w Lt.encI b ml) (hn : ml.length ≤ 1000000) :
    Calls Try.prog 114 #[.func (.func 148) #[] #[.pointer (some ⟨Bm, 0, none⟩)]] w (SortedIs (ml.map (·.1)) w) := by
  have hs := keys_S (ρ := Try.keysB_ren) { Try.keysB with } Fence.wide 2 trivial rfl (by omega) Bm b ml w hBm hm h
  rw [show ml.length = (ml.map (·.1)).length by simp] at hs
  exact sorted_is h.keys (by rw [List.length_map]; exact hn) (enters_of Try.func148 (by kernel_rfl) rfl) hs
end Go.Proofs.Ytcjoohaagdihlaa.Watch
end

section
/- The program's store of clauses in memory: watch.New. -/
namespace Go.Proofs.Ytcjoohaagdihlaa.Watch
open Go.RowKit Go.Lt Go.Proofs.Ytcjoohaagdihlaa.Lit Go.Proofs.Ytcjoohaagdihlaa.Sorted Go.Proofs.Ytcjoohaagdihlaa.Learn Go.Instr
set_option linter.unusedVariables false
set_option linter.unusedSimpArgs false

abbrev boxS (n next : Int) (mA mN mS mB : Nat) (fv : Value) : Array Value := #[.int .i64 n, .int .i64 next, .map (some mA), .map (some mN), .map (some mS), fv, .map (some mB)]
/-- a store in memory: its box, its maps, what was not looked at -/
structure StM (base : Nat) (W : World) (p mA mN mS mB : Nat) (n next : Int) (fv : Value) (al nl sl bl : List (Int × Value)) (fr : List Int) : Prop where
  box : Blk W p 131 (boxS n next mA mN mS mB fv)
  all : MapS W Lt.encI mA al
  norms : MapS W Lt.encI mN nl
  short : MapS W Lt.encI mS sl
  by_ : MapS W Lt.encI mB bl
  fresh : W.ownsRow base 3 1 fv fr.length (ivs fr)
  d1 : mA ≠ mN ∧ mA ≠ mS ∧ mA ≠ mB ∧ mN ≠ mS ∧ mN ≠ mB ∧ mS ≠ mB
  lo : base ≤ p ∧ base ≤ mA ∧ base ≤ mN ∧ base ≤ mS ∧ base ≤ mB
theorem StM.keep {base : Nat} {W W' : World} {p mA mN mS mB : Nat} {n next : Int} {fv : Value} {al nl sl bl : List (Int × Value)} {fr : List Int} (h : StM base W p mA mN mS mB n next fv al nl sl bl fr) (hb : Below W.heap.size W W') : StM base W' p mA mN mS mB n next fv al nl sl bl fr :=
  ⟨h.box.below hb h.box.lt, h.all.below hb h.all.lt, h.norms.below hb h.norms.lt, h.short.below hb h.short.lt, h.by_.below hb h.by_.lt, own_keep h.fresh hb, h.d1, h.lo⟩
abbrev newW (w : World) (n : Int) : World := ((((w.alloc (.map #[] 0)).alloc (.map #[] 0)).alloc (.map #[] 0)).alloc (.map #[] 0)).alloc (.cells (boxS n 0 w.heap.size (w.heap.size + 1) (w.heap.size + 1 + 1) (w.heap.size + 1 + 1 + 1) (.slice none 0 0)) 131)
set_option maxRecDepth 8000 in
set_option maxHeartbeats 1000000 in
theorem watch_New (n : Int) (hn : 0 ≤ n ∧ n ≤ 1048576) (w : World) : Calls Try.prog 55 #[.int .i64 n] w fun e w' => ∃ p mA mN mS mB, e = .returned (.pointer (some ⟨p, 0, none⟩)) ∧ StM w.heap.size w' p mA mN mS mB n 0 (.slice none 0 0) [] [] [] [] [] ∧ Below w.heap.size w w' := by
  have hmm := @run_makeMap Try.prog
  have e1 : decide (n < 0) = false := decide_eq_false (by omega)
  have e2 : True → decide (1048576 < n) = false := fun _ => decide_eq_false (by omega)
  replace hn := hide hn
  have hR := hide (show ∃ p mA mN mS mB, p = w.heap.size + 1 + 1 + 1 + 1 ∧ StM w.heap.size (newW w n) p mA mN mS mB n 0 (.slice none 0 0) [] [] [] [] [] ∧ Below w.heap.size w (newW w n) from by
    have hA : MapS (newW w n) Lt.encI w.heap.size ([] : List (Int × Value)) := ((((MapS.made w _).alloc _).alloc _).alloc _).alloc _
    have hN : MapS (newW w n) Lt.encI (w.heap.size + 1) ([] : List (Int × Value)) := by
      have := ((((MapS.made (w.alloc (.map #[] 0)) Lt.encI).alloc (.map #[] 0)).alloc (.map #[] 0)).alloc (.cells (boxS n 0 w.heap.size (w.heap.size + 1) (w.heap.size + 1 + 1) (w.heap.size + 1 + 1 + 1) (.slice none 0 0)) 131))
      rw [World.size_alloc] at this; exact this
    have hS : MapS (newW w n) Lt.encI (w.heap.size + 1 + 1) ([] : List (Int × Value)) := by
      have := (((MapS.made ((w.alloc (.map #[] 0)).alloc (.map #[] 0)) Lt.encI).alloc (.map #[] 0)).alloc (.cells (boxS n 0 w.heap.size (w.heap.size + 1) (w.heap.size + 1 + 1) (w.heap.size + 1 + 1 + 1) (.slice none 0 0)) 131))
      rw [World.size_alloc, World.size_alloc] at this; exact this
    have hB : MapS (newW w n) Lt.encI (w.heap.size + 1 + 1 + 1) ([] : List (Int × Value)) := by
      have := ((MapS.made (((w.alloc (.map #[] 0)).alloc (.map #[] 0)).alloc (.map #[] 0)) Lt.encI).alloc (.cells (boxS n 0 w.heap.size (w.heap.size + 1) (w.heap.size + 1 + 1) (w.heap.size + 1 + 1 + 1) (.slice none 0 0)) 131))
      rw [World.size_alloc, World.size_alloc, World.size_alloc] at this; exact this
    have hX : Blk (newW w n) (w.heap.size + 1 + 1 + 1 + 1) 131 (boxS n 0 w.heap.size (w.heap.size + 1) (w.heap.size + 1 + 1) (w.heap.size + 1 + 1 + 1) (.slice none 0 0)) := by
      have := Blk.new ((((w.alloc (.map #[] 0)).alloc (.map #[] 0)).alloc (.map #[] 0)).alloc (.map #[] 0)) 131 (boxS n 0 w.heap.size (w.heap.size + 1) (w.heap.size + 1 + 1) (w.heap.size + 1 + 1 + 1) (.slice none 0 0))
      rw [World.size_alloc, World.size_alloc, World.size_alloc, World.size_alloc] at this; exact this
    have hbel : Below w.heap.size w (newW w n) := (((((Below.refl w.heap.size w).alloc (Nat.le_refl _) _).alloc (by simp) _).alloc (by simp; omega) _).alloc (by simp; omega) _).alloc (by simp; omega) _
    exact ⟨_, w.heap.size, w.heap.size + 1, w.heap.size + 1 + 1, w.heap.size + 1 + 1 + 1, rfl, ⟨hX, hA, hN, hS, hB, World.ownsRow_nil _ _ _ _, ⟨by omega, by omega, by omega, by omega, by omega, by omega⟩, ⟨by omega, by omega, by omega, by omega, by omega⟩⟩, hbel⟩)
  go_enter Try.func55, Try.ntmps55
  go_wp2
  go_ret
  obtain ⟨p, mA, mN, mS, mB, rfl, hs, hb⟩ := hR.out
  exact ⟨_, mA, mN, mS, mB, rfl, hs, hb⟩
end Go.Proofs.Ytcjoohaagdihlaa.Watch
end

section
/- A map's entry, laid first and filled later. No program in sight. -/
namespace Go.Lt
open Go.RowKit Go.Instr Go.ChangeMaps
set_option linter.unusedVariables false
set_option linter.unusedSimpArgs false
set_option linter.unusedSectionVars false

section
variable {κ : Type} [DecidableEq κ] {enc : κ → Value} {w w' : World} {B r : Nat} {l : List (κ × Value)} {P : Program} {t K E : TypeId} {z : Value}
/-- the map of block B holds just this, and the entry of key x bears this stamp -/
def EntS (w : World) (enc : κ → Value) (B : Nat) (l : List (κ × Value)) (x : κ) (c : Nat) : Prop :=
  ∃ (es : Array MapEntry) (clk : Nat), w.heap[B]? = some (.map es clk) ∧ es.toList.map (fun e => (e.key, e.val)) = l.map (fun p => (enc p.1, p.2)) ∧ (es.toList.map (·.born)).Nodup ∧ (∀ x ∈ es.toList, x.born < clk) ∧ (l.map (·.1)).Nodup ∧
    ∃ (i : Nat) (e : MapEntry) (u : Value), es.toList[i]? = some e ∧ e.born = c ∧ l[i]? = some (x, u)
theorem EntS.mapS {x : κ} {c : Nat} (h : EntS w enc B l x c) : MapS w enc B l := by
  obtain ⟨es, clk, h1, h2, h3, h4, h5, _⟩ := h
  exact ⟨es, clk, h1, h2, h3, h4, h5⟩
theorem EntS.block {x : κ} {c : Nat} (h : EntS w enc B l x c) (hb : w'.heap[B]? = w.heap[B]?) : EntS w' enc B l x c := by
  obtain ⟨es, clk, h1, h2⟩ := h
  exact ⟨es, clk, hb.trans h1, h2⟩
theorem mput_new {x : κ} {v : Value} (h : mfind l x 0 = none) : mput l x v = l ++ [(x, v)] := mfind_none h v
theorem run_entryNew (L : KeyLaw P K enc) (ht : P.underlying t = some (.map K E)) (hz : ∀ w : World, (zeroValue E).run P w = .ok z w) (h : MapS w enc B l) (x : κ) (hx : mfind l x 0 = none) :
    ∃ w' c, (Instr.mapEntry t (.map (some B)) (enc x)).run P w = .ok (.tuple #[z, .int .i64 ((c : Nat) : Int)]) w' ∧ EntS w' enc B (mput l x z) x c ∧ w.grownBy w' (some B) ∧ w'.heap.size = w.heap.size := by
  obtain ⟨es, c, h1, h2, hn, hc0, hk0⟩ := h
  have hf := L.find x es.toList l w h2
  have hc := fun b => L.check b x w
  have hlen : es.toList.length = l.length := by have := congrArg List.length h2; simpa using this
  rw [hx] at hf
  refine ⟨setBlock w B (.map (es.push ⟨enc x, z, c⟩) (c + 1)), c, ?_, ⟨_, _, heap_setBlock_same h1 _, ?_, ?_, ?_, mput_nodup hk0 x z, l.length, ⟨enc x, z, c⟩, z, ?_, rfl, ?_⟩, ⟨rfl, rfl, rfl, by simp [setBlock], fun i _ hi => heap_setBlock_other h1 _ (fun e => hi (by rw [e]))⟩, by simp [setBlock]⟩
  · simp [Instr.mapEntry, run_underlying ht, MapKept.run_getObj_map h1, hc, hf, hz, MapKept.run_setObj_map _ h1, Result.andThen, setBlock, goInt]
  · rw [mput_new hx, Array.toList_push, List.map_append, List.map_append, h2]; rfl
  · rw [Array.toList_push, List.map_append, List.nodup_append]
    refine ⟨hn, by simp, ?_⟩
    intro a ha b hb
    obtain ⟨y, hy, rfl⟩ := List.mem_map.1 ha
    have hb : b = c := by simpa using hb
    have := hc0 y hy
    omega
  · intro y hy
    rw [Array.toList_push, List.mem_append] at hy
    rcases hy with hy | hy
    · have := hc0 y hy; omega
    · have hy : y = ⟨enc x, z, c⟩ := by simpa using hy
      rw [hy]; show c < c + 1; omega
  · rw [Array.toList_push, ← hlen, List.getElem?_append_right (Nat.le_refl _)]; simp
  · rw [mput_new hx, List.getElem?_append_right (Nat.le_refl _)]; simp
theorem find_born {es : List MapEntry} (hn : (es.map (·.born)).Nodup) {i : Nat} {e : MapEntry} (hi : es[i]? = some e) : es.findIdx? (fun a => (a.born : Int) == (e.born : Int)) = some i := by
  obtain ⟨hl, he⟩ := List.getElem?_eq_some_iff.1 hi
  rw [List.findIdx?_eq_some_iff_getElem]
  refine ⟨hl, by rw [he]; simp, fun j hj => ?_⟩
  intro h
  have h : (es[j].born : Int) = e.born := by simpa using h
  have h2 : es[j].born = es[i].born := by rw [he]; omega
  have h3 := List.pairwise_iff_getElem.1 hn j i (by simp; omega) (by simpa using hl) hj
  exact h3 (by simpa using h2)
theorem run_entryStore {x : κ} {c : Nat} (hinj : ∀ a b : κ, enc a = enc b → a = b) (h : EntS w enc B l x c) (v : Value) :
    ∃ w', (Instr.entryStore t (.map (some B)) (.int .i64 (c : Int)) v).run P w = .ok () w' ∧ MapS w' enc B (mput l x v) ∧ w.grownBy w' (some B) ∧ w'.heap.size = w.heap.size := by
  obtain ⟨es, clk, h1, h2, hn, hc0, hk0, i, e, u, hi, rfl, hli⟩ := h
  have hfi := find_born hn hi
  have hfa : es.findIdx? (fun a => (a.born : Int) == (e.born : Int)) = some i := by rw [show es.findIdx? (fun a => (a.born : Int) == (e.born : Int)) = es.toList.findIdx? (fun a => (a.born : Int) == (e.born : Int)) by cases es; simp]; exact hfi
  obtain ⟨hil, hie0⟩ := List.getElem?_eq_some_iff.1 hi
  have hie : i < es.size := by rwa [Array.length_toList] at hil
  have hput : mput l x v = l.set i (x, v) := by
    cases hm : mfind l x 0 with
    | none => exact absurd (List.mem_map.2 ⟨(x, u), List.mem_of_getElem? hli, rfl⟩) (mfind_no hm)
    | some q =>
      obtain ⟨k, u2⟩ := q
      obtain ⟨k2, hk1, hk2, hp⟩ := mfind_some hm v
      have hki : k2 = i := by
        obtain ⟨a1, a2⟩ := List.getElem?_eq_some_iff.1 hk2
        obtain ⟨b1, b2⟩ := List.getElem?_eq_some_iff.1 hli
        rcases Nat.lt_trichotomy k2 i with h3 | h3 | h3
        · exact (List.pairwise_iff_getElem.1 hk0 k2 i (by simpa using a1) (by simpa using b1) h3 (by simp [a2, b2])).elim
        · exact h3
        · exact (List.pairwise_iff_getElem.1 hk0 i k2 (by simpa using b1) (by simpa using a1) h3 (by simp [a2, b2])).elim
      rw [hp, hki]
  have hborn : (es.modify i fun e => { e with val := v }).toList.map (·.born) = es.toList.map (·.born) := by
    apply List.ext_getElem?
    intro j
    rw [List.getElem?_map, Array.getElem?_toList, Array.getElem?_modify, List.getElem?_map, Array.getElem?_toList]
    by_cases hj : i = j
    · subst hj; simp [hie]
    · simp [hj]
  refine ⟨setBlock w B (.map (es.modify i fun e => { e with val := v }) clk), ?_, ⟨_, _, heap_setBlock_same h1 _, ?_, by rw [hborn]; exact hn, ?_, mput_nodup hk0 x v⟩, ⟨rfl, rfl, rfl, by simp [setBlock], fun i _ hi => heap_setBlock_other h1 _ (fun e => hi (by rw [e]))⟩, by simp [setBlock]⟩
  · simp [Instr.entryStore, MapKept.run_getObj_map h1, MapKept.run_setObj_map _ h1, Result.andThen, setBlock, asInt, asIntOf, hfa]
  · rw [hput, List.map_set, ← h2]
    apply List.ext_getElem?
    intro j
    rw [List.getElem?_map, Array.getElem?_toList, Array.getElem?_modify, List.getElem?_set, List.getElem?_map, Array.getElem?_toList]
    by_cases hj : i = j
    · subst hj
      have hkey : (es[i]'hie).key = enc x := by
        have h3 : (es.toList.map (fun e => (e.key, e.val)))[i]? = (l.map (fun p => (enc p.1, p.2)))[i]? := by rw [h2]
        rw [List.getElem?_map, List.getElem?_map, hli, Array.getElem?_toList, Array.getElem?_eq_getElem hie] at h3
        exact congrArg Prod.fst (Option.some.inj h3)
      simp [hie, hkey]
    · simp [hj]
  · intro y hy
    have hy2 : y.born ∈ es.toList.map (·.born) := by rw [← hborn]; exact List.mem_map.2 ⟨y, hy, rfl⟩
    obtain ⟨y', hy', e⟩ := List.mem_map.1 hy2
    rw [← e]; exact hc0 y' hy'
variable {o : Oper} {a : Act} {N : Act → World → Prop} {Q : Exit → Act → World → Prop}
theorem oper_entryNew (L : KeyLaw P K enc) (ht : P.underlying t = some (.map K E)) (hz : ∀ w : World, (zeroValue E).run P w = .ok z w) (m k : Operand) (hop : o.op = Op.mapEntry t m k) (h : MapS w enc B l) (x : κ) (hx : mfind l x 0 = none) (hm : a.eval m = .map (some B)) (hk : a.eval k = enc x)
    (hK : ∀ w' c, EntS w' enc B (mput l x z) x c → w.grownBy w' (some B) → w'.heap.size = w.heap.size → N (a.put o.dst (.tuple #[z, .int .i64 ((c : Nat) : Int)])) w') : Oper.wp P o a w N Q := by
  obtain ⟨w', c, hrun, r1, r2, r3⟩ := run_entryNew L ht hz h x hx
  unfold Oper.wp
  simp [execOp, hop, hm, hk, hrun, Result.andThen]
  exact hK w' c r1 r2 r3
theorem oper_entryStore (hinj : ∀ a b : κ, enc a = enc b → a = b) (m s v : Operand) (hop : o.op = Op.entryStore t m s v) {x : κ} {c : Nat} (h : EntS w enc B l x c) (u : Value) (hm : a.eval m = .map (some B)) (hs : a.eval s = .int .i64 (c : Int)) (hv : a.eval v = u)
    (hK : ∀ w', MapS w' enc B (mput l x u) → w.grownBy w' (some B) → w'.heap.size = w.heap.size → N (a.put o.dst undef) w') : Oper.wp P o a w N Q := by
  obtain ⟨w', hrun, r1, r2, r3⟩ := run_entryStore (P := P) (t := t) hinj h u
  unfold Oper.wp
  simp [execOp, hop, hm, hs, hv, hrun, Result.andThen]
  exact hK w' r1 r2 r3
end
end Go.Lt
end

section
/- Whether literals are tied, and cubes in order: the plain laws, no program in sight. -/
namespace Go.Proofs.Ytcjoohaagdihlaa.Sorted
open Go.RowKit Go.Lt Go.Proofs.Ytcjoohaagdihlaa.Lit
set_option linter.unusedVariables false
set_option linter.unusedSimpArgs false

theorem rise_idem {s : List Int} (h : Rise s) : srt s = s := rise_one (srt_rise s) h (fun y => srt_mem)
theorem srt_srt (l : List Int) : srt (srt l) = srt l := rise_idem (srt_rise l)
/-- whether a literal and its inverse are among some -/
def tiedB (l : List Int) : Bool := l.any fun x => litGood x && hasB l (litNot x)
theorem any_congr {α : Type} {f g : α → Bool} {a b : List α} (h : ∀ x, x ∈ a ↔ x ∈ b) (hf : ∀ x, f x = g x) : a.any f = b.any g := by
  rw [Bool.eq_iff_iff, List.any_eq_true, List.any_eq_true]
  constructor
  · rintro ⟨x, h1, h2⟩; exact ⟨x, (h x).1 h1, by rw [← hf]; exact h2⟩
  · rintro ⟨x, h1, h2⟩; exact ⟨x, (h x).2 h1, by rw [hf]; exact h2⟩
theorem hasB_congr {a b : List Int} (h : ∀ x, x ∈ a ↔ x ∈ b) (x : Int) : hasB a x = hasB b x := by
  rw [Bool.eq_iff_iff, has_iff, has_iff]; exact h x
theorem tiedB_srt (l : List Int) : tiedB (srt l) = tiedB l :=
  any_congr (fun x => srt_mem) fun x => by rw [hasB_congr (fun y => srt_mem)]
/-- two that stand one behind the other, and are one variable's -/
def Adj (s : List Int) (i : Nat) : Prop := ∃ y x, s[i]? = some y ∧ s[i + 1]? = some x ∧ litNeg x = true ∧ y = x - 1
theorem neg_iff {x : Int} : litNeg x = true ↔ (0 ≤ x ∧ x ≤ 33554433) ∧ x % 2 = 1 := by
  unfold litNeg; rw [Bool.and_eq_true, good_iff, decide_eq_true_iff]
theorem adj_tied {s : List Int} {i : Nat} (h : Adj s i) : tiedB s = true := by
  obtain ⟨y, x, hy, hx, hn, rfl⟩ := h
  obtain ⟨hg, h2⟩ := neg_iff.1 hn
  unfold tiedB
  rw [List.any_eq_true]
  refine ⟨x, List.mem_of_getElem? hx, ?_⟩
  rw [Bool.and_eq_true, good_iff, has_iff]
  refine ⟨hg, ?_⟩
  unfold litNot
  rw [if_pos (good_iff.2 hg), if_pos h2]
  exact List.mem_of_getElem? hy
theorem rise_get {s : List Int} (h : Rise s) {i j : Nat} {x y : Int} (hij : i < j) (hx : s[i]? = some x) (hy : s[j]? = some y) : x < y := by
  obtain ⟨h1, e1⟩ := List.getElem?_eq_some_iff.1 hx
  obtain ⟨h2, e2⟩ := List.getElem?_eq_some_iff.1 hy
  rw [← e1, ← e2]
  exact List.pairwise_iff_getElem.1 h i j h1 h2 hij
/-- a number and the next one stand side by side in order -/
theorem rise_next {s : List Int} (h : Rise s) {x : Int} (h1 : x - 1 ∈ s) (h2 : x ∈ s) : ∃ i, s[i]? = some (x - 1) ∧ s[i + 1]? = some x := by
  obtain ⟨i, hi⟩ := List.getElem?_of_mem h1
  obtain ⟨j, hj⟩ := List.getElem?_of_mem h2
  have hlt : i < j := by
    rcases Nat.lt_trichotomy i j with h3 | h3 | h3
    · exact h3
    · subst h3; rw [hi] at hj; injection hj with hj; omega
    · have := rise_get h h3 hj hi; omega
  refine ⟨i, hi, ?_⟩
  rcases Nat.lt_or_ge (i + 1) j with h3 | h3
  · have hlj := (List.getElem?_eq_some_iff.1 hj).1
    have hz : s[i + 1]? = some (s[i + 1]'(by omega)) := List.getElem?_eq_getElem _
    have h4 := rise_get h (Nat.lt_succ_self i) hi hz
    have h5 := rise_get h h3 hz hj
    omega
  · have : j = i + 1 := by omega
    rw [← this]; exact hj
theorem tied_adj {s : List Int} (hs : Rise s) (h : tiedB s = true) : ∃ i, Adj s i := by
  unfold tiedB at h
  rw [List.any_eq_true] at h
  obtain ⟨x, hx, h⟩ := h
  rw [Bool.and_eq_true, good_iff, has_iff] at h
  obtain ⟨hg, hm⟩ := h
  unfold litNot at hm
  rw [if_pos (good_iff.2 hg)] at hm
  split at hm
  · rename_i h2
    obtain ⟨i, h3, h4⟩ := rise_next hs hm hx
    exact ⟨i, _, _, h3, h4, neg_iff.2 ⟨hg, h2⟩, rfl⟩
  · rename_i h2
    obtain ⟨i, h3, h4⟩ := rise_next hs (x := x + 1) (by rw [show x + 1 - 1 = x by omega]; exact hx) hm
    exact ⟨i, _, _, h3, h4, neg_iff.2 ⟨by omega, by omega⟩, rfl⟩
theorem tied_no {s : List Int} (hs : Rise s) (h : ∀ i, i + 1 < s.length → ¬ Adj s i) : tiedB s = false := by
  cases ht : tiedB s
  · rfl
  · obtain ⟨i, ha⟩ := tied_adj hs ht
    refine absurd ha (h i ?_)
    obtain ⟨_, x, _, hx, _⟩ := ha
    exact (List.getElem?_eq_some_iff.1 hx).1

/-- whether numbers are a cube -/
def inR (x : Int) : Bool := decide (0 ≤ x ∧ x ≤ 4001)
def normB (c : List Int) : Bool := (srt c).all inR && !tiedB (srt c)
theorem inR_iff {x : Int} : inR x = true ↔ 0 ≤ x ∧ x ≤ 4001 := by simp [inR]
/-- what the document asks at a place -/
def BadAt (s : List Int) (i : Nat) : Prop := ∃ x, s[i]? = some x ∧ (x < 0 ∨ 4001 < x ∨ ∃ j y, i = j + 1 ∧ s[j]? = some y ∧ x / 2 = y / 2)
theorem norm_bad {c : List Int} {i : Nat} (h : BadAt (srt c) i) (h0 : ∀ y ∈ (srt c).take i, inR y = true) : normB c = false := by
  obtain ⟨x, hx, h⟩ := h
  unfold normB
  rw [Bool.and_eq_false_iff]
  by_cases hr : inR x = true
  · right
    rcases h with h | h | ⟨j, y, rfl, hy, he⟩
    · have := inR_iff.1 hr; omega
    · have := inR_iff.1 hr; omega
    · have hlt := rise_get (srt_rise c) (Nat.lt_succ_self j) hy hx
      have := inR_iff.1 hr
      rw [adj_tied (i := j) ⟨y, x, hy, hx, neg_iff.2 ⟨by omega, by omega⟩, by omega⟩]
      rfl
  · left
    rw [List.all_eq_false]
    exact ⟨x, List.mem_of_getElem? hx, hr⟩
theorem norm_good {c : List Int} (h : ∀ i, i < (srt c).length → ¬ BadAt (srt c) i) : normB c = true := by
  unfold normB
  have h1 : ∀ x ∈ srt c, inR x = true := by
    intro x hx
    obtain ⟨i, hi⟩ := List.getElem?_of_mem hx
    rw [inR_iff]
    have := h i (List.getElem?_eq_some_iff.1 hi).1
    refine ⟨Int.not_lt.1 fun hc => this ⟨x, hi, .inl hc⟩, Int.not_lt.1 fun hc => this ⟨x, hi, .inr (.inl hc)⟩⟩
  rw [Bool.and_eq_true, List.all_eq_true]
  refine ⟨h1, ?_⟩
  rw [tied_no (srt_rise c)]
  · rfl
  · rintro i hi ⟨y, x, hy, hx, hn, rfl⟩
    have h2 := (neg_iff.1 hn).2
    exact h (i + 1) hi ⟨x, hx, .inr (.inr ⟨i, x - 1, rfl, hy, by omega⟩)⟩
/-- what the program asks: the first one, the last one, whether two are tied -/
theorem norm_ends {c : List Int} (x y : Int) (hx : (srt c)[0]? = some x) (hy : (srt c)[(srt c).length - 1]? = some y) :
    normB c = (decide (0 ≤ x) && decide (y ≤ 4001) && !tiedB (srt c)) := by
  unfold normB
  congr 1
  rw [Bool.eq_iff_iff, List.all_eq_true, Bool.and_eq_true, decide_eq_true_iff, decide_eq_true_iff]
  constructor
  · intro h
    exact ⟨(inR_iff.1 (h x (List.mem_of_getElem? hx))).1, (inR_iff.1 (h y (List.mem_of_getElem? hy))).2⟩
  · rintro ⟨h1, h2⟩ z hz
    obtain ⟨i, hi⟩ := List.getElem?_of_mem hz
    have hil := (List.getElem?_eq_some_iff.1 hi).1
    rw [inR_iff]
    constructor
    · rcases Nat.eq_zero_or_pos i with h3 | h3
      · subst h3; rw [hx] at hi; injection hi with hi; omega
      · have := rise_get (srt_rise c) h3 hx hi; omega
    · rcases Nat.lt_or_ge i ((srt c).length - 1) with h3 | h3
      · have := rise_get (srt_rise c) h3 hi hy; omega
      · have : i = (srt c).length - 1 := by omega
        subst this; rw [hy] at hi; injection hi with hi; omega
theorem norm_nil {c : List Int} (h : srt c = []) : normB c = true := by unfold normB; rw [h]; rfl
end Go.Proofs.Ytcjoohaagdihlaa.Sorted
end

section
/- The contract of the program's lit.Tied. -/
namespace Go.Proofs.Ytcjoohaagdihlaa.Sorted
open Go.RowKit Go.Lt Go.Proofs.Ytcjoohaagdihlaa.Lit
set_option linter.unusedVariables false
set_option linter.unusedSimpArgs false

theorem adj_no {s : List Int} {q : Nat} {y x : Int} (hy : s[q]? = some y) (hx : s[q + 1]? = some x) (h : litNeg x = true → y ≠ x - 1) : ¬ Adj s q := by
  rintro ⟨y', x', hy', hx', hn, he⟩
  rw [hy] at hy'; rw [hx] at hx'
  injection hy' with hy'; injection hx' with hx'
  subst hy' hx'
  exact h hn he

theorem neg_is {x : Int} {b : Bool} (h : litNeg x = b) : ∀ W : World, Calls Try.prog 153 #[.int .i64 x] W fun e w' => e = .returned (.bool b) ∧ W = w' := by
  subst h; exact lit_Neg x
set_option maxHeartbeats 800000 in
theorem lit_Tied0 (A : Option Addr) (n c : Nat) (l : List Int) (w : World) (hn : n ≤ 1000000) (hr : Rd w A n (ivs l)) :
    Calls Try.prog 133 #[.slice A n c] w fun e w' => e = .returned (.bool (tiedB (srt l))) ∧ Below w.heap.size w w' := by
  have hl := hide hr.len
  have HR := hide (srt_rise l)
  have HL := hide (srt_len l)
  go_enter Try.func133, Try.ntmps133
  go_wp2_with fail
  refine (lit_Sorted _ _ _ l _ hn hr).mono ?_
  rintro e w1 ⟨v, rfl, hown, hb⟩
  obtain ⟨A1, c1, rfl, _, _, hr1⟩ := Rd.of_own hown
  clear hown
  have hm : (srt l).length ≤ 1000000 := by have := HL.out; have := hl.out; omega
  have hmI : ((srt l).length : Int) ≤ 1000000 := by omega
  clear HL hl hr hn
  obtain ⟨s, hs⟩ : ∃ s, srt l = s := ⟨_, rfl⟩
  rw [hs] at hm hmI hr1 HR
  rw [hs]
  have HS := hide hs
  clear hs
  have hm' : s.length = (ivs s).length := by simp [ivs]
  obtain ⟨m, hms⟩ : ∃ m, s.length = m := ⟨_, rfl⟩
  rw [hms] at hm hmI hr1
  rw [hms]
  have hms' := hide hms
  clear hm' hms
  go_wp2
  go_loopw [4] (fun i wr => ∃ k q : Nat, Hid (k = q + 1) ∧ (q < m ∨ q = 0) ∧ i = .int .i64 k ∧ Dr w1 wr ∧ Hid (∀ j : Nat, j < q → ¬ Adj s j)) (fun i _ => m + 1 - (intOf i).toNat)
  case atStart => exact ⟨1, 0, rfl, .inr rfl, rfl, Dr.refl _, fun j hj => absurd hj (Nat.not_lt_zero _)⟩
  case round =>
    obtain ⟨k, q, hkq, hq, rfl, hd, hno⟩ := hrel
    have hqI : (q : Int) ≤ 1000000 := by omega
    have hkI : (k : Int) ≤ 1000001 := by have := hkq.out; omega
    by_cases hlt : k < m
    · obtain ⟨ad, x, rfl, hB, hx, hc⟩ := (Dr.rd hd hr1).get hlt
      obtain ⟨ad', y, hA', hB', hy, hc'⟩ := (Dr.rd hd hr1).get (show q < m by have := hkq.out; omega)
      injection hA' with hA'
      subst hA'
      have hi2 : IntKind.i64.wrap ((k : Int) - 1) = (q : Int) := by rw [show (k : Int) - 1 = q by have := hkq.out; omega]; exact IntWalk.i64_in _ (by omega)
      have hi3 : q < m := by have := hkq.out; omega
      have hx : s[q + 1]? = some x := by rw [← hkq.out]; exact hx
      have hstep := hide (fun h : ¬ Adj s q => (show ∀ j : Nat, j < q + 1 → ¬ Adj s j from fun j hj => by
        by_cases h1 : j < q
        · exact hno.out j h1
        · have : j = q := by omega
          subst this; exact h))
      cases hneg : litNeg x
      · have hN := hide (adj_no hy hx (fun h => by rw [hneg] at h; cases h))
        have hneg' := hide (neg_is hneg)
        clear hx hy hneg
        have hneg := hneg'
        clear hneg'
        go_wp2
        go_quiet ((go_at_call 153; exact quiet_eq (hneg.out _)))
        go_wp2
        go_roundw
        case rel => exact ⟨k + 1, k, rfl, .inl hlt, by go_num, hd.more _, by rw [hkq.out]; exact hstep.out hN.out⟩
        case measure => simp [intOf]; omega
      · obtain ⟨⟨hx0, hx1⟩, hx2⟩ := neg_iff.1 hneg
        have hi4 : IntKind.i64.wrap (x - 1) = x - 1 := IntWalk.i64_in _ (by omega)
        by_cases he : y = x - 1
        · have hY := hide (adj_tied ⟨y, x, hy, hx, hneg, he⟩)
          have hneg' := hide (neg_is hneg)
          clear hneg
          have hneg := hneg'
          clear hneg'
          have hb1 : (y == x - 1) = true := by simp [he]
          clear hx hy he hx2 hx0 hx1
          go_wp2
          go_quiet ((go_at_call 153; exact quiet_eq (hneg.out _)))
          go_wp2
          go_ret
          exact ⟨ret_bool (hY.out.symm.trans (by rw [HS.out])), hb.trans ((hd.more _).below _)⟩
        · have hN := hide (adj_no hy hx (fun _ => he))
          have hneg' := hide (neg_is hneg)
          clear hneg
          have hneg := hneg'
          clear hneg'
          have hb1 : (y == x - 1) = false := by simp [he]
          clear hx hy he hx2 hx0 hx1
          go_wp2
          go_quiet ((go_at_call 153; exact quiet_eq (hneg.out _)))
          go_wp2
          go_roundw
          case rel => exact ⟨k + 1, k, rfl, .inl hlt, by go_num, hd.more _, by rw [hkq.out]; exact hstep.out hN.out⟩
          case measure => simp [intOf]; omega
    · have HF := hide (tied_no HR.out (fun j hj => hno.out j (by have := hms'.out; have := hkq.out; omega)))
      clear hno
      go_wp2
      go_ret
      exact ⟨ret_bool (HF.out.symm.trans (by rw [HS.out])), hb.trans (hd.below _)⟩
theorem lit_Tied (A : Option Addr) (n c : Nat) (l : List Int) (w : World) (hn : n ≤ 1000000) (hr : Rd w A n (ivs l)) :
    Calls Try.prog 133 #[.slice A n c] w fun e w' => e = .returned (.bool (tiedB l)) ∧ Below w.heap.size w w' :=
  (lit_Tied0 A n c l w hn hr).mono fun e w' ⟨he, hb⟩ => ⟨he.trans (by rw [tiedB_srt]), hb⟩
end Go.Proofs.Ytcjoohaagdihlaa.Sorted
end

section
/- Contracts on cubes in order, the program's Norm and Join. -/
namespace Go.Proofs.Ytcjoohaagdihlaa.Sorted
open Go.RowKit Go.Lt Go.Proofs.Ytcjoohaagdihlaa.Lit
set_option linter.unusedVariables false
set_option linter.unusedSimpArgs false

def NormIs (l : List Int) (w : World) (e : Ending) (w' : World) : Prop :=
  (normB l = true ∧ ∃ v, e = .returned (.tuple #[v, .bool true]) ∧ w'.ownsRow w.heap.size 3 1 v (srt l).length (ivs (srt l)) ∧ Below w.heap.size w w') ∨
  (normB l = false ∧ e = .returned (.tuple #[.slice none 0 0, .bool false]) ∧ Below w.heap.size w w')
theorem tied_is {A : Option Addr} {n c : Nat} {l : List Int} {w : World} {b : Bool} (hn : n ≤ 1000000) (hr : Rd w A n (ivs l)) (h : tiedB l = b) :
    Calls Try.prog 133 #[.slice A n c] w fun e w' => e = .returned (.bool b) ∧ Below w.heap.size w w' := by
  subst h; exact lit_Tied A n c l w hn hr

set_option maxHeartbeats 800000 in
theorem cube_Norm (A : Option Addr) (n c : Nat) (l : List Int) (w : World) (hn : n ≤ 1000000) (hr : Rd w A n (ivs l)) :
    Calls Try.prog 100 #[.slice A n c] w (NormIs l w) := by
  have hl := hide hr.len
  have HL := hide (srt_len l)
  have HE := hide (fun x y hx hy => norm_ends (c := l) x y hx hy)
  have H0 := hide (norm_nil (c := l))
  go_enter Try.func100, Try.ntmps100
  go_wp2_with fail
  refine (lit_Sorted _ _ _ l _ hn hr).mono ?_
  rintro e w1 ⟨v, rfl, hown, hb⟩
  have hown' := hide hown
  obtain ⟨A1, c1, rfl, _, _, hr1⟩ := Rd.of_own hown
  clear hown
  have hm : (srt l).length ≤ 1000000 := by have := HL.out; have := hl.out; omega
  clear HL hl hr hn
  obtain ⟨s, hs⟩ : ∃ s, srt l = s := ⟨_, rfl⟩
  rw [hs] at hm hr1 HE H0
  rw [hs]
  have hown : Hid (w1.ownsRow w.heap.size 3 1 (.slice A1 s.length c1) s.length (ivs s)) := by rw [← hs]; exact hown'
  have HS := hide hs
  clear hs hown'
  cases s with
  | nil =>
    have HT := hide (H0.out rfl)
    have htn := hide (show tiedB [] = false from rfl)
    clear H0 HE
    go_wp2_with fail
    refine (tied_is (by simp) (Rd.nil _ _) htn.out).mono ?_
    rintro e w2 ⟨rfl, hb2⟩
    go_wp2
    go_ret2
    refine .inl ⟨HT.out, _, rfl, ?_, hb.trans (hb2.mono hb.size)⟩
    rw [HS.out]
    exact own_keep hown.out hb2
  | cons x r =>
    obtain ⟨m, hms⟩ : ∃ m, r.length = m := ⟨_, rfl⟩
    have hlen : (x :: r).length = m + 1 := by rw [List.length_cons, hms]
    rw [hlen] at hm hr1
    rw [hlen]
    have hmI : (m : Int) ≤ 1000000 := by omega
    obtain ⟨ad, x', rfl, hB, hx, hc⟩ := hr1.get (show 0 < m + 1 by omega)
    obtain ⟨ad', y, hA', hB', hy, hc'⟩ := hr1.get (show m < m + 1 by omega)
    injection hA' with hA'
    subst hA'
    have hxx : x = x' := by simpa using hx
    subst hxx
    have HN := hide (HE.out x y rfl (by rw [hlen]; exact hy))
    have hlen' := hide hlen
    clear hms hlen hx hy H0 HE
    have hc0 : w1.cell? ad = some (.int .i64 x) := by simpa [Addr.add] using hc
    clear hc
    by_cases hx0 : x < 0
    · have hF := hide (show normB l = false by rw [HN.out]; simp [show ¬ 0 ≤ x by omega])
      go_wp2
      go_ret2
      exact .inr ⟨hF.out, rfl, hb⟩
    · have hx0' : 0 ≤ x := by omega
      by_cases hy1 : 4001 < y
      · have hF := hide (show normB l = false by rw [HN.out]; simp [show ¬ y ≤ 4001 by omega])
        have f1 : True → decide (4001 < y) = true := fun _ => by rw [decide_eq_true_iff]; exact hy1
        clear hy1
        go_wp2
        go_ret2
        exact .inr ⟨hF.out, rfl, hb⟩
      · have f1 : True → decide (4001 < y) = false := fun _ => by rw [decide_eq_false_iff_not]; exact hy1
        have hT := hide (show normB l = !tiedB (x :: r) by rw [HN.out]; simp [hx0', show y ≤ 4001 by omega])
        clear hy1
        cases ht : tiedB (x :: r)
        · have hF := hide (show normB l = true by rw [hT.out, ht]; rfl)
          have ht' := hide ht
          clear ht
          go_wp2_with fail
          refine (tied_is (by omega) hr1 ht'.out).mono ?_
          rintro e w2 ⟨rfl, hb2⟩
          go_wp2
          go_ret2
          refine .inl ⟨hF.out, _, rfl, ?_, hb.trans (hb2.mono hb.size)⟩
          rw [HS.out, hlen'.out]
          have h1 := own_keep hown.out hb2
          rw [hlen'.out] at h1
          exact h1
        · have hF := hide (show normB l = false by rw [hT.out, ht]; rfl)
          have ht' := hide ht
          clear ht
          go_wp2_with fail
          refine (tied_is (by omega) hr1 ht'.out).mono ?_
          rintro e w2 ⟨rfl, hb2⟩
          go_wp2
          go_ret2
          exact .inr ⟨hF.out, rfl, hb.trans (hb2.mono hb.size)⟩
end Go.Proofs.Ytcjoohaagdihlaa.Sorted
end
