/- The keys of a map in order: the program's slices.Sorted(maps.Keys(..)). -/
import Derived.Test.YtcjoohaagdihlaaKeysS
import Derived.Test.YtcjoohaagdihlaaKeysShelf
import Derived.Test.YtcjoohaagdihlaaSortShelf
import Derived.Test.YtcjoohaagdihlaaSorted1
import Derived.Test.YtcjoohaagdihlaaLit2
namespace Go.Proofs.Ytcjoohaagdihlaa.Watch
open Go.RowKit Go.Lt Go.Proofs.Ytcjoohaagdihlaa.Lit Go.Proofs.Ytcjoohaagdihlaa.Sorted Go.Proofs Go.Maps Go.Sort Go.Shelf
set_option linter.unusedVariables false
set_option linter.unusedSimpArgs false

theorem sort_srt {ss ks : List Int} (h : ss.Perm ks) (hn : ks.Nodup) : (ss.mergeSort fun x y => decide (x ≤ y)) = srt ks := by
  have hp : (ss.mergeSort fun x y => decide (x ≤ y)).Perm ks := (List.mergeSort_perm ss _).trans h
  have hs : (ss.mergeSort fun x y => decide (x ≤ y)).Pairwise (· ≤ ·) := (List.pairwise_mergeSort (le := fun x y : Int => decide (x ≤ y)) (fun a b c h1 h2 => by simp at *; omega) (fun a b => by simp; omega) ss).imp (fun h => by simpa using h)
  refine rise_one ?_ (srt_rise ks) (fun y => by rw [hp.mem_iff, srt_mem])
  exact (hs.and (hp.symm.nodup hn)).imp (fun h => by have h1 := h.1; have h2 := h.2; omega)
theorem sorts_A (m : Nat) : AnyZI.SortsIn Try.prog Try.sortedA_ren Fence.wide m :=
  ⟨fun blk off cap ss W hH hblk hsz => callsIn_wide.2 (Try.slices_Sort_int blk off cap ss W hH hblk hsz),
   fun p cap W => callsIn_wide.2 (Try.slices_Sort_int_none p cap W)⟩
theorem keys_A (mb : Option Nat) (w : World) : Calls Try.prog 115 #[.map mb] w fun e w' => e = .returned (.func (.func 143) #[] #[.pointer (some ⟨w.heap.size, 0, none⟩)]) ∧ w' = w.alloc (.cells #[.map mb] 108) :=
  (callsIn_wide (n := 5)).1 (AnyZI.keys_in Try.keysA Fence.wide 5 trivial rfl mb w)
theorem keys_B (mb : Option Nat) (w : World) : Calls Try.prog 121 #[.map mb] w fun e w' => e = .returned (.func (.func 148) #[] #[.pointer (some ⟨w.heap.size, 0, none⟩)]) ∧ w' = w.alloc (.cells #[.map mb] 128) :=
  (callsIn_wide (n := 5)).1 (AnyZI.keys_in Try.keysB Fence.wide 5 trivial rfl mb w)
def SortedIs (ks : List Int) (w : World) (e : Ending) (w' : World) : Prop := ∃ v, e = .returned v ∧ w'.ownsRow w.heap.size 3 1 v ks.length (ivs (srt ks)) ∧ Below w.heap.size w w'
set_option maxRecDepth 100000 in
theorem sorted_is {ks : List Int} {w : World} {g : Nat} {lb : Array Value} (hk : ks.Nodup) (hn : ks.length ≤ 1000000) (hg : ∀ args w, (callFunc g args).run Try.prog w = .ok (.enter g args) w) (hseq : SeqGives Fence.wide 2 Try.prog g lb encZ (fun ss => ss.Perm ks) ks.length w) :
    Calls Try.prog 114 #[.func (.func g) #[] lb] w (SortedIs ks w) := by
  have cS := AnyZI.sorted_in Try.sortedA Fence.wide 5 trivial trivial trivial trivial rfl (by omega) (sorts_A _) (enters_of Try.func127 (by kernel_rfl) rfl) g lb trivial hg _ ks.length (by unfold maxLen; omega) (by omega) _ hseq
  refine ((callsIn_wide (n := 5)).1 cS).mono ?_
  rintro e w' ⟨v, ss, rfl, hS, hrow, hnil, hb⟩
  refine ⟨v, rfl, ?_, hb⟩
  rw [sort_srt hS hk, hS.length_eq] at hrow
  exact hrow
theorem sorted_A {w : World} {Bm b : Nat} {ml : List (Int × Value)} (hBm : Bm < w.heap.size) (hm : w.cell? ⟨Bm, 0, none⟩ = some (.map (some b))) (h : MapS w Lt.encI b ml) (hn : ml.length ≤ 1000000) :
    Calls Try.prog 114 #[.func (.func 143) #[] #[.pointer (some ⟨Bm, 0, none⟩)]] w (SortedIs (ml.map (·.1)) w) := by
  have hs := keys_S (ρ := Try.keysA_ren) { Try.keysA with } Fence.wide 2 trivial rfl (by omega) Bm b ml w hBm hm h
  rw [show ml.length = (ml.map (·.1)).length by simp] at hs
  exact sorted_is h.keys (by rw [List.length_map]; exact hn) (enters_of Try.func143 (by kernel_rfl) rfl) hs
theorem sorted_B {w : World} {Bm b : Nat} {ml : List (Int × Value)} (hBm : Bm < w.heap.size) (hm : w.cell? ⟨Bm, 0, none⟩ = some (.map (some b))) (h : MapS w Lt.encI b ml) (hn : ml.length ≤ 1000000) :
    Calls Try.prog 114 #[.func (.func 148) #[] #[.pointer (some ⟨Bm, 0, none⟩)]] w (SortedIs (ml.map (·.1)) w) := by
  have hs := keys_S (ρ := Try.keysB_ren) { Try.keysB with } Fence.wide 2 trivial rfl (by omega) Bm b ml w hBm hm h
  rw [show ml.length = (ml.map (·.1)).length by simp] at hs
  exact sorted_is h.keys (by rw [List.length_map]; exact hn) (enters_of Try.func148 (by kernel_rfl) rfl) hs
end Go.Proofs.Ytcjoohaagdihlaa.Watch
