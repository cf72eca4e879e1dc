/- Contracts on what puts numbers in order: the program's slices.Clone and lit.Sorted, the document's Sorted. -/
import Derived.Test.YtcjoohaagdihlaaLit2
import Derived.Test.YtcjoohaagdihlaaSortShelf
import Derived.Test.YtcjoohaagdihlaaSorted1
import Derived.Sort.OwnSortedInts
namespace Go.Proofs.Ytcjoohaagdihlaa.Sorted
open Go.RowKit Go.Lt Go.Proofs.Ytcjoohaagdihlaa.Lit
set_option linter.unusedVariables false
set_option linter.unusedSimpArgs false

theorem info_i : (Try.prog.info? 3).map (fun i => (i.zero, i.size, i.bytes)) = some (some (.int .i64 0), 1, 8) := by kernel_rfl
theorem ivs_one {l : List Int} : ∀ u ∈ ivs l, u.oneCell' = true := by
  intro u hu
  obtain ⟨x, _, rfl⟩ := List.mem_map.1 hu
  rfl
theorem ivs_len (l : List Int) : (ivs l).length = l.length := by simp [ivs]

set_option maxHeartbeats 1000000 in
theorem slices_Clone (A : Option Addr) (n c : Nat) (l : List Int) (w : World) (hn : n ≤ 1000000) (hr : Rd w A n (ivs l)) :
    Calls Try.prog 108 #[.slice A n c] w fun e w' => ∃ v, e = .returned v ∧ w'.ownsRow w.heap.size 3 1 v n (ivs l) ∧ Below w.heap.size w w' := by
  have q22 : ∀ (w : World) (a : Option Addr) (n c n' c' : Nat), (binOp .eql 40 (.slice a n c) (.slice none n' c')).run Try.prog w = .ok (.bool a.isNone) w := fun w a n c n' c' => Lib.run_eql_slice_nil w _ _ a n c n' c' Try.underlying40
  have hl := hide hr.len
  have HN := hide hn
  clear hn
  rcases A with _ | ad
  · have h0 := hr.none
    subst h0
    have hl0 : l = [] := List.eq_nil_of_length_eq_zero hl.out
    subst hl0
    clear hl
    go_enter Try.func108, Try.ntmps108
    go_wp2
    go_ret
    exact ⟨_, rfl, World.ownsRow_nil _ _ _ _, Below.refl _ _⟩
  · go_enter Try.func108, Try.ntmps108
    go_wp2_with (at_builtin; refine wpList_append_rd rfl _ _ _ rfl Try.underlying40 info_i rfl rfl rfl (World.ownsRow_lit w #[] 0 (Nat.le_refl _) (by unfold maxLen; omega) rfl) ((Below.refl w.heap.size w).alloc (Nat.le_refl _) _) (by simp) (hr.below ((Below.refl w.heap.size w).alloc (Nat.le_refl _) _) (Nat.le_refl _)) ivs_one (by have := HN.out; unfold maxLen; omega) (by have := HN.out; omega) ?_; intro v4 w4 hown4 hb4)
    go_ret
    exact ⟨_, rfl, by simpa using hown4, hb4⟩

theorem lit_Sorted (A : Option Addr) (n c : Nat) (l : List Int) (w : World) (hn : n ≤ 1000000) (hr : Rd w A n (ivs l)) :
    Calls Try.prog 87 #[.slice A n c] w fun e w' => ∃ v, e = .returned v ∧ w'.ownsRow w.heap.size 3 1 v (srt l).length (ivs (srt l)) ∧ Below w.heap.size w w' := by
  have hl := hide hr.len
  go_enter Try.func87, Try.ntmps87
  go_wp2_with fail
  refine (slices_Clone _ _ _ l _ hn hr).mono ?_
  rintro e w1 ⟨v, rfl, hown, hb⟩
  rcases hown.2 with ⟨rfl, hx⟩ | ⟨g, cap, cur, rfl, hbg, hg, hnc, hcm, hcs, htake⟩
  · have hl0 : l = [] := List.eq_nil_of_length_eq_zero (by have := hl.out; omega)
    subst hl0
    have hn0 : n = 0 := hl.out.symm
    subst hn0
    clear hown hx hl
    go_wp2_with fail
    refine (Try.slices_Sort_int_none _ _ _).mono ?_
    rintro e w2 ⟨rfl, rfl⟩
    go_wp2_with fail
    refine (Try.slices_Compact_int_empty _ _ _).mono ?_
    rintro e w3 ⟨rfl, rfl⟩
    go_wp2
    go_ret
    exact ⟨_, rfl, World.ownsRow_nil _ _ _ _, hb⟩
  · have hn' : n = l.length := hl.out.symm
    subst hn'
    have hg' : g < w1.heap.size := (Array.getElem?_eq_some_iff.1 hg).1
    have htake' : cur.toList.take l.length = l.map (Value.int .i64) := by rw [Nat.mul_one] at htake; exact htake
    have hH := Go.holds_of_blockI hg htake'
    clear hown hl
    go_wp2_with fail
    refine (Try.slices_Sort_int g 0 cap l _ hH hg' (by omega)).mono ?_
    rintro e w2 ⟨rfl, q, os, hw2⟩
    obtain ⟨sl, hsl⟩ : ∃ sl, sl = l.mergeSort fun x y => decide (x ≤ y) := ⟨_, rfl⟩
    have hs : Lib.compact sl = srt l := by rw [hsl]; exact compact_sort l
    have hlen : sl.length = l.length := by rw [hsl]; exact List.length_mergeSort _
    rw [← hsl] at hw2
    obtain ⟨cur2, hg2, ht2, hz2⟩ : ∃ cur2, w2.heap[g]? = some (.cells cur2 3 (0, 0)) ∧ cur2.toList.take sl.length = sl.map (Value.int .i64) ∧ cur2.size = cur.size := by
      rw [hw2]
      exact ⟨_, Go.heap_sortedI _ hg, Go.take_putCellsI cur sl (by omega), by simp [Sort.putCells]⟩
    have hgr2 : w1.grownBy w2 (some g) := by rw [hw2]; exact Go.grownBy_sortedI _
    have hb2 : Below w.heap.size w w2 := hb.grown hgr2 hb.size (fun k hk => by cases hk; exact hbg)
    have hC := Try.slices_Compact_int g 0 cap sl w2 (Go.holds_of_blockI hg2 ht2) (by omega) (by omega)
    rw [hlen] at hC
    rw [hs] at hC
    have hk : (srt l).length ≤ l.length := srt_len l
    have hG := hide (show ∀ (w3 : World) (q : Nat), w3 = Sort.putRow (Value.int .i64) (Sort.ahead w2 q) g 0 (srt l ++ List.replicate (l.length - (srt l).length) 0).toArray →
        w3.ownsRow w.heap.size 3 1 (.slice (some ⟨g, 0, none⟩) (srt l).length cap) (srt l).length (ivs (srt l)) ∧ Below w.heap.size w w3 by
      intro w3 q3 e3
      have hlz : (srt l ++ List.replicate (l.length - (srt l).length) 0).length = l.length := by rw [List.length_append, List.length_replicate]; omega
      obtain ⟨cur3, hg3, ht3, hz3⟩ : ∃ cur3, w3.heap[g]? = some (.cells cur3 3 (0, 0)) ∧ cur3.toList.take l.length = (srt l ++ List.replicate (l.length - (srt l).length) 0).map (Value.int .i64) ∧ cur3.size = cur2.size := by
        have h1 := Go.heap_sortedI (n := q3) (os := #[]) (srt l ++ List.replicate (l.length - (srt l).length) 0).toArray hg2
        rw [Sort.grow_empty, ← e3] at h1
        refine ⟨_, h1, ?_, by simp [Sort.putCells]⟩
        have h2 := Go.take_putCellsI cur2 (srt l ++ List.replicate (l.length - (srt l).length) 0) (by omega)
        rw [hlz] at h2
        exact h2
      have hgr3 : w2.grownBy w3 (some g) := by
        have h1 := Go.grownBy_sortedI (w := w2) (g := g) (n := q3) (os := #[]) (srt l ++ List.replicate (l.length - (srt l).length) 0).toArray
        rw [Sort.grow_empty, ← e3] at h1
        exact h1
      refine ⟨⟨by rw [ivs_len, Nat.mul_one], .inr ⟨g, cap, cur3, rfl, hbg, hg3, by omega, hcm, by omega, ?_⟩⟩, hb2.grown hgr3 hb2.size (fun k hk => by cases hk; exact hbg)⟩
      have h4 : (cur3.toList.take l.length).take (srt l).length = ((srt l ++ List.replicate (l.length - (srt l).length) 0).map (Value.int .i64)).take (srt l).length := by rw [ht3]
      rw [List.take_take, Nat.min_eq_left hk, ← List.map_take, List.take_left] at h4
      rw [Nat.mul_one]
      exact h4)
    clear hw2 hsl hs hlen hH hg hg' htake htake' hcs hg2 ht2 hz2 hgr2 hb2 hb hnc hr hk hn hcm hbg
    go_wp2_with fail
    refine hC.mono ?_
    rintro e w3 ⟨rfl, q3, e3⟩
    have hG := hide (hG.out w3 q3 e3)
    clear hC e3
    go_wp2
    go_ret
    exact ⟨_, rfl, hG.out.1, hG.out.2⟩
end Go.Proofs.Ytcjoohaagdihlaa.Sorted
