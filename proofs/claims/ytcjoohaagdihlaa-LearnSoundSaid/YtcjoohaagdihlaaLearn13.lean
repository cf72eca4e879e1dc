/- The law's example. -/
import Derived.Test.YtcjoohaagdihlaaLearn12
import Derived.Test.YtcjoohaagdihlaaOpen1
namespace Go.Proofs.Ytcjoohaagdihlaa.Learn
open Go.RowKit Go.Lt Go.Proofs.Ytcjoohaagdihlaa.Lit Go.Proofs.Ytcjoohaagdihlaa.Sorted Go.Instr
open Go.Proofs.Ytcjoohaagdihlaa.Kept (Sl Sl.val addr_off)
set_option linter.unusedVariables false
set_option linter.unusedSimpArgs false

def exL : List St := [⟨2, 1, []⟩, ⟨4, 1, [4, 3]⟩, ⟨6, 1, [6, 5]⟩]
theorem ex_good : GoodP exL [7, 5] := by
  refine ⟨fun i hi => ?_, by decide⟩
  have hi : i < 3 := hi
  rcases (show i = 0 ∨ i = 1 ∨ i = 2 by omega) with rfl | rfl | rfl
  · exact ⟨by decide, by decide, by decide, by decide, by decide, by decide, by decide⟩
  · exact ⟨by decide, by decide, by decide, by decide, by decide, by decide, by decide⟩
  · exact ⟨by decide, by decide, by decide, by decide, by decide, by decide, by decide⟩
theorem ex_first {r : Option (List Int × Int)} (h : FirstIs exL [7, 5] r) : r = some ([5], 0) :=
  first_one h (.inr ⟨goodB_yes ex_good, by simp [exL], 1, fun j hj => by
    have : j = 0 := by omega
    subst this
    decide, by decide, by decide⟩)
theorem rd_blk {w : World} {g n : Nat} {t : TypeId} {cs : Array Value} (h : Blk w g t cs) (hn : cs.size = n) : Rd w (some ⟨g, 0, none⟩) n cs.toList := rd_cells (by rw [Array.length_toList]; exact hn) (lit_cells h)
abbrev exC (B : Nat) : Array Value := #[.int .i64 2, .int .i64 1, .slice none 0 0, .int .i64 4, .int .i64 1, .slice (some ⟨B, 0, none⟩) 2 2, .int .i64 6, .int .i64 1, .slice (some ⟨B + 1, 0, none⟩) 2 2]
abbrev exW (w : World) : World := (((w.alloc (.cells #[.int .i64 4, .int .i64 3] 3)).alloc (.cells #[.int .i64 6, .int .i64 5] 3)).alloc (.cells (exC w.heap.size) 106)).alloc (.cells #[.int .i64 7, .int .i64 5] 3)
theorem ex_world (w : World) : RdT (exW w) (some ⟨w.heap.size + 1 + 1, 0, none⟩) 3 exL ∧ Rd (exW w) (some ⟨w.heap.size + 1 + 1 + 1, 0, none⟩) 2 (ivs [7, 5]) ∧ Below w.heap.size w (exW w) := by
  have b1 : Blk (exW w) w.heap.size 3 #[.int .i64 4, .int .i64 3] := (((Blk.new w 3 _).alloc _).alloc _).alloc _
  have b2 : Blk (exW w) (w.heap.size + 1) 3 #[.int .i64 6, .int .i64 5] := by
    have := ((Blk.new (w.alloc (.cells #[.int .i64 4, .int .i64 3] 3)) 3 #[.int .i64 6, .int .i64 5]).alloc (.cells (exC w.heap.size) 106)).alloc (.cells #[.int .i64 7, .int .i64 5] 3)
    simpa using this
  have b3 : Blk (exW w) (w.heap.size + 1 + 1) 106 (exC w.heap.size) := by
    have := (Blk.new ((w.alloc (.cells #[.int .i64 4, .int .i64 3] 3)).alloc (.cells #[.int .i64 6, .int .i64 5] 3)) 106 (exC w.heap.size)).alloc (.cells #[.int .i64 7, .int .i64 5] 3)
    simpa using this
  have b4 : Blk (exW w) (w.heap.size + 1 + 1 + 1) 3 #[.int .i64 7, .int .i64 5] := by
    have := Blk.new (((w.alloc (.cells #[.int .i64 4, .int .i64 3] 3)).alloc (.cells #[.int .i64 6, .int .i64 5] 3)).alloc (.cells (exC w.heap.size) 106)) 3 #[.int .i64 7, .int .i64 5]
    simpa using this
  have hlt := b3.lt
  refine ⟨⟨rfl, fun k hk => ?_⟩, rd_blk b4 rfl, (((((Below.refl w.heap.size w).alloc (Nat.le_refl _) _).alloc (by simp) _).alloc (by simp; omega) _).alloc (by simp; omega) _)⟩
  have hc := lit_cells b3
  rcases (show k = 0 ∨ k = 1 ∨ k = 2 by omega) with rfl | rfl | rfl
  · exact ⟨_, ⟨2, 1, []⟩, ⟨none, 0, 0⟩, rfl, hlt, rfl, hc 0 _ rfl, hc 1 _ rfl, hc 2 _ rfl, Rd.nil _ _⟩
  · exact ⟨_, ⟨4, 1, [4, 3]⟩, ⟨some ⟨w.heap.size, 0, none⟩, 2, 2⟩, rfl, hlt, rfl, hc 3 _ rfl, hc 4 _ rfl, hc 5 _ rfl, rd_blk b1 rfl⟩
  · exact ⟨_, ⟨6, 1, [6, 5]⟩, ⟨some ⟨w.heap.size + 1, 0, none⟩, 2, 2⟩, rfl, hlt, rfl, hc 6 _ rfl, hc 7 _ rfl, hc 8 _ rfl, rd_blk b2 rfl⟩
set_option maxRecDepth 8000 in
set_option maxHeartbeats 1000000 in
theorem law_lives (w : World) : Calls Try.prog 26 #[] w fun e w' => e = .returned (.bool true) ∧ Below w.heap.size w w' := by
  obtain ⟨hT, hR, hB⟩ := ex_world w
  have HF := hide (learn_First _ 3 3 exL _ 2 2 [7, 5] (exW w) (by omega) hT (by decide) (by omega) hR)
  replace hB := hide hB
  clear hT hR
  go_enter Try.func26, Try.ntmps26
  go_wp2_with fail
  refine HF.out.mono ?_
  rintro e w2 ⟨r, hr, hrv, hb2⟩
  have := ex_first hr
  subst this
  obtain ⟨A', n', c', rfl, _, hr2⟩ := hrv
  have hn : n' = 1 := by have := hr2.len; simpa using this.symm
  subst hn
  have hB2 := hide (hB.out.trans (hb2.mono hB.out.size))
  have b5 := (Below.refl w2.heap.size w2).alloc (Nat.le_refl _) (.cells #[.int .i64 5] 3)
  have HI := hide (ref_Ints A' (some ⟨w2.heap.size, 0, none⟩) 1 1 c' 1 [5] [5] (w2.alloc (.cells #[.int .i64 5] 3)) (by omega) (hr2.below b5 (Nat.le_refl _)) (rd_blk (Blk.new w2 3 #[.int .i64 5]) rfl))
  rw [show sameI [5] [5] = true from rfl] at HI
  replace b5 := hide b5
  clear hr hb2 hr2 hB HF
  go_wp2_with fail
  refine HI.out.mono ?_
  rintro e w3 ⟨rfl, hd⟩
  have hB3 := hide (hB2.out.trans ((b5.out.trans (hd.below _)).mono hB2.out.size))
  clear hd b5 HI
  go_wp2
  go_ret
  exact ⟨rfl, hB3.out⟩
end Go.Proofs.Ytcjoohaagdihlaa.Learn
