/- The program's store of clauses in memory: watch.New. -/
import Derived.Test.YtcjoohaagdihlaaBegin1
import Derived.Test.YtcjoohaagdihlaaMapSlots
import Derived.Test.YtcjoohaagdihlaaKeys2
namespace Go.Proofs.Ytcjoohaagdihlaa.Watch
open Go.RowKit Go.Lt Go.Proofs.Ytcjoohaagdihlaa.Lit Go.Proofs.Ytcjoohaagdihlaa.Sorted Go.Proofs.Ytcjoohaagdihlaa.Learn Go.Instr
set_option linter.unusedVariables false
set_option linter.unusedSimpArgs false

abbrev boxS (n next : Int) (mA mN mS mB : Nat) (fv : Value) : Array Value := #[.int .i64 n, .int .i64 next, .map (some mA), .map (some mN), .map (some mS), fv, .map (some mB)]
/-- a store in memory: its box, its maps, what was not looked at -/
structure StM (base : Nat) (W : World) (p mA mN mS mB : Nat) (n next : Int) (fv : Value) (al nl sl bl : List (Int × Value)) (fr : List Int) : Prop where
  box : Blk W p 131 (boxS n next mA mN mS mB fv)
  all : MapS W Lt.encI mA al
  norms : MapS W Lt.encI mN nl
  short : MapS W Lt.encI mS sl
  by_ : MapS W Lt.encI mB bl
  fresh : W.ownsRow base 3 1 fv fr.length (ivs fr)
  d1 : mA ≠ mN ∧ mA ≠ mS ∧ mA ≠ mB ∧ mN ≠ mS ∧ mN ≠ mB ∧ mS ≠ mB
  lo : base ≤ p ∧ base ≤ mA ∧ base ≤ mN ∧ base ≤ mS ∧ base ≤ mB
theorem StM.keep {base : Nat} {W W' : World} {p mA mN mS mB : Nat} {n next : Int} {fv : Value} {al nl sl bl : List (Int × Value)} {fr : List Int} (h : StM base W p mA mN mS mB n next fv al nl sl bl fr) (hb : Below W.heap.size W W') : StM base W' p mA mN mS mB n next fv al nl sl bl fr :=
  ⟨h.box.below hb h.box.lt, h.all.below hb h.all.lt, h.norms.below hb h.norms.lt, h.short.below hb h.short.lt, h.by_.below hb h.by_.lt, own_keep h.fresh hb, h.d1, h.lo⟩
abbrev newW (w : World) (n : Int) : World := ((((w.alloc (.map #[] 0)).alloc (.map #[] 0)).alloc (.map #[] 0)).alloc (.map #[] 0)).alloc (.cells (boxS n 0 w.heap.size (w.heap.size + 1) (w.heap.size + 1 + 1) (w.heap.size + 1 + 1 + 1) (.slice none 0 0)) 131)
set_option maxRecDepth 8000 in
set_option maxHeartbeats 1000000 in
theorem watch_New (n : Int) (hn : 0 ≤ n ∧ n ≤ 1048576) (w : World) : Calls Try.prog 55 #[.int .i64 n] w fun e w' => ∃ p mA mN mS mB, e = .returned (.pointer (some ⟨p, 0, none⟩)) ∧ StM w.heap.size w' p mA mN mS mB n 0 (.slice none 0 0) [] [] [] [] [] ∧ Below w.heap.size w w' := by
  have hmm := @run_makeMap Try.prog
  have e1 : decide (n < 0) = false := decide_eq_false (by omega)
  have e2 : True → decide (1048576 < n) = false := fun _ => decide_eq_false (by omega)
  replace hn := hide hn
  have hR := hide (show ∃ p mA mN mS mB, p = w.heap.size + 1 + 1 + 1 + 1 ∧ StM w.heap.size (newW w n) p mA mN mS mB n 0 (.slice none 0 0) [] [] [] [] [] ∧ Below w.heap.size w (newW w n) from by
    have hA : MapS (newW w n) Lt.encI w.heap.size ([] : List (Int × Value)) := ((((MapS.made w _).alloc _).alloc _).alloc _).alloc _
    have hN : MapS (newW w n) Lt.encI (w.heap.size + 1) ([] : List (Int × Value)) := by
      have := ((((MapS.made (w.alloc (.map #[] 0)) Lt.encI).alloc (.map #[] 0)).alloc (.map #[] 0)).alloc (.cells (boxS n 0 w.heap.size (w.heap.size + 1) (w.heap.size + 1 + 1) (w.heap.size + 1 + 1 + 1) (.slice none 0 0)) 131))
      rw [World.size_alloc] at this; exact this
    have hS : MapS (newW w n) Lt.encI (w.heap.size + 1 + 1) ([] : List (Int × Value)) := by
      have := (((MapS.made ((w.alloc (.map #[] 0)).alloc (.map #[] 0)) Lt.encI).alloc (.map #[] 0)).alloc (.cells (boxS n 0 w.heap.size (w.heap.size + 1) (w.heap.size + 1 + 1) (w.heap.size + 1 + 1 + 1) (.slice none 0 0)) 131))
      rw [World.size_alloc, World.size_alloc] at this; exact this
    have hB : MapS (newW w n) Lt.encI (w.heap.size + 1 + 1 + 1) ([] : List (Int × Value)) := by
      have := ((MapS.made (((w.alloc (.map #[] 0)).alloc (.map #[] 0)).alloc (.map #[] 0)) Lt.encI).alloc (.cells (boxS n 0 w.heap.size (w.heap.size + 1) (w.heap.size + 1 + 1) (w.heap.size + 1 + 1 + 1) (.slice none 0 0)) 131))
      rw [World.size_alloc, World.size_alloc, World.size_alloc] at this; exact this
    have hX : Blk (newW w n) (w.heap.size + 1 + 1 + 1 + 1) 131 (boxS n 0 w.heap.size (w.heap.size + 1) (w.heap.size + 1 + 1) (w.heap.size + 1 + 1 + 1) (.slice none 0 0)) := by
      have := Blk.new ((((w.alloc (.map #[] 0)).alloc (.map #[] 0)).alloc (.map #[] 0)).alloc (.map #[] 0)) 131 (boxS n 0 w.heap.size (w.heap.size + 1) (w.heap.size + 1 + 1) (w.heap.size + 1 + 1 + 1) (.slice none 0 0))
      rw [World.size_alloc, World.size_alloc, World.size_alloc, World.size_alloc] at this; exact this
    have hbel : Below w.heap.size w (newW w n) := (((((Below.refl w.heap.size w).alloc (Nat.le_refl _) _).alloc (by simp) _).alloc (by simp; omega) _).alloc (by simp; omega) _).alloc (by simp; omega) _
    exact ⟨_, w.heap.size, w.heap.size + 1, w.heap.size + 1 + 1, w.heap.size + 1 + 1 + 1, rfl, ⟨hX, hA, hN, hS, hB, World.ownsRow_nil _ _ _ _, ⟨by omega, by omega, by omega, by omega, by omega, by omega⟩, ⟨by omega, by omega, by omega, by omega, by omega⟩⟩, hbel⟩)
  go_enter Try.func55, Try.ntmps55
  go_wp2
  go_ret
  obtain ⟨p, mA, mN, mS, mB, rfl, hs, hb⟩ := hR.out
  exact ⟨_, mA, mN, mS, mB, rfl, hs, hb⟩
end Go.Proofs.Ytcjoohaagdihlaa.Watch
