/- Contracts on a literal that is stuck; what is known between the steps of a round of the document's Inject. -/
import Derived.Test.YtcjoohaagdihlaaDoorFaultTxt1
import Derived.Test.YtcjoohaagdihlaaDoorFaultEnc
import Derived.Test.YtcjoohaagdihlaaDoorFault11
import Derived.OneCell
namespace Go.Proofs.YtcjoohaagdihlaaDoor.Fault
open Go.RowKit Go.Lt Go.Proofs.YtcjoohaagdihlaaDoor.Lit Go.Instr
set_option linter.unusedVariables false
set_option linter.unusedSimpArgs false

theorem ref_stuck (y : Int) (f : Ft) (h0 : 0 ≤ y) (h1 : y ≤ 3000) (w : World) :
    Calls Tryd.prog 99 #[.int .i64 y, .agg #[.int .i64 f.v, .int .i64 f.p, .bool f.o]] w fun e w' => e = .returned (.int .i64 (stuckL y f)) ∧ Below w.heap.size w w' := by
  obtain ⟨v, p, o⟩ := f
  have hb := hide ((Below.refl w.heap.size w).alloc (Nat.le_refl _) (.cells #[.int .i64 v, .int .i64 p, .bool o] 54))
  by_cases hv : y / 2 = v
  · have e1 : (y / 2 != v) = false := by simp [hv]
    by_cases h2 : y % 2 = 1
    · have e2 : (y % 2 == 1) = true := by simpa using h2
      have hs := hide (show stuckL y ⟨v, p, o⟩ = atB (!o) by unfold stuckL; rw [if_pos hv, if_pos h2])
      have HA := hide (fun W => ref_at (!o) W)
      clear hv h2
      cases o
      all_goals
        go_enter Tryd.func99, Tryd.ntmps99
        go_wp2_with fail
        refine (HA.out _).mono ?_
        rintro e w2 ⟨rfl, rfl⟩
        go_wp2
        go_ret
        exact ⟨by rw [hs.out]; rfl, hb.out⟩
    · have e2 : (y % 2 == 1) = false := by simpa using h2
      have hs := hide (show stuckL y ⟨v, p, o⟩ = atB o by unfold stuckL; rw [if_pos hv, if_neg h2])
      have HA := hide (fun W => ref_at o W)
      clear hv h2
      go_enter Tryd.func99, Tryd.ntmps99
      go_wp2_with fail
      refine (HA.out _).mono ?_
      rintro e w2 ⟨rfl, rfl⟩
      go_wp2
      go_ret
      exact ⟨by rw [hs.out]; rfl, hb.out⟩
  · have e1 : (y / 2 != v) = true := by simpa using hv
    have hs := hide (show stuckL y ⟨v, p, o⟩ = y by unfold stuckL; rw [if_neg hv])
    clear hv
    go_enter Tryd.func99, Tryd.ntmps99
    go_wp2
    go_ret
    exact ⟨by rw [hs.out]; rfl, hb.out⟩
theorem stuck_to {y r : Int} {f : Ft} (h : stuckL y f = r) (h0 : 0 ≤ y) (h1 : y ≤ 3000) (w : World) :
    Calls Tryd.prog 99 #[.int .i64 y, .agg #[.int .i64 f.v, .int .i64 f.p, .bool f.o]] w fun e w' => e = .returned (.int .i64 r) ∧ Below w.heap.size w w' := by subst h; exact ref_stuck y f h0 h1 w
theorem info_n : (Tryd.prog.info? 111).map (fun i => (i.zero, i.size, i.bytes)) = some (some (.agg #[.int .i64 0, .int .i64 0]), 2, 16) := by kernel_rfl
theorem info_i3 : (Tryd.prog.info? 3).map (fun i => (i.zero, i.size, i.bytes)) = some (some (.int .i64 0), 1, 8) := by kernel_rfl
theorem made_from {W : World} {g base : Nat} {e : TypeId} {size : Nat} (h : Blk W g e #[]) (hb : base ≤ g) : W.ownsRow base e size (.slice (some ⟨g, 0, none⟩) 0 0) 0 [] :=
  ⟨by simp, .inr ⟨g, 0, #[], rfl, hb, h, Nat.le_refl _, Nat.zero_le _, by simp, by simp⟩⟩
/-- what is known between the steps of a round: the fault's box, the node's, the row so far, the other row's block -/
structure Frm (w : World) (f : Ft) (g : Nat) (x : Nd) (v1 : Value) (k : Nat) (r : List Value) (g2 : Nat) (W : World) : Prop where
  fb : Blk W w.heap.size 54 #[.int .i64 f.v, .int .i64 f.p, .bool f.o]
  xb : Blk W g 111 #[.int .i64 x.A, .int .i64 x.B]
  own : W.ownsRow w.heap.size 111 2 v1 k r
  rb : Blk W g2 3 #[]
  bel : Below w.heap.size w W
  ne : v1.ownBlock ≠ some g
  ng : g2 ≠ g
  lg : w.heap.size < g
section
variable {w W W' : World} {f : Ft} {g k g2 : Nat} {x : Nd} {v1 : Value} {r : List Value}
theorem Frm.step (h : Frm w f g x v1 k r g2 W) (hb : Below W.heap.size W W') : Frm w f g x v1 k r g2 W' :=
  ⟨h.fb.below hb h.fb.lt, h.xb.below hb h.xb.lt, own_keep h.own hb, h.rb.below hb h.rb.lt, h.bel.trans (hb.mono h.bel.size), h.ne, h.ng, h.lg⟩
theorem Frm.dr (h : Frm w f g x v1 k r g2 W) (hd : Dr W W') : Frm w f g x v1 k r g2 W' := h.step (hd.below _)
theorem Frm.setA (h : Frm w f g x v1 k r g2 W) (a : Int) : Frm w f g ⟨a, x.B⟩ v1 k r g2 (W.setCell ⟨g, 0, none⟩ (.int .i64 a)) :=
  ⟨h.fb.far (by have := h.lg; simp; omega) _, h.xb.set_ 0 _, ownsRow_setCell_other h.own h.ne _, h.rb.far h.ng _, h.bel.setCell (p := ⟨g, 0, none⟩) (Nat.le_of_lt h.lg) _, h.ne, h.ng, h.lg⟩
theorem Frm.setB (h : Frm w f g x v1 k r g2 W) (b : Int) : Frm w f g ⟨x.A, b⟩ v1 k r g2 (W.setCell ⟨g, 1, none⟩ (.int .i64 b)) :=
  ⟨h.fb.far (by have := h.lg; simp; omega) _, h.xb.set_ 1 _, ownsRow_setCell_other h.own h.ne _, h.rb.far h.ng _, h.bel.setCell (p := ⟨g, 1, none⟩) (Nat.le_of_lt h.lg) _, h.ne, h.ng, h.lg⟩
theorem Frm.new {wr : World} (hown : wr.ownsRow w.heap.size 111 2 v1 k r) (hf : Blk wr w.heap.size 54 #[.int .i64 f.v, .int .i64 f.p, .bool f.o]) (hr : Blk wr g2 3 #[]) (hb : Below w.heap.size w wr) (x : Nd) :
    Frm w f wr.heap.size x v1 k r g2 (wr.alloc (.cells #[.int .i64 x.A, .int .i64 x.B] 111)) :=
  ⟨hf.alloc _, Blk.new _ _ _, hown.alloc _, hr.alloc _, hb.alloc hb.size _, fun h => by have := (hown.lt _ h).2; omega, by have := hr.lt; omega, hf.lt⟩
end
/-- what the document's Inject is to answer -/
def InjIs (l : List Nd) (outs : List Int) (f : Ft) (w : World) (e : Ending) (w' : World) : Prop :=
  ∃ v1 v2, e = .returned (.tuple #[v1, v2]) ∧ w'.ownsRow w.heap.size 111 2 v1 l.length (encN (injN l f)) ∧ w'.ownsRow w.heap.size 3 1 v2 outs.length (ivs (injO l outs f)) ∧ Below w.heap.size w w'
theorem injN_get {l : List Nd} {f : Ft} {k : Nat} {x : Nd} (h : l[k]? = some x) : (injN l f).take (k + 1) = (injN l f).take k ++ [if goodF l f = true then injNd f k x else x] := by
  rw [List.take_add_one]
  unfold injN
  split
  · rw [List.getElem?_mapIdx, h]; rfl
  · rw [h]; rfl
theorem injO_get {l : List Nd} {outs : List Int} {f : Ft} {k : Nat} {y : Int} (h : outs[k]? = some y) : (injO l outs f).take (k + 1) = (injO l outs f).take k ++ [if goodF l f = true ∧ f.p = 0 then stuckL y f else y] := by
  rw [List.take_add_one]
  unfold injO
  split
  · rw [List.getElem?_map, h]; rfl
  · rw [h]; rfl
end Go.Proofs.YtcjoohaagdihlaaDoor.Fault
