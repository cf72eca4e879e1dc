/- A store's law: no cube that is kept is covered by another one of no greater depth, and how a state's depth falls. -/
import Derived.Test.YtcjoohaagdihlaaStore12
import Derived.Test.YtcjoohaagdihlaaNorm3
namespace Go.Proofs.Ytcjoohaagdihlaa.Kept
open Go.RowKit Go.Shelf Go.Lt Go.Proofs.Ytcjoohaagdihlaa.Lit Go.Proofs.Ytcjoohaagdihlaa.CubeHas Go.Proofs.Ytcjoohaagdihlaa.Cube Go.Proofs.Ytcjoohaagdihlaa.Sorted
set_option linter.unusedVariables false
set_option linter.unusedSimpArgs false

/-- what is kept behind the first ones -/
def addAll (l : List Kc) : List Kc := l.foldl (fun s k => addL s k.c k.d k.i) []
theorem addAll_snoc (l : List Kc) (k : Nat) (h : k < l.length) : addAll (l.take (k + 1)) = addL (addAll (l.take k)) (kcAt l k).c (kcAt l k).d (kcAt l k).i := by
  have e : l.take (k + 1) = l.take k ++ [kcAt l k] := by
    rw [List.take_add_one, List.getElem?_eq_getElem h]
    simp [kcAt, List.getD, h]
  rw [e]
  simp [addAll]
theorem addL_len (l : List Kc) (cl : List Int) (dep : Int) (il : List Bool) : (addL l cl dep il).length ≤ l.length + 1 := by
  unfold addL
  split
  · rw [List.length_append]
    have := List.length_filter_le (fun k => !strikes dep (srt cl) k) l
    simp only [List.length_singleton]
    omega
  · omega
theorem goodL_add {l : List Kc} (h : GoodL l) {k : Kc} (hk : GoodK k) : GoodL (addL l k.c k.d k.i) := by
  unfold addL
  split
  · intro x hx
    rcases List.mem_append.1 hx with hx | hx
    · exact h x (List.mem_filter.1 hx).1
    · rw [List.mem_singleton.1 hx]
      exact ⟨Nat.le_trans (srt_len _) hk.c, hk.i, fun y hy => hk.w y (srt_mem.1 hy)⟩
  · exact h
structure AllS (n : Nat) (ls : List Kc) : Prop where
  pos : DepPos ls
  good : GoodL ls
  len : ls.length ≤ n
  apart : ls.Pairwise Apart
theorem AllS.nil : AllS 0 [] := ⟨fun _ h => (by cases h), fun _ h => (by cases h), Nat.le_refl _, List.Pairwise.nil⟩
theorem AllS.add {n : Nat} {ls : List Kc} (h : AllS n ls) {k : Kc} (hk : GoodK k) : AllS (n + 1) (addL ls k.c k.d k.i) :=
  ⟨depPos_add h.pos _ _ _, goodL_add h.good hk, Nat.le_trans (addL_len _ _ _ _) (by have := h.len; omega), apart_add h.apart _ _ _⟩
theorem few_at {L : List Kv} {n : Nat} (h : fewB L n = true) : n ≤ 60 ∧ ∀ (k : Nat) x, L[k]? = some x → x.c.n ≤ 30 ∧ x.i.n ≤ 30 := by
  unfold fewB at h
  rw [Bool.and_eq_true, decide_eq_true_eq, List.all_eq_true] at h
  refine ⟨h.1, fun k x hx => ?_⟩
  have := h.2 x (List.mem_of_getElem? hx)
  rw [Bool.and_eq_true, decide_eq_true_eq, decide_eq_true_eq] at this
  exact this
end Go.Proofs.Ytcjoohaagdihlaa.Kept
