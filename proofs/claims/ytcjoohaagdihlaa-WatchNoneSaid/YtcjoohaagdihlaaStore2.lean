/- A slice's copy in memory of its own. -/
import Derived.Test.YtcjoohaagdihlaaProg
import Derived.Test.YtcjoohaagdihlaaRegInv
import Derived.Lib.SliceRun
namespace Go.Proofs.Ytcjoohaagdihlaa.Kept
open Go.RowKit Go.Lt
set_option linter.unusedVariables false
set_option linter.unusedSimpArgs false

theorem k_int : (Try.prog.info? 3).map (fun i => (i.zero, i.size, i.bytes)) = some (some (.int .i64 0), 1, 8) := by kernel_rfl
theorem k_bool : (Try.prog.info? 4).map (fun i => (i.zero, i.size, i.bytes)) = some (some (.bool false), 1, 1) := by kernel_rfl
theorem k_kept : (Try.prog.info? 66).map (fun i => (i.zero, i.size, i.bytes)) = some (some (.agg #[.slice none 0 0, .int .i64 0, .slice none 0 0]), 3, 56) := by kernel_rfl
theorem k_ints : (Try.prog.info? 40).map (fun i => (i.zero, i.size, i.bytes)) = some (some (.slice none 0 0), 1, 24) := by kernel_rfl

set_option maxRecDepth 8000 in
set_option maxHeartbeats 1000000 in
theorem clone_ints (A : Option Addr) (n c : Nat) (l : List Int) (w : World) (hr : Rd w A n (l.map (Value.int .i64))) (hn : n ≤ 1000000) :
    Calls Try.prog 108 #[.slice A n c] w fun e w' => ∃ v, e = .returned v ∧ w'.ownsRow w.heap.size 3 1 v l.length (l.map (Value.int .i64)) ∧ Below w.heap.size w w' := by
  have hl := hr.len
  subst hl
  have q22 : ∀ (w : World) (a : Option Addr) (n c n' c' : Nat), (binOp .eql 40 (.slice a n c) (.slice none n' c')).run Try.prog w = .ok (.bool a.isNone) w := fun w a n c n' c' => Lib.run_eql_slice_nil w _ 3 a n c n' c' (by kernel_rfl)
  go_enter Try.func108, Try.ntmps108
  rcases A with _ | ad
  · have h0 := hr.none
    have : l = [] := List.eq_nil_of_length_eq_zero h0
    subst this
    go_wp2
    go_ret
    exact ⟨_, rfl, ⟨by simp, .inl ⟨rfl, rfl⟩⟩, Below.refl _ _⟩
  · go_wp2_with (at_builtin; refine wpList_append_rd (w0 := w) (base := w.heap.size) rfl _ _ _ rfl (by kernel_rfl) k_int rfl rfl rfl (LitAt.new w _ _ (Nat.le_refl _)).own (Below.alloc (Below.refl _ _) (Nat.le_refl _) _) (by simp) (hr.below (Below.alloc (Below.refl w.heap.size w) (Nat.le_refl _) _) (Nat.le_refl _)) (by intro u hu; obtain ⟨x, _, rfl⟩ := List.mem_map.1 hu; rfl) (by unfold maxLen; omega) (by omega) ?_; intro v' w' hown hb; simp only [Nat.zero_add, List.nil_append] at hown)
    go_ret
    exact ⟨_, rfl, hown, hb⟩
set_option maxRecDepth 8000 in
set_option maxHeartbeats 1000000 in
theorem clone_bools (A : Option Addr) (n c : Nat) (l : List Bool) (w : World) (hr : Rd w A n (l.map Value.bool)) (hn : n ≤ 1000000) :
    Calls Try.prog 136 #[.slice A n c] w fun e w' => ∃ v, e = .returned v ∧ w'.ownsRow w.heap.size 4 1 v l.length (l.map Value.bool) ∧ Below w.heap.size w w' := by
  have hl := hr.len
  subst hl
  have q22 : ∀ (w : World) (a : Option Addr) (n c n' c' : Nat), (binOp .eql 59 (.slice a n c) (.slice none n' c')).run Try.prog w = .ok (.bool a.isNone) w := fun w a n c n' c' => Lib.run_eql_slice_nil w _ 4 a n c n' c' (by kernel_rfl)
  go_enter Try.func136, Try.ntmps136
  rcases A with _ | ad
  · have h0 := hr.none
    have : l = [] := List.eq_nil_of_length_eq_zero h0
    subst this
    go_wp2
    go_ret
    exact ⟨_, rfl, ⟨by simp, .inl ⟨rfl, rfl⟩⟩, Below.refl _ _⟩
  · go_wp2_with (at_builtin; refine wpList_append_rd (w0 := w) (base := w.heap.size) rfl _ _ _ rfl (by kernel_rfl) k_bool rfl rfl rfl (LitAt.new w _ _ (Nat.le_refl _)).own (Below.alloc (Below.refl _ _) (Nat.le_refl _) _) (by simp) (hr.below (Below.alloc (Below.refl w.heap.size w) (Nat.le_refl _) _) (Nat.le_refl _)) (by intro u hu; obtain ⟨x, _, rfl⟩ := List.mem_map.1 hu; rfl) (by unfold maxLen; omega) (by omega) ?_; intro v' w' hown hb; simp only [Nat.zero_add, List.nil_append] at hown)
    go_ret
    exact ⟨_, rfl, hown, hb⟩
end Go.Proofs.Ytcjoohaagdihlaa.Kept
