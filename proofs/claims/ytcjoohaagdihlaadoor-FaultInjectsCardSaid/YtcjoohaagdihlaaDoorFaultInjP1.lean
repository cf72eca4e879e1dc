/- Contracts on the closure of the program's Inject, on a net cloned, and on whether two nets are one. -/
import Derived.Test.YtcjoohaagdihlaaDoorFaultInj1
import Derived.Test.YtcjoohaagdihlaaDoorSorted2
namespace Go.Proofs.YtcjoohaagdihlaaDoor.Fault
open Go.RowKit Go.Lt Go.Proofs.YtcjoohaagdihlaaDoor.Lit Go.Instr
set_option linter.unusedVariables false
set_option linter.unusedSimpArgs false

theorem fault_stuck (y : Int) (f : Ft) (B1 B2 : Nat) (h0 : 0 ≤ y) (h1 : y ≤ 3000) (w : World) (c0 : w.cell? ⟨B1, 0, none⟩ = some (.int .i64 f.v)) (c1 : w.cell? ⟨B2, 0, none⟩ = some (.int .i64 (atB f.o))) :
    Calls Tryd.prog 98 #[.int .i64 y, .pointer (some ⟨B1, 0, none⟩), .pointer (some ⟨B2, 0, none⟩)] w fun e w' => e = .returned (.int .i64 (stuckL y f)) ∧ w = w' := by
  obtain ⟨v, p, o⟩ := f
  simp only at c0 c1
  have hand : bits .and .i64 y 1 = y % 2 := and_one y h0 (by omega)
  have x11 : bits .xor .i64 1 1 = 0 := by kernel_rfl
  have x10 : bits .xor .i64 1 0 = 1 := by kernel_rfl
  have x01 : bits .xor .i64 0 1 = 1 := by kernel_rfl
  have x00 : bits .xor .i64 0 0 = 0 := by kernel_rfl
  by_cases hv : y / 2 = v
  · have e1 : (y / 2 == v) = true := by simp [hv]
    by_cases h2 : y % 2 = 1
    · have hs := hide (show stuckL y ⟨v, p, o⟩ = atB (!o) by unfold stuckL; rw [if_pos hv, if_pos h2])
      clear hv
      cases o
      all_goals
        simp only [atB] at c1
        go_enter Tryd.func98, Tryd.ntmps98
        go_wp2
        go_ret
        first
          | exact ⟨by rw [hs.out]; rfl, rfl⟩
          | exact ⟨by rw [hs.out]; simp [atB, *], rfl⟩
    · have h2' : y % 2 = 0 := by omega
      have hs := hide (show stuckL y ⟨v, p, o⟩ = atB o by unfold stuckL; rw [if_pos hv, if_neg h2])
      clear hv
      cases o
      all_goals
        simp only [atB] at c1
        go_enter Tryd.func98, Tryd.ntmps98
        go_wp2
        go_ret
        first
          | exact ⟨by rw [hs.out]; rfl, rfl⟩
          | exact ⟨by rw [hs.out]; simp [atB, *], rfl⟩
  · have e1 : (y / 2 == v) = false := by simp [hv]
    have hs := hide (show stuckL y ⟨v, p, o⟩ = y by unfold stuckL; rw [if_neg hv])
    clear hv
    go_enter Tryd.func98, Tryd.ntmps98
    go_wp2
    go_ret
    exact ⟨by rw [hs.out]; rfl, rfl⟩

set_option maxHeartbeats 1000000 in
theorem clone_nodes (A : Option Addr) (n c : Nat) (l : List Nd) (w : World) (hn : n ≤ 1000000) (hr : RdN w A n l) :
    Calls Tryd.prog 95 #[.slice A n c] w fun e w' => ∃ v, e = .returned v ∧ w'.ownsRow w.heap.size 111 2 v n (encN l) ∧ Below w.heap.size w w' := by
  have q22 : ∀ (w : World) (a : Option Addr) (n c n' c' : Nat), (binOp .eql 49 (.slice a n c) (.slice none n' c')).run Tryd.prog w = .ok (.bool a.isNone) w := fun w a n c n' c' => Lib.run_eql_slice_nil w _ _ a n c n' c' Tryd.underlying49
  have hl := hide hr.1
  have HN := hide hn
  clear hn
  rcases A with _ | ad
  · have h0 : n = 0 := by
      rcases Nat.eq_zero_or_pos n with h0 | h0
      · exact h0
      · obtain ⟨ad, _, h1, _⟩ := hr.2 0 h0; cases h1
    subst h0
    have hl0 : l = [] := List.eq_nil_of_length_eq_zero hl.out
    subst hl0
    clear hl
    go_enter Tryd.func95, Tryd.ntmps95
    go_wp2
    go_ret
    exact ⟨_, rfl, World.ownsRow_nil _ _ _ _, Below.refl _ _⟩
  · have ba := (Below.refl w.heap.size w).alloc (Nat.le_refl _) (.cells #[] 111)
    go_enter Tryd.func95, Tryd.ntmps95
    go_wp2_with (at_builtin; refine wpList_append_rdS rfl _ _ _ rfl Tryd.underlying49 info_n rfl (by decide) rfl rfl (made_empty w w.heap.size 111 2 (Nat.le_refl _)) ba (by simp) (hr.rdS.below ba (Nat.le_refl _)) encN_one (by have := HN.out; unfold maxLen; omega) (by have := HN.out; omega) ?_; intro v4 w4 hown4 hb4 _)
    go_ret
    exact ⟨_, rfl, by simpa using hown4, hb4⟩

set_option maxHeartbeats 2000000 in
theorem nets_same (A C : Option Addr) (n c cc : Nat) (l : List Nd) (w : World) (hn : n ≤ 1000000) (hr : RdN w A n l) (hr2 : RdN w C n l) :
    Calls Tryd.prog 41 #[.slice A n c, .slice C n cc] w fun e w' => e = .returned (.bool true) ∧ Dr w w' := by
  have hnI : (n : Int) ≤ 1000000 := by omega
  go_enter Tryd.func41, Tryd.ntmps41
  go_wp2
  go_loopw [5] (fun i wr => ∃ k : Nat, k ≤ n ∧ i = .int .i64 k ∧ Dr w wr) (fun i _ => n - (intOf i).toNat)
  case atStart => exact ⟨0, Nat.zero_le _, rfl, Dr.refl _⟩
  case round =>
    obtain ⟨k, hk, rfl, hd⟩ := hrel
    have hkI : (k : Int) ≤ 1000000 := by omega
    by_cases hlt : k < n
    · obtain ⟨ad, x, rfl, hB, hx, hc0, hc1, _, _⟩ := (hr.below (hd.below w.heap.size) (Nat.le_refl _)).get hlt
      obtain ⟨ad2, y, rfl, hB2, hy, hd0, hd1, _, _⟩ := (hr2.below (hd.below w.heap.size) (Nat.le_refl _)).get hlt
      rw [hx] at hy
      injection hy with hy
      subst hy
      clear hx
      obtain ⟨a, b⟩ := x
      simp only at hc0 hc1 hd0 hd1
      by_cases ha : a < 0
      · have d1 : decide (a < 0) = true := by rw [decide_eq_true_iff]; exact ha
        go_wp2
        go_roundw
        case rel => exact ⟨k + 1, hlt, by go_num, hd⟩
        case measure => simp [intOf]; omega
      · have d1 : decide (a < 0) = false := by rw [decide_eq_false_iff_not]; exact ha
        go_wp2
        go_quiet (fail)
        go_wp2
        go_roundw
        case rel => exact ⟨k + 1, hlt, by go_num, hd.more _⟩
        case measure => simp [intOf]; omega
    · have hkn : k = n := by omega
      subst hkn
      go_wp2
      go_ret
      exact ⟨rfl, hd⟩
end Go.Proofs.YtcjoohaagdihlaaDoor.Fault
