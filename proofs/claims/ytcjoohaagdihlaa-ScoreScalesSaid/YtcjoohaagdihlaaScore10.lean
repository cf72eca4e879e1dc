/- The law ScoreScales walked: it returns true, in every world, and only makes memory. -/
import Derived.Test.YtcjoohaagdihlaaScore9
namespace Go.Proofs.Ytcjoohaagdihlaa.Score
open Go.RowKit Go.Lt
set_option linter.unusedVariables false

def plainB (b : Nat) : Nat := if nanB b then 9221120237041090561 else b
theorem odd_int (b : Nat) : decide ((9218868437227405312 : Int) ≤ (b : Int) % 9223372036854775808) = oddB b := by
  unfold oddB rung infR
  rw [Bool.eq_iff_iff]; simp only [decide_eq_true_eq]; omega
theorem Odd22 (b : Nat) (w : World) : Calls Try.prog 22 #[.int .u64 b] w fun e w' => e = .returned (.bool (oddB b)) ∧ w = w' := by
  have h : True → _ := fun _ => odd_int b
  go_enter Try.func22, Try.ntmps22
  go_wp2
  go_ret
  exact ⟨rfl, rfl⟩
theorem Plain83 (b : Nat) (w : World) : Calls Try.prog 83 #[.int .u64 b] w fun e w' => e = .returned (.int .u64 (plainB b)) ∧ w = w' := by
  by_cases hn : nanB b = true
  · have hp := hide (show (9221120237041090561 : Int) = (plainB b : Int) by unfold plainB; rw [hn]; rfl)
    go_enter Try.func83, Try.ntmps83
    go_wp2_with (go_at_call 73; refine (Nan73 _ _).mono ?_; rintro e w' ⟨rfl, rfl⟩)
    go_ret
    exact ⟨ret_u64 hp.out, rfl⟩
  · have hn : nanB b = false := by simpa using hn
    have hp := hide (show (b : Int) = (plainB b : Int) by unfold plainB; rw [hn]; rfl)
    go_enter Try.func83, Try.ntmps83
    go_wp2_with (go_at_call 73; refine (Nan73 _ _).mono ?_; rintro e w' ⟨rfl, rfl⟩)
    go_ret
    exact ⟨ret_u64 hp.out, rfl⟩
theorem Is23 (x b : Nat) (w : World) (h : Hid (plainB x = plainB b)) : Calls Try.prog 23 #[.float .f64 x, .int .u64 b] w fun e w' => e = .returned (.bool true) ∧ w = w' := by
  have hx := tobits x
  have he := h.out
  clear h
  generalize hp : plainB x = p at he
  generalize hq : plainB b = q at he
  subst he
  have hp := hide hp
  have hq := hide hq
  have c1 : Hid (∀ w : World, Calls Try.prog 83 #[.int .u64 x] w fun e w' => e = .returned (.int .u64 p) ∧ w = w') := fun w => by have := Plain83 x w; rw [hp.out] at this; exact this
  have c2 : Hid (∀ w : World, Calls Try.prog 83 #[.int .u64 b] w fun e w' => e = .returned (.int .u64 p) ∧ w = w') := fun w => by have := Plain83 b w; rw [hq.out] at this; exact this
  go_enter Try.func23, Try.ntmps23
  go_wp2_with fail
  refine (c1.out _).mono ?_
  rintro e w' ⟨rfl, rfl⟩
  go_wp2_with fail
  refine (c2.out _).mono ?_
  rintro e w' ⟨rfl, rfl⟩
  go_wp2
  go_ret
  exact ⟨rfl, rfl⟩
end Go.Proofs.Ytcjoohaagdihlaa.Score
