/- The texts of scores: the plain law. -/
import Derived.Test.YtcjoohaagdihlaaDoorHex1
import Derived.Test.YtcjoohaagdihlaaDoorScoreD1
namespace Go.Proofs.YtcjoohaagdihlaaDoor.Hex
open Go.Lt Go.Proofs.YtcjoohaagdihlaaDoor.Score
set_option linter.unusedVariables false
set_option linter.unusedSimpArgs false

theorem plainB_idem (b : Nat) : plainB (plainB b) = plainB b := by
  by_cases h : nanB b = true
  · have e : plainB b = 9221120237041090561 := by unfold plainB; rw [if_pos h]
    rw [e]; rfl
  · have e : plainB b = b := by unfold plainB; rw [if_neg h]
    rw [e, e]
theorem plainB_lt {b : Nat} (h : b < 18446744073709551616) : plainB b < 18446744073709551616 := by
  unfold plainB; split
  · omega
  · exact h
/-- the score's bits of a text -/
def readX (l : List Nat) : Option Nat := if l.length = 16 then (hexTo l).bind fun v => if plainB v = v then some v else none else none
def textX (b : Nat) : List Nat := hexL 16 (plainB b)
theorem read_text {b : Nat} (h : b < 18446744073709551616) : readX (textX b) = some (plainB b) := by
  unfold readX textX
  rw [if_pos (hexL_len 16 _), hexTo_L 16 _ (by have := plainB_lt h; exact this)]
  simp only [Option.bind_some]
  rw [if_pos (plainB_idem b)]
theorem text_read {l : List Nat} {v : Nat} (h : readX l = some v) : textX v = l ∧ v < 18446744073709551616 ∧ plainB v = v := by
  unfold readX at h
  split at h
  case isFalse => cases h
  case isTrue hl =>
    cases hv : hexTo l with
    | none => rw [hv] at h; cases h
    | some u =>
      rw [hv] at h
      simp only [Option.bind_some] at h
      split at h
      case isFalse => cases h
      case isTrue hp =>
        injection h with h
        subst h
        obtain ⟨h1, h2⟩ := hexL_To 16 l u hl hv
        exact ⟨by unfold textX; rw [hp]; exact h1, h2, hp⟩
end Go.Proofs.YtcjoohaagdihlaaDoor.Hex
