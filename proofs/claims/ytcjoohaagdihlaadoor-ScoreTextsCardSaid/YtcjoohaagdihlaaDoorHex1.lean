/- Numbers in sixteen digits of hex, there and back: the plain law, no program in sight. -/
import Derived.WalkKit
namespace Go.Proofs.YtcjoohaagdihlaaDoor.Hex
set_option linter.unusedVariables false
set_option linter.unusedSimpArgs false

/-- a digit's number -/
def hexV (x : Nat) : Option Nat := if 48 ≤ x ∧ x ≤ 57 then some (x - 48) else if 97 ≤ x ∧ x ≤ 102 then some (x - 87) else none
def hexD (d : Nat) : Nat := if d < 10 then 48 + d else 87 + d
theorem hexV_D {d : Nat} (h : d < 16) : hexV (hexD d) = some d := by
  unfold hexV hexD
  by_cases h1 : d < 10
  · rw [if_pos h1, if_pos (by omega)]; congr 1; omega
  · rw [if_neg h1, if_neg (by omega), if_pos (by omega)]; congr 1; omega
theorem hexD_V {x d : Nat} (h : hexV x = some d) : d < 16 ∧ hexD d = x := by
  unfold hexV at h
  unfold hexD
  split at h
  · injection h with h; subst h; rw [if_pos (by omega)]; omega
  · split at h
    · injection h with h; subst h; rw [if_neg (by omega)]; omega
    · cases h
/-- the number of digits, if all are -/
def hexTo (l : List Nat) : Option Nat := l.foldl (fun a x => a.bind fun v => (hexV x).map fun d => 16 * v + d) (some 0)
theorem hexTo_snoc (l : List Nat) (x : Nat) : hexTo (l ++ [x]) = (hexTo l).bind fun v => (hexV x).map fun d => 16 * v + d := by
  unfold hexTo; rw [List.foldl_append]; rfl
/-- so many digits of a number -/
def hexL : Nat → Nat → List Nat
  | 0, _ => []
  | k + 1, n => hexL k (n / 16) ++ [hexD (n % 16)]
theorem hexL_len (k : Nat) : ∀ n, (hexL k n).length = k := by
  induction k with
  | zero => intro n; rfl
  | succ k ih => intro n; simp [hexL, ih]
theorem hexTo_L (k : Nat) : ∀ n, n < 16 ^ k → hexTo (hexL k n) = some n := by
  induction k with
  | zero => intro n h; have : n = 0 := by simpa using h
            subst this; rfl
  | succ k ih =>
    intro n h
    rw [hexL, hexTo_snoc, ih (n / 16) (by rw [Nat.pow_succ] at h; omega), hexV_D (Nat.mod_lt _ (by omega))]
    simp only [Option.bind_some, Option.map_some]
    congr 1; omega
theorem hexL_To (k : Nat) : ∀ (l : List Nat) n, l.length = k → hexTo l = some n → hexL k n = l ∧ n < 16 ^ k := by
  induction k with
  | zero =>
    intro l n hl h
    have : l = [] := List.eq_nil_of_length_eq_zero hl
    subst this
    have : n = 0 := by have := Option.some.inj h; omega
    subst this
    exact ⟨rfl, by simp⟩
  | succ k ih =>
    intro l n hl h
    rcases List.eq_nil_or_concat l with rfl | ⟨l', x, rfl⟩
    · simp at hl
    · rw [List.concat_eq_append] at h ⊢; rw [List.concat_eq_append] at hl; rw [hexTo_snoc] at h
      cases hv : hexTo l' with
      | none => rw [hv] at h; cases h
      | some v =>
        rw [hv] at h
        cases hx : hexV x with
        | none => rw [hx] at h; cases h
        | some d =>
          rw [hx] at h
          have hn : 16 * v + d = n := Option.some.inj h
          obtain ⟨h1, h2⟩ := hexD_V hx
          obtain ⟨h3, h4⟩ := ih l' v (by simpa using hl) hv
          subst hn
          refine ⟨?_, by rw [Nat.pow_succ]; omega⟩
          rw [hexL, show (16 * v + d) / 16 = v by omega, show (16 * v + d) % 16 = d by omega, h3, h2]
theorem hexL_cons (k : Nat) : ∀ n, hexL (k + 1) n = hexD (n / 16 ^ k % 16) :: hexL k n := by
  induction k with
  | zero => intro n; simp [hexL]
  | succ k ih =>
    intro n
    rw [hexL, ih (n / 16), List.cons_append, Nat.div_div_eq_div_mul, Nat.pow_succ, Nat.mul_comm 16]
    rfl
theorem hexL_pad (m : Nat) : ∀ (j n : Nat), n < 16 ^ m → hexL (m + j) n = List.replicate j 48 ++ hexL m n := by
  intro j
  induction j with
  | zero => intro n _; simp
  | succ j ih =>
    intro n h
    have h2 : n < 16 ^ (m + j) := Nat.lt_of_lt_of_le h (Nat.pow_le_pow_right (by omega) (by omega))
    rw [show m + (j + 1) = (m + j) + 1 by omega, hexL_cons, ih n h, Nat.div_eq_of_lt h2, List.replicate_succ]
    rfl
end Go.Proofs.YtcjoohaagdihlaaDoor.Hex
