/- All that clauses say of values: the plain law of the document's Units. No program in sight. -/
import Derived.Test.YtcjoohaagdihlaaSound1
namespace Go.Proofs.Ytcjoohaagdihlaa.Learn
open Go.RowKit Go.Lt Go.Proofs.Ytcjoohaagdihlaa.Lit Go.Proofs.Ytcjoohaagdihlaa.Sorted
set_option linter.unusedVariables false
set_option linter.unusedSimpArgs false

/-- a literal is set -/
def setV (v : List Int) (x : Int) : List Int := v.set (x / 2).toNat (if x % 2 = 1 then 0 else 1)
abbrev uOf (v : List Int) (c : List Int) : Int := unitG (litV v) (-1) c
/-- one pass over all clauses -/
def passP : List Int → List (List Int) → Bool → Option (List Int × Bool)
  | v, [], m => some (v, m)
  | v, c :: cs, m => if valG (litV v) 0 c = 0 then none else if 1 < uOf v c then passP (setV v (uOf v c)) cs true else passP v cs m
/-- what the passes come to -/
inductive UnitsIs (cs : List (List Int)) : List Int → Option (List Int) → Prop where
  | no {v : List Int} (h : passP v cs false = none) : UnitsIs cs v none
  | done {v out : List Int} (h : passP v cs false = some (out, false)) : UnitsIs cs v (some out)
  | more {v out : List Int} {r : Option (List Int)} (h : passP v cs false = some (out, true)) (h2 : UnitsIs cs out r) : UnitsIs cs v r
theorem unit_mem {V : Int → Int} : ∀ (c : List Int) (left : Int), 1 < unitG V left c → unitG V left c = left ∨ (unitG V left c ∈ c ∧ V (unitG V left c) = 2 ∧ litGood (unitG V left c) = true)
  | [], left, h => .inl rfl
  | x :: c, left, h => by
    unfold unitG at h ⊢
    by_cases h1 : V x = 1 ∨ (V x = 2 ∧ (litGood x = false ∨ (0 ≤ left ∧ left ≠ x)))
    · rw [if_pos h1] at h; omega
    · rw [if_neg h1] at h ⊢
      by_cases h2 : V x = 2
      · rw [if_pos h2] at h ⊢
        have hg : litGood x = true := by
          cases hg : litGood x with
          | true => rfl
          | false => exact absurd (.inr ⟨h2, .inl hg⟩) h1
        rcases unit_mem c x h with e | ⟨a, b, d⟩
        · rw [e]; exact .inr ⟨List.mem_cons_self, h2, hg⟩
        · exact .inr ⟨List.mem_cons_of_mem _ a, b, d⟩
      · rw [if_neg h2] at h ⊢
        rcases unit_mem c left h with e | ⟨a, b, d⟩
        · exact .inl e
        · exact .inr ⟨List.mem_cons_of_mem _ a, b, d⟩
theorem unit_in {v : List Int} {c : List Int} (h : 1 < uOf v c) : uOf v c ∈ c ∧ litV v (uOf v c) = 2 ∧ litGood (uOf v c) = true :=
  (unit_mem c (-1) h).elim (fun e => absurd h (by unfold uOf; rw [e]; omega)) id
/-- how many values are open -/
def openN (v : List Int) : Nat := v.countP fun a => !decide (a = 0 ∨ a = 1)
theorem open_at {v : List Int} {x : Int} (hg : litGood x = true) (h1 : 1 < x) (hl : x / 2 < v.length) (h : litV v x = 2) : ¬ (v.getD (x / 2).toNat 0 = 0 ∨ v.getD (x / 2).toNat 0 = 1) := by
  unfold litV at h
  rw [if_pos hg, if_neg (show ¬ x / 2 = 0 by omega), if_pos hl] at h
  intro h2
  have h3 : triV (v.getD (x / 2).toNat 0) = v.getD (x / 2).toNat 0 := by unfold triV; rw [if_pos h2]
  rw [h3] at h
  unfold triNot at h
  split at h
  · split at h
    · omega
    · split at h <;> omega
  · omega
theorem open_set {v : List Int} {x : Int} (hg : litGood x = true) (h1 : 1 < x) (hl : x / 2 < v.length) (h : litV v x = 2) : openN (setV v x) < openN v := by
  have h2 := open_at hg h1 hl h
  have hk : (x / 2).toNat < v.length := by omega
  have he : v.getD (x / 2).toNat 0 = v[(x / 2).toNat] := by simp [List.getD, hk]
  rw [he] at h2
  unfold openN setV
  have hp : (v.countP fun a => !decide (a = 0 ∨ a = 1)) ≥ 1 := List.countP_pos_iff.2 ⟨v[(x / 2).toNat], List.getElem_mem hk, by simp only [decide_eq_false h2]; rfl⟩
  rw [List.countP_set hk]
  have e1 : (!decide (v[(x / 2).toNat] = 0 ∨ v[(x / 2).toNat] = 1)) = true := by rw [decide_eq_false h2]; rfl
  have e2 : (!decide ((if x % 2 = 1 then (0 : Int) else 1) = 0 ∨ (if x % 2 = 1 then (0 : Int) else 1) = 1)) = false := by split <;> decide
  rw [if_pos e1, if_neg (by rw [e2]; exact Bool.false_ne_true)]
  omega
theorem setV_len (v : List Int) (x : Int) : (setV v x).length = v.length := by simp [setV]
theorem pass_done : ∀ (cs : List (List Int)) (v : List Int) (m : Bool) (v' : List Int), passP v cs m = some (v', false) → m = false ∧ v' = v ∧ ∀ c ∈ cs, Clo (litV v) c
  | [], v, m, v', h => by
    injection h with h
    injection h with h1 h2
    exact ⟨h2, h1.symm, fun c hc => absurd hc List.not_mem_nil⟩
  | c :: cs, v, m, v', h => by
    unfold passP at h
    by_cases h1 : valG (litV v) 0 c = 0
    · rw [if_pos h1] at h; cases h
    · rw [if_neg h1] at h
      by_cases h2 : 1 < uOf v c
      · rw [if_pos h2] at h
        have := (pass_done cs _ _ _ h).1
        cases this
      · rw [if_neg h2] at h
        obtain ⟨a, b, d⟩ := pass_done cs _ _ _ h
        refine ⟨a, b, fun y hy => ?_⟩
        rcases List.mem_cons.1 hy with rfl | hy
        · exact ⟨h1, h2⟩
        · exact d y hy
theorem units_done {cs : List (List Int)} {v : List Int} {r : Option (List Int)} (h : UnitsIs cs v r) : ∀ out, r = some out → ∀ c ∈ cs, Clo (litV out) c := by
  induction h with
  | no h => intro out e; cases e
  | done h => intro out e; injection e with e; subst e; obtain ⟨_, e, h2⟩ := pass_done _ _ _ _ h; rw [e]; exact h2
  | more h h2 ih => exact ih
/-- a pass so far -/
def passTo (v : List Int) (m : Bool) (cs : List (List Int)) (k : Nat) (cur : List Int) (m' : Bool) : Prop := passP v cs m = passP cur (cs.drop k) m'
theorem pass_zero (v : List Int) (m : Bool) (cs : List (List Int)) : passTo v m cs 0 v m := rfl
section
variable {v cur : List Int} {m m' : Bool} {cs : List (List Int)} {k : Nat} {c : List Int}
theorem drop_at (hc : cs[k]? = some c) : cs.drop k = c :: cs.drop (k + 1) := by
  obtain ⟨h, e⟩ := List.getElem?_eq_some_iff.1 hc
  rw [List.drop_eq_getElem_cons h, e]
theorem pass_no (h : passTo v m cs k cur m') (hc : cs[k]? = some c) (h0 : valG (litV cur) 0 c = 0) : passP v cs m = none := by
  rw [show passP v cs m = passP cur (cs.drop k) m' from h, drop_at hc]; unfold passP; rw [if_pos h0]
theorem pass_set (h : passTo v m cs k cur m') (hc : cs[k]? = some c) (h0 : ¬ valG (litV cur) 0 c = 0) (h1 : 1 < uOf cur c) : passTo v m cs (k + 1) (setV cur (uOf cur c)) true := by
  unfold passTo; rw [show passP v cs m = passP cur (cs.drop k) m' from h, drop_at hc]; rw [passP, if_neg h0, if_pos h1]
theorem pass_next (h : passTo v m cs k cur m') (hc : cs[k]? = some c) (h0 : ¬ valG (litV cur) 0 c = 0) (h1 : ¬ 1 < uOf cur c) : passTo v m cs (k + 1) cur m' := by
  unfold passTo; rw [show passP v cs m = passP cur (cs.drop k) m' from h, drop_at hc]; rw [passP, if_neg h0, if_neg h1]
theorem pass_end (h : passTo v m cs k cur m') (hk : k = cs.length) : passP v cs m = some (cur, m') := by
  rw [show passP v cs m = passP cur (cs.drop k) m' from h, hk, List.drop_length]; rfl
end
theorem val_not {V : Int → Int} : ∀ (c : List Int) (out : Int), out ≠ 1 → (∀ x ∈ c, V x ≠ 1) → valG V out c ≠ 1
  | [], out, h, _ => h
  | x :: c, out, h, hx => by
    unfold valG
    rw [if_neg (hx x List.mem_cons_self)]
    exact val_not c _ (by split <;> omega) (fun y hy => hx y (List.mem_cons_of_mem _ hy))
end Go.Proofs.Ytcjoohaagdihlaa.Learn
