/- The last of a fault's names: the plain words. -/
import Derived.Test.YtcjoohaagdihlaaDoorFault8
namespace Go.Proofs.YtcjoohaagdihlaaDoor.Fault
open Go.RowKit Go.Lt Go.Proofs.YtcjoohaagdihlaaDoor.Lit Go.Instr
set_option linter.unusedVariables false
set_option linter.unusedSimpArgs false

/-- every use is by a later gate, at pin 1 or 2 -/
def Later (n : Nat) (os : List Oc) : Prop := ∀ o ∈ os, o.k < o.f.v ∧ o.f.v ≤ n ∧ (o.f.p = 1 ∨ o.f.p = 2) ∧ o.f.o = false
theorem occs_later {l : List Nd} (h : GoodNet l) : Later l.length (occs l l.length) := by
  intro o ho
  unfold occs at ho
  rw [List.mem_flatMap] at ho
  obtain ⟨i, hi, ho⟩ := ho
  rw [List.mem_range] at hi
  have hx : l[i]? = some (l.getD i ⟨0, 0⟩) := by simp [List.getD_eq_getElem?_getD, hi]
  have hg := h i _ hx
  generalize l.getD i ⟨0, 0⟩ = x at hx hg ho
  unfold occNode at ho
  split at ho
  · simp at ho
  · obtain ⟨h1, h2, h3⟩ := hg (by omega)
    simp only [List.mem_cons, List.not_mem_nil, or_false] at ho
    rcases ho with rfl | rfl <;> simp <;> omega
def rank (n : Nat) (f : Ft) : Nat := 2 * ((n : Int) + 1 - f.v).toNat + (if 0 < f.p then 1 else 0)
theorem lastO_mem {os : List Oc} {v : Int} {u : Oc} (h : lastO os v = some u) : u ∈ os ∧ u.k = v := by
  unfold lastO at h
  have := List.mem_filter.1 (List.mem_of_getLast? h)
  exact ⟨this.1, by simpa using this.2⟩
theorem name_falls {n : Nat} {os : List Oc} (hl : Later n os) (outs : List Int) (f : Ft) (h : (nameF os outs f).2 = true) : rank n (nameF os outs f).1 < rank n f := by
  unfold nameF at h ⊢
  split
  · next h1 =>
    unfold rank
    simp only
    rw [if_neg (by omega), if_pos h1.1]
    omega
  · next h1 =>
    rw [if_neg h1] at h
    split
    · next h2 =>
      rw [if_pos h2] at h
      cases hu : lastO os f.v with
      | none => simp [hu] at h
      | some u =>
        obtain ⟨hm, hk⟩ := lastO_mem hu
        obtain ⟨a, b, c, _⟩ := hl u hm
        simp only
        unfold rank
        simp only
        rw [if_neg (show ¬ 0 < f.p by omega), if_pos (show 0 < u.f.p by omega)]
        omega
    · next h2 =>
      rw [if_neg h2] at h
      simp at h
def iterF (os : List Oc) (outs : List Int) : Nat → Ft → Ft
  | 0, f => f
  | n + 1, f => if (nameF os outs f).2 = true then iterF os outs n (nameF os outs f).1 else f
theorem iterF_more {n : Nat} {os : List Oc} (hl : Later n os) (outs : List Int) : ∀ (a b : Nat) (f : Ft), rank n f ≤ a → rank n f ≤ b → iterF os outs a f = iterF os outs b f := by
  intro a
  induction a with
  | zero =>
    intro b f ha hb
    cases b with
    | zero => rfl
    | succ b =>
      unfold iterF
      split
      · next h => have := name_falls hl outs f h; omega
      · rfl
  | succ a ih =>
    intro b f ha hb
    cases b with
    | zero =>
      unfold iterF
      split
      · next h => have := name_falls hl outs f h; omega
      · rfl
    | succ b =>
      unfold iterF
      split
      · next h =>
        have := name_falls hl outs f h
        exact ih b _ (by omega) (by omega)
      · rfl
/-- the last of a fault's names -/
def lastF (n : Nat) (os : List Oc) (outs : List Int) (f : Ft) : Ft := iterF os outs (rank n f) f
theorem lastF_step {n : Nat} {os : List Oc} (hl : Later n os) (outs : List Int) (f : Ft) (h : (nameF os outs f).2 = true) : lastF n os outs f = lastF n os outs (nameF os outs f).1 := by
  have hlt := name_falls hl outs f h
  unfold lastF
  rw [iterF_more hl outs (rank n f) (rank n f + 1) f (by omega) (by omega)]
  rw [iterF, if_pos h]
  exact iterF_more hl outs _ _ _ (by omega) (by omega)
theorem lastF_end {n : Nat} {os : List Oc} (hl : Later n os) (outs : List Int) (f : Ft) (h : (nameF os outs f).2 = false) : lastF n os outs f = f := by
  unfold lastF
  rw [iterF_more hl outs (rank n f) (rank n f + 1) f (by omega) (by omega)]
  rw [iterF, if_neg (by simp [h])]
/-- the names that stand in a list, each once, in the order in which each is first met -/
def addF (xs : List Ft) (g : Ft) : List Ft := if g ∈ xs then xs else xs ++ [g]
def collF (n : Nat) (os : List Oc) (outs : List Int) (fs : List Ft) : List Ft := (fs.map (lastF n os outs)).foldl addF []
theorem collF_snoc (n : Nat) (os : List Oc) (outs : List Int) (fs : List Ft) (f : Ft) : collF n os outs (fs ++ [f]) = addF (collF n os outs fs) (lastF n os outs f) := by
  unfold collF
  rw [List.map_append, List.foldl_append]
  rfl
theorem addF_len (xs : List Ft) (g : Ft) : (addF xs g).length ≤ xs.length + 1 := by
  unfold addF
  split <;> simp
theorem collF_len (n : Nat) (os : List Oc) (outs : List Int) (fs : List Ft) : (collF n os outs fs).length ≤ fs.length := by
  suffices h : ∀ k, (collF n os outs (fs.take k)).length ≤ (fs.take k).length by
    have := h fs.length
    rwa [List.take_length] at this
  intro k
  induction k with
  | zero => simp [collF]
  | succ k ih =>
    by_cases hk : k < fs.length
    · rw [List.take_succ_eq_append_getElem hk, collF_snoc]
      have := addF_len (collF n os outs (fs.take k)) (lastF n os outs fs[k])
      simp only [List.length_append, List.length_cons, List.length_nil]
      omega
    · rw [List.take_of_length_le (by omega)]
      rw [List.take_of_length_le (by omega)] at ih
      exact ih
end Go.Proofs.YtcjoohaagdihlaaDoor.Fault
