/- Numbers in decimal digits: the plain laws, no program in sight. -/
import Derived.Lib.ItoaNum
import Derived.Lib.Atoi
namespace Go.Proofs.YtcjoohaagdihlaaDoor.Dec
open Go
set_option linter.unusedVariables false
set_option linter.unusedSimpArgs false

theorem snoc_ind {α : Type} {P : List α → Prop} (nil : P []) (append_singleton : ∀ l c, P l → P (l ++ [c])) (l : List α) : P l := by
  have h : ∀ r : List α, P r.reverse := by
    intro r
    induction r with
    | nil => exact nil
    | cons a r ih => rw [List.reverse_cons]; exact append_singleton _ _ ih
  have := h l.reverse
  rwa [List.reverse_reverse] at this
def isD (c : UInt8) : Bool := decide (48 ≤ c.toNat ∧ c.toNat ≤ 57)
theorem isD_iff {c : UInt8} : isD c = true ↔ 48 ≤ c.toNat ∧ c.toNat ≤ 57 := by simp [isD]
/-- how many digits stand ahead -/
def dlen (l : List UInt8) : Nat := (l.takeWhile isD).length
/-- what digits spell -/
def decV (l : List UInt8) : Nat := l.foldl (fun a c => 10 * a + (c.toNat - 48)) 0
theorem decV_snoc (l : List UInt8) (c : UInt8) : decV (l ++ [c]) = 10 * decV l + (c.toNat - 48) := by unfold decV; rw [List.foldl_append]; rfl
theorem dlen_le (l : List UInt8) : dlen l ≤ l.length := by
  unfold dlen; exact (List.takeWhile_prefix isD).length_le
theorem take_dlen (l : List UInt8) : l.take (dlen l) = l.takeWhile isD := by
  unfold dlen
  induction l with
  | nil => rfl
  | cons a l ih =>
    rw [List.takeWhile_cons]
    split
    · rw [List.length_cons, List.take_succ_cons, ih]
    · rfl
theorem dlen_all (l : List UInt8) : ∀ c ∈ l.take (dlen l), isD c = true := by
  rw [take_dlen]
  intro c hc
  exact List.all_eq_true.1 List.all_takeWhile c hc
theorem dlen_of (l : List UInt8) (k : Nat) (h : ∀ c ∈ l.take k, isD c = true) (hk : k ≤ l.length) (hs : ∀ c, l[k]? = some c → isD c = false) : dlen l = k := by
  induction l generalizing k with
  | nil => simp at hk; subst hk; rfl
  | cons a l ih =>
    cases k with
    | zero =>
      have := hs a rfl
      unfold dlen
      rw [List.takeWhile_cons, if_neg (by rw [this]; simp)]; rfl
    | succ k =>
      have h1 := h a (by simp)
      have h2 := ih k (fun c hc => h c (by simp [hc])) (by simpa using hk) (fun c hc => hs c (by simpa using hc))
      unfold dlen at h2 ⊢
      rw [List.takeWhile_cons, if_pos h1, List.length_cons, h2]
theorem decV_lt (l : List UInt8) (h : ∀ c ∈ l, isD c = true) : decV l < 10 ^ l.length := by
  induction l using snoc_ind with
  | nil => simp [decV]
  | append_singleton l c ih =>
    have h1 := ih fun c hc => h c (by simp [hc])
    have h2 := isD_iff.1 (h c (by simp))
    rw [decV_snoc, List.length_append, List.length_singleton, Nat.pow_succ]
    omega
theorem decV_pos (l : List UInt8) (hl : l ≠ []) (h : ∀ c ∈ l, isD c = true) (h0 : l.head? ≠ some 48) : 1 ≤ decV l := by
  induction l using snoc_ind with
  | nil => exact absurd rfl hl
  | append_singleton l c ih =>
    rw [decV_snoc]
    by_cases hn : l = []
    · subst hn
      have h2 := isD_iff.1 (h c (by simp))
      have h3 : c.toNat ≠ 48 := by
        intro e
        apply h0
        have : c = 48 := UInt8.toNat_inj.1 e
        simp [this]
      simp only [decV, List.foldl_nil]
      omega
    · have h1 := ih hn (fun c hc => h c (by simp [hc])) (by
        intro e
        apply h0
        cases l with
        | nil => cases e
        | cons a l => simpa using e)
      omega
theorem digit_of (d : Nat) (h : d < 10) : (UInt8.ofNat (48 + d)).toNat = 48 + d := by
  rw [UInt8.toNat_ofNat']; omega
theorem digit_back (c : UInt8) (h : isD c = true) : UInt8.ofNat (48 + (c.toNat - 48)) = c := by
  have h2 := isD_iff.1 h
  apply UInt8.toNat_inj.1
  rw [digit_of _ (by omega)]
  omega
/-- digits are what they spell, in digits -/
theorem dec_back (l : List UInt8) (hl : l ≠ []) (h : ∀ c ∈ l, isD c = true) (h0 : l.head? = some 48 → l.length = 1) : Lib.decDigits (decV l) = l := by
  induction l using snoc_ind with
  | nil => exact absurd rfl hl
  | append_singleton l c ih =>
    have hc := h c (by simp)
    have h2 := isD_iff.1 hc
    rw [decV_snoc]
    by_cases hn : l = []
    · subst hn
      rw [show decV [] = 0 from rfl, Lib.decDigits_one (by omega), show 10 * 0 + (c.toNat - 48) = c.toNat - 48 by omega, digit_back c hc]
      rfl
    · have hh : l.head? ≠ some 48 := by
        intro e
        have := h0 (by
          cases l with
          | nil => cases e
          | cons a l => simpa using e)
        rw [List.length_append, List.length_singleton] at this
        exact hn (List.eq_nil_of_length_eq_zero (by omega))
      have hd : ∀ c ∈ l, isD c = true := fun c hc => h c (by simp [hc])
      have hp := decV_pos l hn hd hh
      rw [Lib.decDigits, dif_neg (by omega), show (10 * decV l + (c.toNat - 48)) / 10 = decV l by omega, show (10 * decV l + (c.toNat - 48)) % 10 = c.toNat - 48 by omega, digit_back c hc,
        ih hn hd (fun e => absurd e hh)]
theorem dec_digits (u : Nat) : ∀ c ∈ Lib.decDigits u, isD c = true := by
  induction u using Nat.strongRecOn with
  | _ u ih =>
    rw [Lib.decDigits]
    split
    · rename_i h
      intro c hc
      rw [List.mem_singleton] at hc
      subst hc
      rw [isD_iff, digit_of _ h]; omega
    · rename_i h
      intro c hc
      rw [List.mem_append, List.mem_singleton] at hc
      rcases hc with hc | rfl
      · exact ih (u / 10) (by omega) c hc
      · rw [isD_iff, digit_of _ (by omega)]; omega
theorem dec_ne (u : Nat) : Lib.decDigits u ≠ [] := by
  rw [Lib.decDigits]
  split <;> simp
theorem decV_dec (u : Nat) : decV (Lib.decDigits u) = u := by
  induction u using Nat.strongRecOn with
  | _ u ih =>
    rw [Lib.decDigits]
    split
    · rename_i h
      simp only [decV, List.foldl_cons, List.foldl_nil, digit_of _ h]
      omega
    · rename_i h
      rw [decV_snoc, ih (u / 10) (by omega), digit_of _ (by omega)]
      omega
theorem dec_head (u : Nat) : (Lib.decDigits u).head? = some 48 → u = 0 := by
  induction u using Nat.strongRecOn with
  | _ u ih =>
    rw [Lib.decDigits]
    split
    · rename_i h
      intro e
      have e : UInt8.ofNat (48 + u) = 48 := by simpa using e
      have := congrArg UInt8.toNat e
      rw [digit_of _ h] at this
      have h48 : (48 : UInt8).toNat = 48 := rfl
      omega
    · rename_i h
      intro e
      have : (Lib.decDigits (u / 10)).head? = some 48 := by
        cases hd : Lib.decDigits (u / 10) with
        | nil => exact absurd hd (dec_ne _)
        | cons a l => rw [hd] at e; simpa using e
      have := ih (u / 10) (by omega) this
      omega
theorem dec_len (k u : Nat) (h : u < 10 ^ (k + 1)) : (Lib.decDigits u).length ≤ k + 1 := by
  induction k generalizing u with
  | zero => rw [Lib.decDigits, dif_pos (by simpa using h)]; simp
  | succ k ih =>
    rw [Lib.decDigits]
    split
    · simp
    · rw [List.length_append, List.length_singleton]
      have := ih (u / 10) (by rw [Nat.pow_succ] at h; omega)
      omega
/-- the number whose digits stand at the head: it, its end, an error's number -/
def natR (l : List UInt8) : Nat × Nat × Nat :=
  if l = [] then (0, 0, 3)
  else if dlen l = 0 ∨ (l.head? = some 48 ∧ 1 < dlen l) then (0, 0, 2)
  else if 9 < dlen l then (0, 0, 5)
  else (decV (l.take (dlen l)), dlen l, 0)
theorem natR_lt (l : List UInt8) : (natR l).1 < 1000000000 ∧ (natR l).2.1 ≤ 9 ∧ (natR l).2.2 ≤ 5 := by
  unfold natR
  split
  · simp
  split
  · simp
  split
  · simp
  · rename_i h
    refine ⟨?_, by simpa using h, by simp⟩
    have h1 := decV_lt _ (dlen_all l)
    have h2 : (l.take (dlen l)).length ≤ 9 := by rw [List.length_take]; omega
    exact Nat.lt_of_lt_of_le h1 (Nat.le_trans (Nat.pow_le_pow_right (by omega) h2) (by decide))
theorem dlen_full (l : List UInt8) (h : ∀ c ∈ l, isD c = true) : dlen l = l.length :=
  dlen_of l l.length (fun c hc => h c (List.mem_of_mem_take hc)) (Nat.le_refl _) (fun c hc => by rw [List.getElem?_eq_none (Nat.le_refl _)] at hc; cases hc)
theorem natR_dec (u : Nat) (h : u < 1000000000) : natR (Lib.decDigits u) = (u, (Lib.decDigits u).length, 0) := by
  have hl := dlen_full _ (dec_digits u)
  have h9 : (Lib.decDigits u).length ≤ 9 := dec_len 8 u (by omega)
  have hne := dec_ne u
  have hpos : 0 < (Lib.decDigits u).length := List.length_pos_iff.2 hne
  unfold natR
  rw [if_neg hne, if_neg, if_neg (by omega), hl, List.take_length, decV_dec]
  rw [hl]
  rintro (h1 | ⟨h1, h2⟩)
  · omega
  · have := dec_head u h1
    subst this
    rw [Lib.decDigits_one (by omega)] at h2
    simp at h2
/-- a whole text of digits that is a number is that number's digits -/
theorem natR_back (l : List UInt8) (h0 : (natR l).2.2 = 0) (h1 : (natR l).2.1 = l.length) : Lib.decDigits (natR l).1 = l := by
  unfold natR at h0 h1 ⊢
  split at h0
  · cases h0
  split at h0
  · cases h0
  split at h0
  · cases h0
  · rename_i a b c
    rw [if_neg a, if_neg b, if_neg c] at h1 ⊢
    simp only at h1 ⊢
    have hd := dlen_all l
    rw [h1, List.take_length] at hd
    rw [h1, List.take_length]
    refine dec_back l a hd fun e => ?_
    have : ¬ 1 < dlen l := fun h => b (.inr ⟨e, h⟩)
    have : l.length ≠ 0 := fun h => a (List.eq_nil_of_length_eq_zero h)
    omega
theorem decFrom_digits (l : List UInt8) (h : ∀ c ∈ l, isD c = true) : ∀ a, Lib.decFrom a l = some (l.foldl (fun a c => 10 * a + (c.toNat - 48)) a) := by
  induction l with
  | nil => intro a; rfl
  | cons c l ih =>
    intro a
    have h2 := isD_iff.1 (h c (by simp))
    have hv : Lib.digitVal c = some (c.toNat - 48) := by
      unfold Lib.digitVal
      rw [if_pos h2]
    rw [Lib.decFrom, hv]
    simp only [List.foldl_cons]
    rw [← ih (fun c hc => h c (by simp [hc])), Nat.mul_comm a 10]
theorem atoi_digits (l : List UInt8) (hl : l ≠ []) (h : ∀ c ∈ l, isD c = true) : Lib.atoi l = some (decV l : Int) := by
  cases l with
  | nil => exact absurd rfl hl
  | cons c r =>
    have h2 := isD_iff.1 (h c (by simp))
    have e1 : (c == 45) = false := by
      rw [beq_eq_false_iff_ne]; rintro rfl; have : (45 : UInt8).toNat = 45 := rfl; omega
    have e2 : (c == 43) = false := by
      rw [beq_eq_false_iff_ne]; rintro rfl; have : (43 : UInt8).toNat = 43 := rfl; omega
    unfold Lib.atoi
    simp only [e1, e2]
    unfold Lib.decNat
    simp only [List.isEmpty_cons]
    rw [decFrom_digits _ h]
    rfl
end Go.Proofs.YtcjoohaagdihlaaDoor.Dec
