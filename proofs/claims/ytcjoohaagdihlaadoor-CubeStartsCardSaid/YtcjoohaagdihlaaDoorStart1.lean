/- First states in a cube: the plain law, no program in sight. -/
import Derived.Test.YtcjoohaagdihlaaDoorCubeHas
namespace Go.Proofs.YtcjoohaagdihlaaDoor.CubeStart
open Go.RowKit Go.Lt Go.Proofs.YtcjoohaagdihlaaDoor.Lit Go.Proofs.YtcjoohaagdihlaaDoor.CubeHas
set_option linter.unusedVariables false
set_option linter.unusedSimpArgs false

/-- what a latch is in the first state of a cube, by its reset -/
def startB (r : Int) (c : List Int) (i : Nat) : Bool := decide (r = 1) || (decide (1 < r) && hasB c (2 * (i : Int)))
def startN (rs c : List Int) (k : Nat) : List Bool := (List.range k).map fun i => startB (rs.getD i 0) c i
def startS (rs c : List Int) : List Bool := startN rs c rs.length
theorem startN_succ (rs c : List Int) (k : Nat) : startN rs c (k + 1) = startN rs c k ++ [startB (rs.getD k 0) c k] := by
  unfold startN; rw [List.range_succ, List.map_append]; rfl
theorem startN_len (rs c : List Int) (k : Nat) : (startN rs c k).length = k := by simp [startN]
theorem startN_get (rs c : List Int) (k i : Nat) (h : i < k) : (startN rs c k)[i]? = some (startB (rs.getD i 0) c i) := by
  unfold startN
  rw [List.getElem?_map, List.getElem?_range h]; rfl
/-- whether a latch may be so at first -/
def okB (r : Int) (x : Bool) : Bool := !(decide (r = 0) && x || decide (r = 1) && !x)
def startsB (rs : List Int) (b : List Bool) : Bool := decide (b.length = rs.length) && (List.range rs.length).all fun i => okB (rs.getD i 0) (b.getD i false)
def bitsOf : Nat → Nat → List Bool
  | _, 0 => []
  | n, m + 1 => decide (n % 2 = 1) :: bitsOf (n / 2) m
theorem bitsOf_len (m : Nat) : ∀ n, (bitsOf n m).length = m := by
  induction m with
  | zero => intro n; rfl
  | succ m ih => intro n; simp [bitsOf, ih]
theorem bits_all (b : List Bool) : ∃ n, n < 2 ^ b.length ∧ bitsOf n b.length = b := by
  induction b with
  | nil => exact ⟨0, by simp, rfl⟩
  | cons x b ih =>
    obtain ⟨n, hn, h⟩ := ih
    refine ⟨2 * n + (if x then 1 else 0), ?_, ?_⟩
    · rw [List.length_cons, Nat.pow_succ]; split <;> omega
    · rw [List.length_cons, bitsOf]
      have h1 : (2 * n + (if x then 1 else 0)) / 2 = n := by split <;> omega
      rw [h1, h]
      congr 1
      cases x
      · simp
      · simp
theorem inS_pos {s : List Bool} {x : Int} (h : inS s x = true) : 0 ≤ x ∧ s[(x / 2).toNat]? = some (decide (x % 2 = 0)) := by
  unfold inS at h
  simpa using h
theorem start_first (rs c : List Int) (hr : ∀ r ∈ rs, 0 ≤ r) (b : List Bool) (h1 : startsB rs b = true) (h2 : hasS c b = true) : hasS c (startS rs c) = true := by
  unfold startsB at h1
  rw [Bool.and_eq_true, decide_eq_true_iff, List.all_eq_true] at h1
  obtain ⟨hl, hall⟩ := h1
  unfold hasS at h2 ⊢
  rw [List.all_eq_true] at h2 ⊢
  intro x hx
  obtain ⟨h0, hb⟩ := inS_pos (h2 x hx)
  have hi : (x / 2).toNat < b.length := (List.getElem?_eq_some_iff.1 hb).1
  unfold inS
  rw [Bool.and_eq_true, decide_eq_true_iff, decide_eq_true_iff]
  refine ⟨h0, ?_⟩
  unfold startS
  rw [startN_get _ _ _ _ (by omega)]
  congr 1
  have hk := hall (x / 2).toNat (List.mem_range.2 (by omega))
  rw [List.getD_eq_getElem?_getD, List.getD_eq_getElem?_getD, hb] at hk
  have hrr : 0 ≤ rs.getD (x / 2).toNat 0 := by
    rw [List.getD_eq_getElem?_getD, List.getElem?_eq_getElem (by omega)]
    exact hr _ (List.getElem_mem _)
  rw [← List.getD_eq_getElem?_getD] at hk
  generalize rs.getD (x / 2).toNat 0 = r at *
  simp only [Option.getD_some] at hk
  have he : (2 * (((x / 2).toNat : Nat) : Int)) = x - x % 2 := by omega
  unfold startB
  rw [he]
  unfold okB at hk
  by_cases hx2 : x % 2 = 0
  · rw [show decide (x % 2 = 0) = true by simp [hx2]] at hk ⊢
    have hin : hasB c (x - x % 2) = true := has_iff.2 (by rw [hx2]; simpa using hx)
    rw [hin]
    simp at hk ⊢
    omega
  · have hx1 : x % 2 = 1 := by omega
    rw [show decide (x % 2 = 0) = false by simp [hx1]] at hk ⊢
    have hin : hasB c (x - x % 2) = false := by
      cases h : hasB c (x - x % 2)
      · rfl
      · have hm := has_iff.1 h
        obtain ⟨h3, h4⟩ := inS_pos (h2 _ hm)
        rw [show (x - x % 2) / 2 = x / 2 by omega, hb] at h4
        have : decide (x % 2 = 0) = decide ((x - x % 2) % 2 = 0) := Option.some.inj h4
        simp [hx1] at this
        omega
    rw [hin]
    simp at hk ⊢
    omega
theorem start_starts (rs c : List Int) : startsB rs (startS rs c) = true := by
  unfold startsB
  rw [Bool.and_eq_true, decide_eq_true_iff, List.all_eq_true]
  refine ⟨startN_len _ _ _, fun i hi => ?_⟩
  rw [List.mem_range] at hi
  rw [List.getD_eq_getElem?_getD (l := startS rs c)]
  unfold startS
  rw [startN_get _ _ _ _ hi]
  generalize rs.getD i 0 = r
  unfold okB startB
  simp only [Option.getD_some]
  by_cases h0 : r = 0
  · subst h0; simp
  · by_cases h1 : r = 1
    · subst h1; simp
    · simp [h0, h1]
/-- among all states, one that may be first is in the cube just where the first one is -/
theorem any_start (rs c : List Int) (hr : ∀ r ∈ rs, 0 ≤ r) (h8 : rs.length ≤ 8) :
    ((List.range 256).any fun n => startsB rs (bitsOf n rs.length) && hasS c (bitsOf n rs.length)) = hasS c (startS rs c) := by
  rw [Bool.eq_iff_iff, List.any_eq_true]
  constructor
  · rintro ⟨n, _, h⟩
    rw [Bool.and_eq_true] at h
    exact start_first rs c hr _ h.1 h.2
  · intro h
    obtain ⟨n, hn, e⟩ := bits_all (startS rs c)
    have hl : (startS rs c).length = rs.length := startN_len _ _ _
    rw [hl] at hn e
    refine ⟨n, List.mem_range.2 (Nat.lt_of_lt_of_le hn (Nat.pow_le_pow_right (by omega) h8)), ?_⟩
    rw [e, start_starts, h]; rfl
end Go.Proofs.YtcjoohaagdihlaaDoor.CubeStart
