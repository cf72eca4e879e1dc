/- Whether literals are tied, and cubes in order: the plain laws, no program in sight. -/
import Derived.Test.YtcjoohaagdihlaaLit2
import Derived.Test.YtcjoohaagdihlaaSorted1
namespace Go.Proofs.Ytcjoohaagdihlaa.Sorted
open Go.RowKit Go.Lt Go.Proofs.Ytcjoohaagdihlaa.Lit
set_option linter.unusedVariables false
set_option linter.unusedSimpArgs false

theorem rise_idem {s : List Int} (h : Rise s) : srt s = s := rise_one (srt_rise s) h (fun y => srt_mem)
theorem srt_srt (l : List Int) : srt (srt l) = srt l := rise_idem (srt_rise l)
/-- whether a literal and its inverse are among some -/
def tiedB (l : List Int) : Bool := l.any fun x => litGood x && hasB l (litNot x)
theorem any_congr {α : Type} {f g : α → Bool} {a b : List α} (h : ∀ x, x ∈ a ↔ x ∈ b) (hf : ∀ x, f x = g x) : a.any f = b.any g := by
  rw [Bool.eq_iff_iff, List.any_eq_true, List.any_eq_true]
  constructor
  · rintro ⟨x, h1, h2⟩; exact ⟨x, (h x).1 h1, by rw [← hf]; exact h2⟩
  · rintro ⟨x, h1, h2⟩; exact ⟨x, (h x).2 h1, by rw [hf]; exact h2⟩
theorem hasB_congr {a b : List Int} (h : ∀ x, x ∈ a ↔ x ∈ b) (x : Int) : hasB a x = hasB b x := by
  rw [Bool.eq_iff_iff, has_iff, has_iff]; exact h x
theorem tiedB_srt (l : List Int) : tiedB (srt l) = tiedB l :=
  any_congr (fun x => srt_mem) fun x => by rw [hasB_congr (fun y => srt_mem)]
/-- two that stand one behind the other, and are one variable's -/
def Adj (s : List Int) (i : Nat) : Prop := ∃ y x, s[i]? = some y ∧ s[i + 1]? = some x ∧ litNeg x = true ∧ y = x - 1
theorem neg_iff {x : Int} : litNeg x = true ↔ (0 ≤ x ∧ x ≤ 33554433) ∧ x % 2 = 1 := by
  unfold litNeg; rw [Bool.and_eq_true, good_iff, decide_eq_true_iff]
theorem adj_tied {s : List Int} {i : Nat} (h : Adj s i) : tiedB s = true := by
  obtain ⟨y, x, hy, hx, hn, rfl⟩ := h
  obtain ⟨hg, h2⟩ := neg_iff.1 hn
  unfold tiedB
  rw [List.any_eq_true]
  refine ⟨x, List.mem_of_getElem? hx, ?_⟩
  rw [Bool.and_eq_true, good_iff, has_iff]
  refine ⟨hg, ?_⟩
  unfold litNot
  rw [if_pos (good_iff.2 hg), if_pos h2]
  exact List.mem_of_getElem? hy
theorem rise_get {s : List Int} (h : Rise s) {i j : Nat} {x y : Int} (hij : i < j) (hx : s[i]? = some x) (hy : s[j]? = some y) : x < y := by
  obtain ⟨h1, e1⟩ := List.getElem?_eq_some_iff.1 hx
  obtain ⟨h2, e2⟩ := List.getElem?_eq_some_iff.1 hy
  rw [← e1, ← e2]
  exact List.pairwise_iff_getElem.1 h i j h1 h2 hij
/-- a number and the next one stand side by side in order -/
theorem rise_next {s : List Int} (h : Rise s) {x : Int} (h1 : x - 1 ∈ s) (h2 : x ∈ s) : ∃ i, s[i]? = some (x - 1) ∧ s[i + 1]? = some x := by
  obtain ⟨i, hi⟩ := List.getElem?_of_mem h1
  obtain ⟨j, hj⟩ := List.getElem?_of_mem h2
  have hlt : i < j := by
    rcases Nat.lt_trichotomy i j with h3 | h3 | h3
    · exact h3
    · subst h3; rw [hi] at hj; injection hj with hj; omega
    · have := rise_get h h3 hj hi; omega
  refine ⟨i, hi, ?_⟩
  rcases Nat.lt_or_ge (i + 1) j with h3 | h3
  · have hlj := (List.getElem?_eq_some_iff.1 hj).1
    have hz : s[i + 1]? = some (s[i + 1]'(by omega)) := List.getElem?_eq_getElem _
    have h4 := rise_get h (Nat.lt_succ_self i) hi hz
    have h5 := rise_get h h3 hz hj
    omega
  · have : j = i + 1 := by omega
    rw [← this]; exact hj
theorem tied_adj {s : List Int} (hs : Rise s) (h : tiedB s = true) : ∃ i, Adj s i := by
  unfold tiedB at h
  rw [List.any_eq_true] at h
  obtain ⟨x, hx, h⟩ := h
  rw [Bool.and_eq_true, good_iff, has_iff] at h
  obtain ⟨hg, hm⟩ := h
  unfold litNot at hm
  rw [if_pos (good_iff.2 hg)] at hm
  split at hm
  · rename_i h2
    obtain ⟨i, h3, h4⟩ := rise_next hs hm hx
    exact ⟨i, _, _, h3, h4, neg_iff.2 ⟨hg, h2⟩, rfl⟩
  · rename_i h2
    obtain ⟨i, h3, h4⟩ := rise_next hs (x := x + 1) (by rw [show x + 1 - 1 = x by omega]; exact hx) hm
    exact ⟨i, _, _, h3, h4, neg_iff.2 ⟨by omega, by omega⟩, rfl⟩
theorem tied_no {s : List Int} (hs : Rise s) (h : ∀ i, i + 1 < s.length → ¬ Adj s i) : tiedB s = false := by
  cases ht : tiedB s
  · rfl
  · obtain ⟨i, ha⟩ := tied_adj hs ht
    refine absurd ha (h i ?_)
    obtain ⟨_, x, _, hx, _⟩ := ha
    exact (List.getElem?_eq_some_iff.1 hx).1

/-- whether numbers are a cube -/
def inR (x : Int) : Bool := decide (0 ≤ x ∧ x ≤ 4001)
def normB (c : List Int) : Bool := (srt c).all inR && !tiedB (srt c)
theorem inR_iff {x : Int} : inR x = true ↔ 0 ≤ x ∧ x ≤ 4001 := by simp [inR]
/-- what the document asks at a place -/
def BadAt (s : List Int) (i : Nat) : Prop := ∃ x, s[i]? = some x ∧ (x < 0 ∨ 4001 < x ∨ ∃ j y, i = j + 1 ∧ s[j]? = some y ∧ x / 2 = y / 2)
theorem norm_bad {c : List Int} {i : Nat} (h : BadAt (srt c) i) (h0 : ∀ y ∈ (srt c).take i, inR y = true) : normB c = false := by
  obtain ⟨x, hx, h⟩ := h
  unfold normB
  rw [Bool.and_eq_false_iff]
  by_cases hr : inR x = true
  · right
    rcases h with h | h | ⟨j, y, rfl, hy, he⟩
    · have := inR_iff.1 hr; omega
    · have := inR_iff.1 hr; omega
    · have hlt := rise_get (srt_rise c) (Nat.lt_succ_self j) hy hx
      have := inR_iff.1 hr
      rw [adj_tied (i := j) ⟨y, x, hy, hx, neg_iff.2 ⟨by omega, by omega⟩, by omega⟩]
      rfl
  · left
    rw [List.all_eq_false]
    exact ⟨x, List.mem_of_getElem? hx, hr⟩
theorem norm_good {c : List Int} (h : ∀ i, i < (srt c).length → ¬ BadAt (srt c) i) : normB c = true := by
  unfold normB
  have h1 : ∀ x ∈ srt c, inR x = true := by
    intro x hx
    obtain ⟨i, hi⟩ := List.getElem?_of_mem hx
    rw [inR_iff]
    have := h i (List.getElem?_eq_some_iff.1 hi).1
    refine ⟨Int.not_lt.1 fun hc => this ⟨x, hi, .inl hc⟩, Int.not_lt.1 fun hc => this ⟨x, hi, .inr (.inl hc)⟩⟩
  rw [Bool.and_eq_true, List.all_eq_true]
  refine ⟨h1, ?_⟩
  rw [tied_no (srt_rise c)]
  · rfl
  · rintro i hi ⟨y, x, hy, hx, hn, rfl⟩
    have h2 := (neg_iff.1 hn).2
    exact h (i + 1) hi ⟨x, hx, .inr (.inr ⟨i, x - 1, rfl, hy, by omega⟩)⟩
/-- what the program asks: the first one, the last one, whether two are tied -/
theorem norm_ends {c : List Int} (x y : Int) (hx : (srt c)[0]? = some x) (hy : (srt c)[(srt c).length - 1]? = some y) :
    normB c = (decide (0 ≤ x) && decide (y ≤ 4001) && !tiedB (srt c)) := by
  unfold normB
  congr 1
  rw [Bool.eq_iff_iff, List.all_eq_true, Bool.and_eq_true, decide_eq_true_iff, decide_eq_true_iff]
  constructor
  · intro h
    exact ⟨(inR_iff.1 (h x (List.mem_of_getElem? hx))).1, (inR_iff.1 (h y (List.mem_of_getElem? hy))).2⟩
  · rintro ⟨h1, h2⟩ z hz
    obtain ⟨i, hi⟩ := List.getElem?_of_mem hz
    have hil := (List.getElem?_eq_some_iff.1 hi).1
    rw [inR_iff]
    constructor
    · rcases Nat.eq_zero_or_pos i with h3 | h3
      · subst h3; rw [hx] at hi; injection hi with hi; omega
      · have := rise_get (srt_rise c) h3 hx hi; omega
    · rcases Nat.lt_or_ge i ((srt c).length - 1) with h3 | h3
      · have := rise_get (srt_rise c) h3 hi hy; omega
      · have : i = (srt c).length - 1 := by omega
        subst this; rw [hy] at hi; injection hi with hi; omega
theorem norm_nil {c : List Int} (h : srt c = []) : normB c = true := by unfold normB; rw [h]; rfl
end Go.Proofs.Ytcjoohaagdihlaa.Sorted
