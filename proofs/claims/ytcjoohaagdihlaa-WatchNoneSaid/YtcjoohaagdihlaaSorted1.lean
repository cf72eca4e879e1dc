/- Numbers, rising, each once: the plain laws, no program in sight. -/
import Derived.Shelf.Slices.CompactI
namespace Go.Proofs.Ytcjoohaagdihlaa.Sorted
set_option linter.unusedVariables false
set_option linter.unusedSimpArgs false

/-- a number is put among rising ones -/
def insO (out : List Int) (x : Int) : List Int := if x ∈ out then out else out.filter (· < x) ++ x :: out.filter (x < ·)
/-- numbers, rising, each once -/
def srt (l : List Int) : List Int := l.foldl insO []
def Rise (l : List Int) : Prop := l.Pairwise (· < ·)

theorem insO_mem {out : List Int} {x y : Int} : y ∈ insO out x ↔ y ∈ out ∨ y = x := by
  unfold insO
  split
  · rename_i h
    constructor
    · exact .inl
    · rintro (h1 | rfl)
      · exact h1
      · exact h
  · rename_i h
    simp only [List.mem_append, List.mem_cons, List.mem_filter, decide_eq_true_eq]
    constructor
    · rintro (⟨h1, _⟩ | rfl | ⟨h1, _⟩)
      · exact .inl h1
      · exact .inr rfl
      · exact .inl h1
    · rintro (h1 | rfl)
      · have : y ≠ x := fun e => h (e ▸ h1)
        rcases Int.lt_or_gt_of_ne this with h2 | h2
        · exact .inl ⟨h1, h2⟩
        · exact .inr (.inr ⟨h1, h2⟩)
      · exact .inr (.inl rfl)
theorem insO_rise {out : List Int} {x : Int} (h : Rise out) : Rise (insO out x) := by
  unfold insO
  split
  · exact h
  · unfold Rise
    rw [List.pairwise_append]
    refine ⟨h.filter _, ?_, ?_⟩
    · rw [List.pairwise_cons]
      exact ⟨fun y hy => by simpa using (List.mem_filter.1 hy).2, h.filter _⟩
    · intro a ha b hb
      have ha' : a < x := by simpa using (List.mem_filter.1 ha).2
      rcases List.mem_cons.1 hb with rfl | hb
      · exact ha'
      · have : x < b := by simpa using (List.mem_filter.1 hb).2
        omega
theorem foldl_mem {l out : List Int} {y : Int} : y ∈ l.foldl insO out ↔ y ∈ out ∨ y ∈ l := by
  induction l generalizing out with
  | nil => simp
  | cons a l ih =>
    rw [List.foldl_cons, ih, insO_mem, List.mem_cons, or_assoc]
theorem foldl_rise {l out : List Int} (h : Rise out) : Rise (l.foldl insO out) := by
  induction l generalizing out with
  | nil => exact h
  | cons a l ih => exact ih (insO_rise h)
theorem srt_mem {l : List Int} {y : Int} : y ∈ srt l ↔ y ∈ l := by unfold srt; rw [foldl_mem]; simp
theorem srt_rise (l : List Int) : Rise (srt l) := foldl_rise List.Pairwise.nil
theorem rise_one {a b : List Int} (ha : Rise a) (hb : Rise b) (h : ∀ y, y ∈ a ↔ y ∈ b) : a = b := by
  induction a generalizing b with
  | nil =>
    cases b with
    | nil => rfl
    | cons y b => exact absurd ((h y).2 List.mem_cons_self) (List.not_mem_nil)
  | cons x a ih =>
    cases b with
    | nil => exact absurd ((h x).1 List.mem_cons_self) (List.not_mem_nil)
    | cons y b =>
      obtain ⟨hx, ha'⟩ := List.pairwise_cons.1 ha
      obtain ⟨hy, hb'⟩ := List.pairwise_cons.1 hb
      have hxy : x = y := by
        rcases List.mem_cons.1 ((h x).1 List.mem_cons_self) with e | h1
        · exact e
        · rcases List.mem_cons.1 ((h y).2 List.mem_cons_self) with e | h2
          · exact e.symm
          · have := hx y h2; have := hy x h1; omega
      subst hxy
      congr 1
      refine ih ha' hb' fun z => ?_
      constructor
      · intro hz
        rcases List.mem_cons.1 ((h z).1 (List.mem_cons_of_mem _ hz)) with rfl | h1
        · have := hx _ hz; omega
        · exact h1
      · intro hz
        rcases List.mem_cons.1 ((h z).2 (List.mem_cons_of_mem _ hz)) with rfl | h1
        · have := hy _ hz; omega
        · exact h1
theorem srt_snoc (l : List Int) (x : Int) : srt (l ++ [x]) = insO (srt l) x := by unfold srt; rw [List.foldl_append]; rfl
theorem insO_len (out : List Int) (x : Int) : (insO out x).length ≤ out.length + 1 := by
  unfold insO
  split
  · omega
  · rename_i h
    rw [List.length_append, List.length_cons]
    have : (out.filter (· < x)).length + (out.filter (x < ·)).length ≤ out.length := by
      clear h
      induction out with
      | nil => simp
      | cons a l ih =>
        simp only [List.filter_cons]
        split <;> split <;> simp_all <;> omega
    omega
theorem srt_len (l : List Int) : (srt l).length ≤ l.length := by
  have : ∀ (l out : List Int), (l.foldl insO out).length ≤ out.length + l.length := by
    intro l
    induction l with
    | nil => intro out; simp
    | cons a l ih =>
      intro out
      have h1 := ih (insO out a)
      have h2 := insO_len out a
      simp only [List.foldl_cons, List.length_cons]
      omega
  have h := this l []
  rw [List.length_nil, Nat.zero_add] at h
  exact h

/-! ### What slices.Compact leaves of what slices.Sort leaves -/
theorem upTo_rise (d : List Int) (hs : d.Pairwise (· ≤ ·)) : ∀ m, m ≤ d.length → Rise (Lib.compactUpTo d.toArray m) ∧ (∀ y, y ∈ Lib.compactUpTo d.toArray m ↔ y ∈ d.take m) ∧ (∀ y ∈ d.take m, ∀ z, d[m - 1]? = some z → y ≤ z) := by
  intro m
  induction m with
  | zero => intro _; simp [Lib.compactUpTo, Rise]
  | succ m ih =>
    intro hm
    obtain ⟨h1, h2, h3⟩ := ih (by omega)
    have hx : d[m]? = some (d[m]'(by omega)) := List.getElem?_eq_getElem _
    have hg : d.toArray[m]! = d[m]'(by omega) := by simp [getElem!_pos, show m < d.length by omega]
    have ht : d.take (m + 1) = d.take m ++ [d[m]'(by omega)] := by rw [List.take_add_one, hx]; rfl
    have h4 : ∀ y ∈ d.take (m + 1), y ≤ d[m]'(by omega) := by
      intro y hy
      obtain ⟨i, hi, rfl⟩ := List.getElem_of_mem hy
      have hi' : i < m + 1 := by have := hi; simp at this; omega
      rw [List.getElem_take]
      rcases Nat.lt_or_ge i m with h | h
      · exact List.pairwise_iff_getElem.1 hs i m (by omega) (by omega) h
      · have : i = m := by omega
        subst this; exact Int.le_refl _
    refine ⟨?_, ?_, ?_⟩
    · rw [Lib.compactUpTo_succ]
      by_cases hk : Lib.keeps d.toArray m = true
      · rw [if_pos hk, hg]
        unfold Rise
        rw [List.pairwise_append]
        refine ⟨h1, by simp, ?_⟩
        intro a ha b hb
        have hb : b = d[m]'(by omega) := by simpa using hb
        subst hb
        have ha := (h2 a).1 ha
        have hm0 : 0 < m := by
          rcases Nat.eq_zero_or_pos m with h0 | h0
          · subst h0; simp at ha
          · exact h0
        have hp : d[m - 1]? = some (d[m - 1]'(by omega)) := List.getElem?_eq_getElem _
        have hle := h3 a ha _ hp
        have hle2 : d[m - 1]'(by omega) ≤ d[m]'(by omega) := List.pairwise_iff_getElem.1 hs (m - 1) m (by omega) (by omega) (by omega)
        have hg1 : d.toArray[m - 1]! = d[m - 1]'(by omega) := by simp [getElem!_pos, show m - 1 < d.length by omega]
        unfold Lib.keeps at hk
        rw [decide_eq_true_iff, hg, hg1] at hk
        rcases hk with hk | hk <;> omega
      · rw [if_neg hk, List.append_nil]; exact h1
    · intro y
      rw [Lib.compactUpTo_succ, ht, List.mem_append, List.mem_append, h2]
      by_cases hk : Lib.keeps d.toArray m = true
      · rw [if_pos hk, hg]
      · rw [if_neg hk]
        simp only [List.not_mem_nil, or_false, List.mem_singleton]
        constructor
        · exact .inl
        · rintro (h | rfl)
          · exact h
          · unfold Lib.keeps at hk
            have hm0 : 0 < m := by
              rcases Nat.eq_zero_or_pos m with h0 | h0
              · exact absurd (by simp [h0]) hk
              · exact h0
            have hg1 : d.toArray[m - 1]! = d[m - 1]'(by omega) := by simp [getElem!_pos, show m - 1 < d.length by omega]
            rw [decide_eq_true_iff, hg, hg1] at hk
            have he : d[m]'(by omega) = d[m - 1]'(by omega) := by
              apply Classical.byContradiction
              intro hne
              exact hk (.inr hne)
            rw [he]
            rw [List.mem_take_iff_getElem]
            exact ⟨m - 1, by omega, rfl⟩
    · intro y hy z hz
      rw [Nat.add_sub_cancel, hx] at hz
      rw [← Option.some.inj hz]
      exact h4 y hy
theorem compact_sort (l : List Int) : Lib.compact (l.mergeSort fun x y => decide (x ≤ y)) = srt l := by
  have hp : (l.mergeSort fun x y => decide (x ≤ y)).Pairwise (· ≤ ·) := by
    have := List.pairwise_mergeSort (le := fun x y : Int => decide (x ≤ y)) (fun a b c h1 h2 => by simp at *; omega) (fun a b => by simp; omega) l
    exact this.imp (fun h => by simpa using h)
  obtain ⟨h1, h2, _⟩ := upTo_rise _ hp _ (Nat.le_refl _)
  refine rise_one h1 (srt_rise l) fun y => ?_
  unfold Lib.compact
  rw [h2, List.take_length, List.mem_mergeSort, srt_mem]
end Go.Proofs.Ytcjoohaagdihlaa.Sorted
