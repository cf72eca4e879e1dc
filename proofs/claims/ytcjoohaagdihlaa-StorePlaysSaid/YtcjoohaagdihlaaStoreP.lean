/- What a store keeps: the plain law on depths, and on what covers what. -/
import Derived.Test.YtcjoohaagdihlaaStore11
namespace Go.Proofs.Ytcjoohaagdihlaa.Kept
open Go.RowKit Go.Shelf Go.Lt Go.Proofs.Ytcjoohaagdihlaa.Lit Go.Proofs.Ytcjoohaagdihlaa.CubeHas Go.Proofs.Ytcjoohaagdihlaa.Cube Go.Proofs.Ytcjoohaagdihlaa.Sorted
set_option linter.unusedVariables false
set_option linter.unusedSimpArgs false

theorem hasS_srt (c : List Int) (s : List Bool) : hasS (srt c) s = hasS c s := by
  unfold hasS
  rw [Bool.eq_iff_iff, List.all_eq_true, List.all_eq_true]
  exact ⟨fun h x hx => h x (srt_mem.2 hx), fun h x hx => h x (srt_mem.1 hx)⟩
theorem cov_has {a b : List Int} {s : List Bool} (h : covB a b = true) (hb : hasS b s = true) : hasS a s = true := by
  unfold covB at h
  unfold hasS at hb ⊢
  rw [List.all_eq_true] at h hb ⊢
  exact fun x hx => hb x (has_iff.1 (h x hx))
/-- what a state's depth is -/
def DepthIs (l : List Kc) (s : List Bool) (v : Int) : Prop := (v = -1 ∧ ∀ k ∈ l, hasS k.c s = false) ∨ ∃ k ∈ l, hasS k.c s = true ∧ k.d = v ∧ ∀ k' ∈ l, hasS k'.c s = true → v ≤ k'.d
theorem DepthIs.one {l : List Kc} {s : List Bool} {v u : Int} (h : DepthIs l s v) (k : DepthIs l s u) : v = u := by
  rcases h with ⟨rfl, h⟩ | ⟨a, ha, h1, h2, h3⟩ <;> rcases k with ⟨rfl, k⟩ | ⟨b, hb, k1, k2, k3⟩
  · rfl
  · have := h b hb; rw [k1] at this; cases this
  · have := k a ha; rw [h1] at this; cases this
  · have := h3 b hb k1; have := k3 a ha h1; omega
theorem kcAt_mem {l : List Kc} {j : Nat} (h : j < l.length) : kcAt l j ∈ l := by
  have : kcAt l j = l[j] := by simp [kcAt, List.getD, h]
  rw [this]; exact List.getElem_mem _
theorem mem_kcAt {l : List Kc} {k : Kc} (h : k ∈ l) : ∃ j, j < l.length ∧ kcAt l j = k := by
  obtain ⟨j, hj, e⟩ := List.getElem_of_mem h
  exact ⟨j, hj, by simp [kcAt, List.getD, hj, e]⟩
/-- the best one of the first ones -/
def BestIs (l : List Kc) (s : List Bool) (n : Nat) : Option Nat → Prop
  | none => ∀ j, j < n → hasS (kcAt l j).c s = false
  | some b => b < n ∧ hasS (kcAt l b).c s = true ∧ ∀ j, j < n → hasS (kcAt l j).c s = true → (kcAt l b).d ≤ (kcAt l j).d
theorem best_is (l : List Kc) (s : List Bool) : ∀ n, BestIs l s n (bestN l s (List.range n))
  | 0 => fun j hj => absurd hj (Nat.not_lt_zero _)
  | n + 1 => by
    have ih := best_is l s n
    rw [List.range_succ, bestN_snoc]
    cases hh : hasS (kcAt l n).c s with
    | false =>
      rw [stepB_no hh]
      cases hb : bestN l s (List.range n) with
      | none =>
        rw [hb] at ih
        intro j hj
        by_cases h : j = n
        · rw [h]; exact hh
        · exact ih j (by omega)
      | some b =>
        rw [hb] at ih
        obtain ⟨h1, h2, h3⟩ := ih
        refine ⟨by omega, h2, fun j hj hj2 => ?_⟩
        by_cases h : j = n
        · rw [h, hh] at hj2; cases hj2
        · exact h3 j (by omega) hj2
    | true =>
      cases hb : bestN l s (List.range n) with
      | none =>
        rw [hb] at ih
        rw [stepB_none hh]
        refine ⟨by omega, hh, fun j hj hj2 => ?_⟩
        by_cases h : j = n
        · rw [h]; exact Int.le_refl _
        · have := ih j (by omega); rw [hj2] at this; cases this
      | some b =>
        rw [hb] at ih
        obtain ⟨h1, h2, h3⟩ := ih
        by_cases hd : (kcAt l n).d < (kcAt l b).d
        · rw [stepB_lt hh hd]
          refine ⟨by omega, hh, fun j hj hj2 => ?_⟩
          by_cases h : j = n
          · rw [h]; exact Int.le_refl _
          · have := h3 j (by omega) hj2; omega
        · rw [stepB_ge hd]
          refine ⟨by omega, h2, fun j hj hj2 => ?_⟩
          by_cases h : j = n
          · rw [h]; omega
          · exact h3 j (by omega) hj2
theorem depth_is (l : List Kc) (s : List Bool) : DepthIs l s (depthL l s) := by
  have h := best_is l s l.length
  unfold depthL
  cases hb : bestN l s (List.range l.length) with
  | none =>
    rw [hb] at h
    refine .inl ⟨rfl, fun k hk => ?_⟩
    obtain ⟨j, hj, rfl⟩ := mem_kcAt hk
    exact h j hj
  | some b =>
    rw [hb] at h
    obtain ⟨h1, h2, h3⟩ := h
    refine .inr ⟨_, kcAt_mem h1, h2, rfl, fun k hk hk2 => ?_⟩
    obtain ⟨j, hj, rfl⟩ := mem_kcAt hk
    exact h3 j hj hk2
/-- how a state's depth falls -/
def wantD (cl : List Int) (dep : Int) (s : List Bool) (was : Int) : Int := if normB cl = true ∧ 0 ≤ dep ∧ hasS cl s = true ∧ (was < 0 ∨ dep < was) then dep else was
def DepPos (l : List Kc) : Prop := ∀ k ∈ l, 0 ≤ k.d
theorem depPos_add {l : List Kc} (h : DepPos l) (cl : List Int) (dep : Int) (il : List Bool) : DepPos (addL l cl dep il) := by
  unfold addL
  split
  · rename_i hb
    intro k hk
    rcases List.mem_append.1 hk with hk | hk
    · exact h k (List.mem_filter.1 hk).1
    · rw [List.mem_singleton.1 hk]
      unfold addB at hb
      simp at hb
      exact hb.1.2
  · exact h
theorem want_is {l : List Kc} (hp : DepPos l) (cl : List Int) (dep : Int) (il : List Bool) (s : List Bool) : depthL (addL l cl dep il) s = wantD cl dep s (depthL l s) := by
  refine (depth_is _ s).one ?_
  have hw := depth_is l s
  obtain ⟨was, hwas⟩ : ∃ v, depthL l s = v := ⟨_, rfl⟩
  rw [hwas] at hw ⊢
  unfold addL
  by_cases hb : addB l cl dep = true
  · rw [if_pos hb]
    unfold addB at hb
    rw [Bool.and_eq_true, Bool.and_eq_true, decide_eq_true_eq] at hb
    obtain ⟨⟨hn, hd⟩, hr⟩ := hb
    unfold wantD
    by_cases hs : hasS cl s = true ∧ (was < 0 ∨ dep < was)
    · rw [if_pos ⟨hn, hd, hs.1, hs.2⟩]
      refine .inr ⟨_, List.mem_append_right _ (List.mem_singleton.2 rfl), by rw [hasS_srt]; exact hs.1, rfl, fun k hk hk2 => ?_⟩
      rcases List.mem_append.1 hk with hk | hk
      · have hk := (List.mem_filter.1 hk).1
        rcases hw with ⟨_, h⟩ | ⟨b, _, _, h2, h3⟩
        · rw [h k hk] at hk2; cases hk2
        · have := h3 k hk hk2; have := hp b ‹_›; omega
      · rw [List.mem_singleton.1 hk]; exact Int.le_refl _
    · rw [if_neg (fun h => hs ⟨h.2.2.1, h.2.2.2⟩)]
      rcases hw with ⟨rfl, h⟩ | ⟨b, hbm, h1, h2, h3⟩
      · have hs0 : hasS cl s = false := by
          cases hc : hasS cl s with
          | false => rfl
          | true => exact absurd ⟨hc, .inl (by omega)⟩ hs
        refine .inl ⟨rfl, fun k hk => ?_⟩
        rcases List.mem_append.1 hk with hk | hk
        · exact h k (List.mem_filter.1 hk).1
        · rw [List.mem_singleton.1 hk]; rw [hasS_srt]; exact hs0
      · have hb0 := hp b hbm
        have hwle : ∀ k ∈ (l.filter fun k => !strikes dep (srt cl) k) ++ [⟨srt cl, dep, il⟩], hasS k.c s = true → was ≤ k.d := by
          intro k hk hk2
          rcases List.mem_append.1 hk with hk | hk
          · exact h3 k (List.mem_filter.1 hk).1 hk2
          · rw [List.mem_singleton.1 hk] at hk2 ⊢
            rw [hasS_srt] at hk2
            by_cases hlt : dep < was
            · exact absurd ⟨hk2, .inr hlt⟩ hs
            · show was ≤ dep; omega
        by_cases hst : strikes dep (srt cl) b = true
        · have hst' := hst
          unfold strikes at hst'
          rw [Bool.and_eq_true, decide_eq_true_eq] at hst'
          have hcs : hasS (srt cl) s = true := cov_has hst'.2 h1
          have e : was = dep := by
            have h5 : ¬ dep < was := fun hlt => hs ⟨by rw [← hasS_srt]; exact hcs, .inr hlt⟩
            have h6 := hwle _ (List.mem_append_right _ (List.mem_singleton.2 rfl)) hcs
            have h6 : was ≤ dep := h6
            omega
          exact .inr ⟨_, List.mem_append_right _ (List.mem_singleton.2 rfl), hcs, e.symm, hwle⟩
        · exact .inr ⟨b, List.mem_append_left _ (List.mem_filter.2 ⟨hbm, by simp [hst]⟩), h1, h2, hwle⟩
  · rw [if_neg hb]
    unfold wantD
    by_cases hs : normB cl = true ∧ 0 ≤ dep ∧ hasS cl s = true ∧ (was < 0 ∨ dep < was)
    · exfalso
      obtain ⟨hn, hd, hc, hlt⟩ := hs
      have hany : l.any (refuses (srt cl) dep) = true := by
        cases ha : l.any (refuses (srt cl) dep) with
        | true => rfl
        | false => exact absurd (by unfold addB; rw [hn, ha, decide_eq_true hd]; rfl) hb
      obtain ⟨k, hk, hr⟩ := List.any_eq_true.1 hany
      unfold refuses at hr
      rw [Bool.and_eq_true, decide_eq_true_eq] at hr
      have hks : hasS k.c s = true := cov_has hr.2 (by rw [hasS_srt]; exact hc)
      have hk0 := hp k hk
      rcases hw with ⟨rfl, h⟩ | ⟨b, hbm, h1, h2, h3⟩
      · rw [h k hk] at hks; cases hks
      · have := h3 k hk hks; have := hp b hbm; omega
    · rw [if_neg hs]; exact hw
/-- neither covers the other one at no greater depth -/
def Apart (a b : Kc) : Prop := ¬ (a.d ≤ b.d ∧ covB a.c b.c = true) ∧ ¬ (b.d ≤ a.d ∧ covB b.c a.c = true)
theorem apart_add {l : List Kc} (h : l.Pairwise Apart) (cl : List Int) (dep : Int) (il : List Bool) : (addL l cl dep il).Pairwise Apart := by
  unfold addL
  split
  · rename_i hb
    unfold addB at hb
    rw [Bool.and_eq_true] at hb
    have hr : l.any (refuses (srt cl) dep) = false := by simpa using hb.2
    rw [List.pairwise_append]
    refine ⟨h.filter _, by simp, fun a ha b hb => ?_⟩
    rw [List.mem_singleton.1 hb]
    obtain ⟨h1, h2⟩ := List.mem_filter.1 ha
    have h3 := List.any_eq_false.1 hr a h1
    unfold refuses at h3
    unfold strikes at h2
    constructor
    · rintro ⟨e1, e2⟩
      have e1 : a.d ≤ dep := e1
      have e2 : covB a.c (srt cl) = true := e2
      exact h3 (by rw [decide_eq_true e1, e2]; rfl)
    · rintro ⟨e1, e2⟩
      have e1 : a.d ≥ dep := e1
      have e2 : covB (srt cl) a.c = true := e2
      rw [decide_eq_true e1, e2] at h2
      cases h2
  · exact h
theorem apart_at {l : List Kc} (h : l.Pairwise Apart) {i k : Nat} (hi : i < l.length) (hk : k < l.length) (hne : i ≠ k) (hd : (kcAt l i).d ≤ (kcAt l k).d) : covB (kcAt l i).c (kcAt l k).c = false := by
  have e : ∀ j (hj : j < l.length), kcAt l j = l[j] := fun j hj => by simp [kcAt, List.getD, hj]
  rw [e i hi, e k hk] at *
  cases hc : covB l[i].c l[k].c with
  | false => rfl
  | true =>
    exfalso
    rcases Nat.lt_or_gt_of_ne hne with h1 | h1
    · exact (List.pairwise_iff_getElem.1 h i k hi hk h1).1 ⟨hd, hc⟩
    · exact (List.pairwise_iff_getElem.1 h k i hk hi h1).2 ⟨hd, hc⟩
end Go.Proofs.Ytcjoohaagdihlaa.Kept
