/- What is learned follows from the clauses: the plain law. No program in sight. -/
import Derived.Test.YtcjoohaagdihlaaLearn6
namespace Go.Proofs.Ytcjoohaagdihlaa.Learn
open Go.RowKit Go.Lt Go.Proofs.Ytcjoohaagdihlaa.Lit Go.Proofs.Ytcjoohaagdihlaa.Sorted
set_option linter.unusedVariables false
set_option linter.unusedSimpArgs false

def triV (a : Int) : Int := if a = 0 ∨ a = 1 then a else 2
def triNot (a : Int) : Int := if a = 0 then 1 else if a = 1 then 0 else 2
/-- a literal's value -/
def litV (vals : List Int) (x : Int) : Int :=
  if litGood x = true then
    (if x % 2 = 1 then triNot (if x / 2 = 0 then 0 else if x / 2 < vals.length then triV (vals.getD (x / 2).toNat 0) else 2)
     else (if x / 2 = 0 then 0 else if x / 2 < vals.length then triV (vals.getD (x / 2).toNat 0) else 2))
  else 2
/-- a clause's value -/
def valG (V : Int → Int) : Int → List Int → Int
  | out, [] => out
  | out, x :: c => if V x = 1 then 1 else valG V (if V x = 2 then 2 else out) c
/-- the one that is left -/
def unitG (V : Int → Int) : Int → List Int → Int
  | left, [] => left
  | left, x :: c => if V x = 1 ∨ (V x = 2 ∧ (litGood x = false ∨ (0 ≤ left ∧ left ≠ x))) then -1 else unitG V (if V x = 2 then x else left) c
theorem val_zero {V : Int → Int} : ∀ (c : List Int) (out : Int), (∀ x ∈ c, V x = 0) → valG V out c = out
  | [], _, _ => rfl
  | x :: c, out, h => by
    have h0 := h x List.mem_cons_self
    unfold valG
    rw [h0]
    exact val_zero c out (fun y hy => h y (List.mem_cons_of_mem _ hy))
theorem unit_one {V : Int → Int} {y : Int} (hy : V y = 2) (hg : litGood y = true) : ∀ (c : List Int) (left : Int), (∀ x ∈ c, x ≠ y → V x = 0) → (left = -1 ∨ left = y) → (y ∈ c ∨ left = y) → unitG V left c = y
  | [], left, _, _, hc => hc.elim (fun h => absurd h (List.not_mem_nil)) id
  | x :: c, left, h, hl, hc => by
    unfold unitG
    by_cases hx : x = y
    · subst hx
      rw [if_neg, if_pos hy]
      · exact unit_one hy hg c x (fun z hz => h z (List.mem_cons_of_mem _ hz)) (.inr rfl) (.inr rfl)
      · rintro (h1 | ⟨_, h1 | ⟨h1, h2⟩⟩)
        · omega
        · rw [hg] at h1; cases h1
        · rcases hl with rfl | rfl
          · omega
          · exact h2 rfl
    · have h0 := h x List.mem_cons_self hx
      rw [h0, if_neg (by omega), if_neg (by omega)]
      exact unit_one hy hg c left (fun z hz => h z (List.mem_cons_of_mem _ hz)) hl (hc.imp_left fun h1 => by
        rcases List.mem_cons.1 h1 with h1 | h1
        · exact absurd h1.symm hx
        · exact h1)
/-- a clause of which nothing is left to be said -/
structure Clo (V : Int → Int) (c : List Int) : Prop where
  val : valG V 0 c ≠ 0
  unit : ¬ 1 < unitG V (-1) c
structure Vs (V : Int → Int) : Prop where
  c3 : ∀ x, V x = 0 ∨ V x = 1 ∨ V x = 2
  zero : V 0 = 0
  neg : ∀ x, litGood x = true → V x = 1 → V (litNot x) = 0
theorem one_of {V : Int → Int} (hV : Vs V) {c : List Int} {y : Int} (hc : Clo V c) (hy : y ∈ c) (h1 : 1 < y) (hg : litGood y = true) (h0 : ∀ x ∈ c, x ≠ y → V x = 0) : V y = 1 := by
  rcases hV.c3 y with h | h | h
  · exact absurd (val_zero c 0 fun x hx => by
      by_cases e : x = y
      · subst e; exact h
      · exact h0 x hx e) hc.val
  · exact h
  · exact absurd (by rw [unit_one h hg c (-1) h0 (.inl rfl) (.inl hy)]; exact h1) hc.unit
theorem lvl_nonneg {l : List St} (h : OkTo l l.length) : ∀ i, i ≤ l.length → 0 ≤ lvl l i
  | 0, _ => Int.le_refl _
  | i + 1, hi => by
    have h1 := lvl_nonneg h i (by omega)
    have h2 := (h i (by omega)).up
    show 0 ≤ (stAt l i).lev
    omega
theorem neg_of {V : Int → Int} (hV : Vs V) {x : Int} (hg : litGood x = true) (h : V (litNot x) = 1) : V x = 0 := by
  have h2 := not_not hg
  have := hV.neg (litNot x) h2.2 h
  rw [h2.1] at this
  exact this
section
variable {l : List St} {bad : List Int} {V : Int → Int}
theorem step_good (h : OkTo l l.length) {i : Nat} (hi : i < l.length) : litGood (stAt l i).lit = true := good_iff.2 ⟨by have := (h i hi).two; omega, (h i hi).good⟩
/-- what is of level 0 is One -/
theorem one_zero (h : OkTo l l.length) (hV : Vs V) (hwhy : ∀ i, i < l.length → (stAt l i).why ≠ [] → Clo V (stAt l i).why) (i : Nat) : i < l.length → ¬ 0 < (stAt l i).lev → V (stAt l i).lit = 1 := by
  induction i using Nat.strongRecOn with
  | _ i ih =>
    intro hi hl
    have hs := h i hi
    have h0 := lvl_nonneg h i (by omega)
    have hne : (stAt l i).why ≠ [] := fun e => by have := hs.tried.1 e; omega
    refine one_of hV (hwhy i hi hne) (hs.has hne) (by have := hs.two; omega) (step_good h hi) fun x hx hxn => ?_
    have hw := hs.why x hx
    unfold whyB zeroB at hw
    rw [Bool.or_eq_true, Bool.or_eq_true, Bool.and_eq_true, List.any_eq_true] at hw
    rcases hw with hw | hw | ⟨hg, s, hs2, he⟩
    · exact absurd (by simpa using hw) hxn
    · have : x = 0 := by simpa using hw
      rw [this]; exact hV.zero
    · have he : s.lit = litNot x := by simpa using he
      obtain ⟨j, hj, e⟩ := List.mem_take_iff_getElem.1 hs2
      have hst : stAt l j = s := stAt_is (by rw [List.getElem?_eq_getElem (by omega), e])
      have h1 := ih j (by omega) (by omega) (by have := lev_rise h (show j ≤ i by omega) hi; omega)
      rw [hst, he] at h1
      exact neg_of hV hg h1
/-- a literal that is Zero by the steps, but not of a level above 0 -/
theorem zero_low (h : OkTo l l.length) (hV : Vs V) (hwhy : ∀ i, i < l.length → (stAt l i).why ≠ [] → Clo V (stAt l i).why) {i : Nat} (hi : i ≤ l.length) {x : Int} (hz : zeroB (l.take i) x = true) (hx : ¬ (1 < x ∧ 0 < levOf l x)) : V x = 0 := by
  by_cases h1 : 1 < x
  · obtain ⟨hm, _⟩ := mem_zero h hi h1 hz
    have h2 := one_zero h hV hwhy _ hm.lt (fun h3 => hx ⟨h1, h3⟩)
    rw [hm.at_] at h2
    exact neg_of hV hm.good h2
  · unfold zeroB at hz
    rw [Bool.or_eq_true, Bool.and_eq_true, List.any_eq_true] at hz
    rcases hz with hz | ⟨hg, s, hs, he⟩
    · have : x = 0 := by simpa using hz
      rw [this]; exact hV.zero
    · have he : s.lit = litNot x := by simpa using he
      have := (h.lits (Nat.le_refl _) s (by rw [List.take_length]; exact List.mem_of_mem_take hs)).1
      have h2 := not_half hg
      have h3 := (good_iff.1 hg).1
      omega
theorem zero_put (h : OkTo l l.length) (hV : Vs V) (hwhy : ∀ i, i < l.length → (stAt l i).why ≠ [] → Clo V (stAt l i).why) {i : Nat} (hi : i ≤ l.length) {out more : List Int} {but : Int}
    (hz : ∀ x ∈ more, x ≠ but → zeroB (l.take i) x = true) (hp : ∀ x ∈ putP l out more but, V x = 0) : ∀ x ∈ more, x ≠ but → V x = 0 := fun x hx hb => by
  by_cases h1 : 1 < x ∧ 0 < levOf l x
  · exact hp x (put_mem.2 (.inr ⟨hx, h1.1, hb, h1.2⟩))
  · exact zero_low h hV hwhy hi (hz x hx hb) h1
theorem here_two {c : List Int} (hc : c.Nodup) (h2 : 2 ≤ hereP l c) (z : Int) : ∃ y ∈ c, y ≠ z ∧ levOf l y = lastL l := by
  unfold hereP at h2
  have hn : (c.filter fun x => decide (levOf l x = lastL l)).Nodup := hc.filter _
  have hm : ∀ y, y ∈ (c.filter fun x => decide (levOf l x = lastL l)) → y ∈ c ∧ levOf l y = lastL l := fun y hy => by
    obtain ⟨a, b⟩ := List.mem_filter.1 hy
    exact ⟨a, by simpa using b⟩
  match hF : c.filter (fun x => decide (levOf l x = lastL l)) with
  | [] => rw [hF] at h2; simp at h2
  | [_] => rw [hF] at h2; simp at h2
  | a :: b :: t =>
    rw [hF] at hn hm
    have hab : a ≠ b := fun e => by subst e; simp at hn
    by_cases ha : a = z
    · exact ⟨b, (hm b (by simp)).1, fun e => hab (ha.trans e.symm), (hm b (by simp)).2⟩
    · exact ⟨a, (hm a (by simp)).1, ha, (hm a (by simp)).2⟩
theorem zero_step (h : GoodP l bad) (hV : Vs V) (hwhy : ∀ i, i < l.length → (stAt l i).why ≠ [] → Clo V (stAt l i).why) {c : List Int} (hc : ClOk l c) (h2 : 2 ≤ hereP l c) (hp : ∀ x ∈ stepP l c, V x = 0) : ∀ x ∈ c, V x = 0 := fun x hx => by
  obtain ⟨z, hz, hzl, ht, hzn⟩ := top_lt hc (by omega)
  have htn : (topP l c).toNat = plN l z := by rw [ht]; simp
  have hs := h.1 _ hzn
  unfold stepP at hp
  rw [htn, ht] at hp
  by_cases hxz : x = z
  · subst hxz
    have hm := (hc.mem x hz).1
    have hne : (stAt l (plN l x)).why ≠ [] := fun e => by
      have h3 := hs.tried.1 e
      obtain ⟨y, hy, hyx, hyl⟩ := here_two hc.nodup h2 x
      have hmy := (hc.mem y hy).1
      have h4 := top_ge hy hyl
      have h5 : plN l y ≠ plN l x := fun e => hyx (mem_inj hmy hm e)
      have h6 : (stAt l (plN l y)).lev = lastL l := hyl
      have h7 : (stAt l (plN l x)).lev = lastL l := hzl
      obtain ⟨t, ht2⟩ : ∃ t, plN l x = t + 1 := ⟨plN l x - 1, by omega⟩
      have h8 := lev_rise h.1 (show plN l y ≤ t by omega) (show t < l.length by omega)
      rw [ht2] at h3 h7
      have h3 : (stAt l t).lev < (stAt l (t + 1)).lev := h3
      omega
    have h1 := one_of hV (hwhy _ hzn hne) (hs.has hne) (by have := hs.two; omega) (step_good h.1 hzn)
      (zero_put h.1 hV hwhy (i := plN l x) (by omega) (out := restP l (plN l x) c) (but := (stAt l (plN l x)).lit) (fun y hy hyn => by
        have hw := hs.why y hy
        unfold whyB at hw
        rw [Bool.or_eq_true] at hw
        exact hw.elim (fun e => absurd (by simpa using e) hyn) id) hp)
    rw [hm.at_] at h1
    exact neg_of hV hm.good h1
  · refine hp x (put_mem.2 (.inl (List.mem_filter.2 ⟨hx, ?_⟩)))
    have : plN l x ≠ plN l z := fun e => hxz (mem_inj (hc.mem x hx).1 (hc.mem z hz).1 e)
    simp only [decide_eq_true_eq, ne_eq]
    omega
theorem zero_all (h : GoodP l bad) (hV : Vs V) (hwhy : ∀ i, i < l.length → (stAt l i).why ≠ [] → Clo V (stAt l i).why) : ∀ n, (∀ j, j < n → 2 ≤ hereP l (cN l bad j)) → (∀ x ∈ cN l bad n, V x = 0) → ∀ x ∈ cN l bad 0, V x = 0
  | 0, _, hp => hp
  | n + 1, hj, hp => zero_all h hV hwhy n (fun j hj' => hj j (by omega)) (zero_step h hV hwhy (cl_all h n (fun j hj' => hj j (by omega))) (hj n (by omega)) hp)
theorem clo_single (hV : Vs V) {x : Int} (hx : Mem l x) (hc : Clo V [litNot x]) : V x = 0 := by
  have h2 := not_not hx.good
  have h3 := not_half hx.good
  have h4 := hx.one
  exact neg_of hV hx.good (one_of hV hc (List.mem_singleton.2 rfl) (by omega) h2.2 (fun y hy hn => absurd (List.mem_singleton.1 hy) hn))
/-- the clauses, and the inverses of all that is learned, cannot all be so -/
theorem sound_all (h : GoodP l bad) (hV : Vs V) (hwhy : ∀ i, i < l.length → (stAt l i).why ≠ [] → Clo V (stAt l i).why) (hbad : Clo V bad) {n : Nat} (hj : ∀ j, j < n → 2 ≤ hereP l (cN l bad j)) (hc : ∀ x ∈ cN l bad n, Clo V [litNot x]) : False := by
  have hn := cl_all h n hj
  have h0 := zero_all h hV hwhy n hj (fun x hx => clo_single hV (hn.mem x hx).1 (hc x hx))
  refine hbad.val (val_zero bad 0 fun x hx => ?_)
  by_cases hx0 : x = 0
  · subst hx0; exact hV.zero
  · exact zero_put h.1 hV hwhy (Nat.le_refl _) (out := []) (but := 0) (fun y hy _ => by rw [List.take_length]; exact h.2 y hy) h0 x hx hx0
end
theorem lit_vs (vals : List Int) : Vs (litV vals) := by
  have h3 : ∀ a, triV a = 0 ∨ triV a = 1 ∨ triV a = 2 := fun a => by unfold triV; split <;> omega
  have hx3 : ∀ x : Int, (if x / 2 = 0 then (0 : Int) else if x / 2 < vals.length then triV (vals.getD (x / 2).toNat 0) else 2) = 0 ∨ (if x / 2 = 0 then (0 : Int) else if x / 2 < vals.length then triV (vals.getD (x / 2).toNat 0) else 2) = 1 ∨ (if x / 2 = 0 then (0 : Int) else if x / 2 < vals.length then triV (vals.getD (x / 2).toNat 0) else 2) = 2 := fun x => by
    split
    · exact .inl rfl
    · split
      · exact h3 _
      · exact .inr (.inr rfl)
  refine ⟨fun x => ?_, ?_, fun x hg h1 => ?_⟩
  · unfold litV triNot
    have := hx3 x
    generalize (if x / 2 = 0 then (0 : Int) else if x / 2 < vals.length then triV (vals.getD (x / 2).toNat 0) else 2) = a at *
    split
    · split
      · split
        · omega
        · split <;> omega
      · exact this
    · exact .inr (.inr rfl)
  · have : litGood 0 = true := good_iff.2 ⟨by omega, by omega⟩
    unfold litV
    rw [if_pos this]; rfl
  · have h2 := not_not hg
    have hh := not_half hg
    have h0 := (good_iff.1 hg).1
    have e : litNot x = if x % 2 = 1 then x - 1 else x + 1 := by unfold litNot; rw [hg]; rfl
    have hp : litNot x % 2 = 1 ↔ ¬ x % 2 = 1 := by rw [e]; split <;> omega
    unfold litV at h1 ⊢
    rw [if_pos hg] at h1
    rw [if_pos h2.2, hh]
    have := hx3 x
    generalize (if x / 2 = 0 then (0 : Int) else if x / 2 < vals.length then triV (vals.getD (x / 2).toNat 0) else 2) = a at *
    unfold triNot at *
    by_cases hx : x % 2 = 1
    · rw [if_pos hx] at h1
      rw [if_neg (fun e => hp.1 e hx)]
      split at h1
      · assumption
      · split at h1 <;> omega
    · rw [if_neg hx] at h1
      rw [if_pos (hp.2 hx), h1]
      rfl
end Go.Proofs.Ytcjoohaagdihlaa.Learn
