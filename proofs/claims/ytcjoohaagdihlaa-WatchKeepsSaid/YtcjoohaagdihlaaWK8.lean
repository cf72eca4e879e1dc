/- Texts behind a row, one behind the other: Sound1, Tri1, SortShelf, Sorted2. -/
import Derived.Test.YtcjoohaagdihlaaWK7
import Derived.Shelf.Sort.Plain
import Derived.Ground.Names2Prog
import Derived.Shelf.Slices.Clone
import Derived.Shelf.Slices.CompactI
import Derived.Shelf.Slices.In.SortNone
import Derived.Test.YtcjoohaagdihlaaProg
import Derived.Test.YtcjoohaagdihlaaWK1
import Derived.Test.YtcjoohaagdihlaaWK2
import Derived.Sort.OwnSortedInts
section
/- What is learned follows from the clauses: the plain law. No program in sight. -/
namespace Go.Proofs.Ytcjoohaagdihlaa.Learn
open Go.RowKit Go.Lt Go.Proofs.Ytcjoohaagdihlaa.Lit Go.Proofs.Ytcjoohaagdihlaa.Sorted
set_option linter.unusedVariables false
set_option linter.unusedSimpArgs false

def triV (a : Int) : Int := if a = 0 ∨ a = 1 then a else 2
def triNot (a : Int) : Int := if a = 0 then 1 else if a = 1 then 0 else 2
/-- a literal's value -/
def litV (vals : List Int) (x : Int) : Int :=
  if litGood x = true then
    (if x % 2 = 1 then triNot (if x / 2 = 0 then 0 else if x / 2 < vals.length then triV (vals.getD (x / 2).toNat 0) else 2)
     else (if x / 2 = 0 then 0 else if x / 2 < vals.length then triV (vals.getD (x / 2).toNat 0) else 2))
  else 2
/-- a clause's value -/
def valG (V : Int → Int) : Int → List Int → Int
  | out, [] => out
  | out, x :: c => if V x = 1 then 1 else valG V (if V x = 2 then 2 else out) c
/-- the one that is left -/
def unitG (V : Int → Int) : Int → List Int → Int
  | left, [] => left
  | left, x :: c => if V x = 1 ∨ (V x = 2 ∧ (litGood x = false ∨ (0 ≤ left ∧ left ≠ x))) then -1 else unitG V (if V x = 2 then x else left) c
theorem val_zero {V : Int → Int} : ∀ (c : List Int) (out : Int), (∀ x ∈ c, V x = 0) → valG V out c = out
  | [], _, _ => rfl
  | x :: c, out, h => by
    have h0 := h x List.mem_cons_self
    unfold valG
    rw [h0]
    exact val_zero c out (fun y hy => h y (List.mem_cons_of_mem _ hy))
theorem unit_one {V : Int → Int} {y : Int} (hy : V y = 2) (hg : litGood y = true) : ∀ (c : List Int) (left : Int), (∀ x ∈ c, x ≠ y → V x = 0) → (left = -1 ∨ left = y) → (y ∈ c ∨ left = y) → unitG V left c = y
  | [], left, _, _, hc => hc.elim (fun h => absurd h (List.not_mem_nil)) id
  | x :: c, left, h, hl, hc => by
    unfold unitG
    by_cases hx : x = y
    · subst hx
      rw [if_neg, if_pos hy]
      · exact unit_one hy hg c x (fun z hz => h z (List.mem_cons_of_mem _ hz)) (.inr rfl) (.inr rfl)
      · rintro (h1 | ⟨_, h1 | ⟨h1, h2⟩⟩)
        · omega
        · rw [hg] at h1; cases h1
        · rcases hl with rfl | rfl
          · omega
          · exact h2 rfl
    · have h0 := h x List.mem_cons_self hx
      rw [h0, if_neg (by omega), if_neg (by omega)]
      exact unit_one hy hg c left (fun z hz => h z (List.mem_cons_of_mem _ hz)) hl (hc.imp_left fun h1 => by
        rcases List.mem_cons.1 h1 with h1 | h1
        · exact absurd h1.symm hx
        · exact h1)
/-- a clause of which nothing is left to be said -/
structure Clo (V : Int → Int) (c : List Int) : Prop where
  val : valG V 0 c ≠ 0
  unit : ¬ 1 < unitG V (-1) c
structure Vs (V : Int → Int) : Prop where
  c3 : ∀ x, V x = 0 ∨ V x = 1 ∨ V x = 2
  zero : V 0 = 0
  neg : ∀ x, litGood x = true → V x = 1 → V (litNot x) = 0
theorem one_of {V : Int → Int} (hV : Vs V) {c : List Int} {y : Int} (hc : Clo V c) (hy : y ∈ c) (h1 : 1 < y) (hg : litGood y = true) (h0 : ∀ x ∈ c, x ≠ y → V x = 0) : V y = 1 := by
  rcases hV.c3 y with h | h | h
  · exact absurd (val_zero c 0 fun x hx => by
      by_cases e : x = y
      · subst e; exact h
      · exact h0 x hx e) hc.val
  · exact h
  · exact absurd (by rw [unit_one h hg c (-1) h0 (.inl rfl) (.inl hy)]; exact h1) hc.unit
theorem lvl_nonneg {l : List St} (h : OkTo l l.length) : ∀ i, i ≤ l.length → 0 ≤ lvl l i
  | 0, _ => Int.le_refl _
  | i + 1, hi => by
    have h1 := lvl_nonneg h i (by omega)
    have h2 := (h i (by omega)).up
    show 0 ≤ (stAt l i).lev
    omega
theorem neg_of {V : Int → Int} (hV : Vs V) {x : Int} (hg : litGood x = true) (h : V (litNot x) = 1) : V x = 0 := by
  have h2 := not_not hg
  have := hV.neg (litNot x) h2.2 h
  rw [h2.1] at this
  exact this
section
variable {l : List St} {bad : List Int} {V : Int → Int}
theorem step_good (h : OkTo l l.length) {i : Nat} (hi : i < l.length) : litGood (stAt l i).lit = true := good_iff.2 ⟨by have := (h i hi).two; omega, (h i hi).good⟩
/-- what is of level 0 is One -/
theorem one_zero (h : OkTo l l.length) (hV : Vs V) (hwhy : ∀ i, i < l.length → (stAt l i).why ≠ [] → Clo V (stAt l i).why) (i : Nat) : i < l.length → ¬ 0 < (stAt l i).lev → V (stAt l i).lit = 1 := by
  induction i using Nat.strongRecOn with
  | _ i ih =>
    intro hi hl
    have hs := h i hi
    have h0 := lvl_nonneg h i (by omega)
    have hne : (stAt l i).why ≠ [] := fun e => by have := hs.tried.1 e; omega
    refine one_of hV (hwhy i hi hne) (hs.has hne) (by have := hs.two; omega) (step_good h hi) fun x hx hxn => ?_
    have hw := hs.why x hx
    unfold whyB zeroB at hw
    rw [Bool.or_eq_true, Bool.or_eq_true, Bool.and_eq_true, List.any_eq_true] at hw
    rcases hw with hw | hw | ⟨hg, s, hs2, he⟩
    · exact absurd (by simpa using hw) hxn
    · have : x = 0 := by simpa using hw
      rw [this]; exact hV.zero
    · have he : s.lit = litNot x := by simpa using he
      obtain ⟨j, hj, e⟩ := List.mem_take_iff_getElem.1 hs2
      have hst : stAt l j = s := stAt_is (by rw [List.getElem?_eq_getElem (by omega), e])
      have h1 := ih j (by omega) (by omega) (by have := lev_rise h (show j ≤ i by omega) hi; omega)
      rw [hst, he] at h1
      exact neg_of hV hg h1
/-- a literal that is Zero by the steps, but not of a level above 0 -/
theorem zero_low (h : OkTo l l.length) (hV : Vs V) (hwhy : ∀ i, i < l.length → (stAt l i).why ≠ [] → Clo V (stAt l i).why) {i : Nat} (hi : i ≤ l.length) {x : Int} (hz : zeroB (l.take i) x = true) (hx : ¬ (1 < x ∧ 0 < levOf l x)) : V x = 0 := by
  by_cases h1 : 1 < x
  · obtain ⟨hm, _⟩ := mem_zero h hi h1 hz
    have h2 := one_zero h hV hwhy _ hm.lt (fun h3 => hx ⟨h1, h3⟩)
    rw [hm.at_] at h2
    exact neg_of hV hm.good h2
  · unfold zeroB at hz
    rw [Bool.or_eq_true, Bool.and_eq_true, List.any_eq_true] at hz
    rcases hz with hz | ⟨hg, s, hs, he⟩
    · have : x = 0 := by simpa using hz
      rw [this]; exact hV.zero
    · have he : s.lit = litNot x := by simpa using he
      have := (h.lits (Nat.le_refl _) s (by rw [List.take_length]; exact List.mem_of_mem_take hs)).1
      have h2 := not_half hg
      have h3 := (good_iff.1 hg).1
      omega
theorem zero_put (h : OkTo l l.length) (hV : Vs V) (hwhy : ∀ i, i < l.length → (stAt l i).why ≠ [] → Clo V (stAt l i).why) {i : Nat} (hi : i ≤ l.length) {out more : List Int} {but : Int}
    (hz : ∀ x ∈ more, x ≠ but → zeroB (l.take i) x = true) (hp : ∀ x ∈ putP l out more but, V x = 0) : ∀ x ∈ more, x ≠ but → V x = 0 := fun x hx hb => by
  by_cases h1 : 1 < x ∧ 0 < levOf l x
  · exact hp x (put_mem.2 (.inr ⟨hx, h1.1, hb, h1.2⟩))
  · exact zero_low h hV hwhy hi (hz x hx hb) h1
theorem here_two {c : List Int} (hc : c.Nodup) (h2 : 2 ≤ hereP l c) (z : Int) : ∃ y ∈ c, y ≠ z ∧ levOf l y = lastL l := by
  unfold hereP at h2
  have hn : (c.filter fun x => decide (levOf l x = lastL l)).Nodup := hc.filter _
  have hm : ∀ y, y ∈ (c.filter fun x => decide (levOf l x = lastL l)) → y ∈ c ∧ levOf l y = lastL l := fun y hy => by
    obtain ⟨a, b⟩ := List.mem_filter.1 hy
    exact ⟨a, by simpa using b⟩
  match hF : c.filter (fun x => decide (levOf l x = lastL l)) with
  | [] => rw [hF] at h2; simp at h2
  | [_] => rw [hF] at h2; simp at h2
  | a :: b :: t =>
    rw [hF] at hn hm
    have hab : a ≠ b := fun e => by subst e; simp at hn
    by_cases ha : a = z
    · exact ⟨b, (hm b (by simp)).1, fun e => hab (ha.trans e.symm), (hm b (by simp)).2⟩
    · exact ⟨a, (hm a (by simp)).1, ha, (hm a (by simp)).2⟩
theorem zero_step (h : GoodP l bad) (hV : Vs V) (hwhy : ∀ i, i < l.length → (stAt l i).why ≠ [] → Clo V (stAt l i).why) {c : List Int} (hc : ClOk l c) (h2 : 2 ≤ hereP l c) (hp : ∀ x ∈ stepP l c, V x = 0) : ∀ x ∈ c, V x = 0 := fun x hx => by
  obtain ⟨z, hz, hzl, ht, hzn⟩ := top_lt hc (by omega)
  have htn : (topP l c).toNat = plN l z := by rw [ht]; simp
  have hs := h.1 _ hzn
  unfold stepP at hp
  rw [htn, ht] at hp
  by_cases hxz : x = z
  · subst hxz
    have hm := (hc.mem x hz).1
    have hne : (stAt l (plN l x)).why ≠ [] := fun e => by
      have h3 := hs.tried.1 e
      obtain ⟨y, hy, hyx, hyl⟩ := here_two hc.nodup h2 x
      have hmy := (hc.mem y hy).1
      have h4 := top_ge hy hyl
      have h5 : plN l y ≠ plN l x := fun e => hyx (mem_inj hmy hm e)
      have h6 : (stAt l (plN l y)).lev = lastL l := hyl
      have h7 : (stAt l (plN l x)).lev = lastL l := hzl
      obtain ⟨t, ht2⟩ : ∃ t, plN l x = t + 1 := ⟨plN l x - 1, by omega⟩
      have h8 := lev_rise h.1 (show plN l y ≤ t by omega) (show t < l.length by omega)
      rw [ht2] at h3 h7
      have h3 : (stAt l t).lev < (stAt l (t + 1)).lev := h3
      omega
    have h1 := one_of hV (hwhy _ hzn hne) (hs.has hne) (by have := hs.two; omega) (step_good h.1 hzn)
      (zero_put h.1 hV hwhy (i := plN l x) (by omega) (out := restP l (plN l x) c) (but := (stAt l (plN l x)).lit) (fun y hy hyn => by
        have hw := hs.why y hy
        unfold whyB at hw
        rw [Bool.or_eq_true] at hw
        exact hw.elim (fun e => absurd (by simpa using e) hyn) id) hp)
    rw [hm.at_] at h1
    exact neg_of hV hm.good h1
  · refine hp x (put_mem.2 (.inl (List.mem_filter.2 ⟨hx, ?_⟩)))
    have : plN l x ≠ plN l z := fun e => hxz (mem_inj (hc.mem x hx).1 (hc.mem z hz).1 e)
    simp only [decide_eq_true_eq, ne_eq]
    omega
theorem zero_all (h : GoodP l bad) (hV : Vs V) (hwhy : ∀ i, i < l.length → (stAt l i).why ≠ [] → Clo V (stAt l i).why) : ∀ n, (∀ j, j < n → 2 ≤ hereP l (cN l bad j)) → (∀ x ∈ cN l bad n, V x = 0) → ∀ x ∈ cN l bad 0, V x = 0
  | 0, _, hp => hp
  | n + 1, hj, hp => zero_all h hV hwhy n (fun j hj' => hj j (by omega)) (zero_step h hV hwhy (cl_all h n (fun j hj' => hj j (by omega))) (hj n (by omega)) hp)
theorem clo_single (hV : Vs V) {x : Int} (hx : Mem l x) (hc : Clo V [litNot x]) : V x = 0 := by
  have h2 := not_not hx.good
  have h3 := not_half hx.good
  have h4 := hx.one
  exact neg_of hV hx.good (one_of hV hc (List.mem_singleton.2 rfl) (by omega) h2.2 (fun y hy hn => absurd (List.mem_singleton.1 hy) hn))
/-- the clauses, and the inverses of all that is learned, cannot all be so -/
theorem sound_all (h : GoodP l bad) (hV : Vs V) (hwhy : ∀ i, i < l.length → (stAt l i).why ≠ [] → Clo V (stAt l i).why) (hbad : Clo V bad) {n : Nat} (hj : ∀ j, j < n → 2 ≤ hereP l (cN l bad j)) (hc : ∀ x ∈ cN l bad n, Clo V [litNot x]) : False := by
  have hn := cl_all h n hj
  have h0 := zero_all h hV hwhy n hj (fun x hx => clo_single hV (hn.mem x hx).1 (hc x hx))
  refine hbad.val (val_zero bad 0 fun x hx => ?_)
  by_cases hx0 : x = 0
  · subst hx0; exact hV.zero
  · exact zero_put h.1 hV hwhy (Nat.le_refl _) (out := []) (but := 0) (fun y hy _ => by rw [List.take_length]; exact h.2 y hy) h0 x hx hx0
end
theorem lit_vs (vals : List Int) : Vs (litV vals) := by
  have h3 : ∀ a, triV a = 0 ∨ triV a = 1 ∨ triV a = 2 := fun a => by unfold triV; split <;> omega
  have hx3 : ∀ x : Int, (if x / 2 = 0 then (0 : Int) else if x / 2 < vals.length then triV (vals.getD (x / 2).toNat 0) else 2) = 0 ∨ (if x / 2 = 0 then (0 : Int) else if x / 2 < vals.length then triV (vals.getD (x / 2).toNat 0) else 2) = 1 ∨ (if x / 2 = 0 then (0 : Int) else if x / 2 < vals.length then triV (vals.getD (x / 2).toNat 0) else 2) = 2 := fun x => by
    split
    · exact .inl rfl
    · split
      · exact h3 _
      · exact .inr (.inr rfl)
  refine ⟨fun x => ?_, ?_, fun x hg h1 => ?_⟩
  · unfold litV triNot
    have := hx3 x
    generalize (if x / 2 = 0 then (0 : Int) else if x / 2 < vals.length then triV (vals.getD (x / 2).toNat 0) else 2) = a at *
    split
    · split
      · split
        · omega
        · split <;> omega
      · exact this
    · exact .inr (.inr rfl)
  · have : litGood 0 = true := good_iff.2 ⟨by omega, by omega⟩
    unfold litV
    rw [if_pos this]; rfl
  · have h2 := not_not hg
    have hh := not_half hg
    have h0 := (good_iff.1 hg).1
    have e : litNot x = if x % 2 = 1 then x - 1 else x + 1 := by unfold litNot; rw [hg]; rfl
    have hp : litNot x % 2 = 1 ↔ ¬ x % 2 = 1 := by rw [e]; split <;> omega
    unfold litV at h1 ⊢
    rw [if_pos hg] at h1
    rw [if_pos h2.2, hh]
    have := hx3 x
    generalize (if x / 2 = 0 then (0 : Int) else if x / 2 < vals.length then triV (vals.getD (x / 2).toNat 0) else 2) = a at *
    unfold triNot at *
    by_cases hx : x % 2 = 1
    · rw [if_pos hx] at h1
      rw [if_neg (fun e => hp.1 e hx)]
      split at h1
      · assumption
      · split at h1 <;> omega
    · rw [if_neg hx] at h1
      rw [if_pos (hp.2 hx), h1]
      rfl
end Go.Proofs.Ytcjoohaagdihlaa.Learn
end

section
/- The program's value of a literal: tri.Lit. -/
namespace Go.Proofs.Ytcjoohaagdihlaa.Watch
open Go.RowKit Go.Lt Go.Proofs.Ytcjoohaagdihlaa.Lit Go.Proofs.Ytcjoohaagdihlaa.Sorted Go.Proofs.Ytcjoohaagdihlaa.Learn
set_option linter.unusedVariables false
set_option linter.unusedSimpArgs false

def toldB (a : Int) : Bool := decide (a = 0 ∨ a = 1)
theorem tri_told (a : Int) (w : World) : Calls Try.prog 154 #[.int .i64 a] w fun e w' => e = .returned (.bool (toldB a)) ∧ w = w' := by
  by_cases h0 : a = 0
  · subst h0
    go_enter Try.func154, Try.ntmps154
    go_wp2
    go_ret
    exact ⟨rfl, rfl⟩
  · by_cases h1 : a = 1
    · subst h1
      go_enter Try.func154, Try.ntmps154
      go_wp2
      go_ret
      exact ⟨rfl, rfl⟩
    · have e0 : (a == 0) = false := by simp [h0]
      have e1 : (a == 1) = false := by simp [h1]
      have HV := hide (show false = toldB a from (decide_eq_false (by omega)).symm)
      go_enter Try.func154, Try.ntmps154
      go_wp2
      go_ret
      exact ⟨ret_bool HV.out, rfl⟩
theorem told_is {a : Int} {b : Bool} (h : toldB a = b) (w : World) : Calls Try.prog 154 #[.int .i64 a] w fun e w' => e = .returned (.bool b) ∧ w = w' := by subst h; exact tri_told a w
theorem tri_Not (a : Int) (w : World) : Calls Try.prog 155 #[.int .i64 a] w fun e w' => e = .returned (.int .i64 (triNot a)) ∧ w = w' := by
  by_cases h0 : a = 0
  · subst h0
    have HT := hide (fun W => told_is (a := 0) (b := true) rfl W)
    go_enter Try.func155, Try.ntmps155
    go_wp2_with (go_at_call 154; refine (HT.out _).mono ?_; rintro e w' ⟨rfl, rfl⟩)
    go_ret
    exact ⟨rfl, rfl⟩
  · by_cases h1 : a = 1
    · subst h1
      have HT := hide (fun W => told_is (a := 1) (b := true) rfl W)
      go_enter Try.func155, Try.ntmps155
      go_wp2_with (go_at_call 154; refine (HT.out _).mono ?_; rintro e w' ⟨rfl, rfl⟩)
      go_ret
      exact ⟨rfl, rfl⟩
    · have HT := hide (fun W => told_is (a := a) (b := false) (decide_eq_false (by omega)) W)
      have HV := hide (show 2 = triNot a by unfold triNot; rw [if_neg h0, if_neg h1])
      go_enter Try.func155, Try.ntmps155
      go_wp2_with (go_at_call 154; refine (HT.out _).mono ?_; rintro e w' ⟨rfl, rfl⟩)
      go_ret
      exact ⟨ret_int HV.out, rfl⟩
theorem var_is {l v : Int} (h : litVar l = v) (w : World) : Calls Try.prog 84 #[.int .i64 l] w fun e w' => e = .returned (.int .i64 v) ∧ w = w' := by subst h; exact lit_Var l w
theorem neg_is {l : Int} {b : Bool} (h : litNeg l = b) (w : World) : Calls Try.prog 153 #[.int .i64 l] w fun e w' => e = .returned (.bool b) ∧ w = w' := by subst h; exact lit_Neg l w
set_option maxHeartbeats 1000000 in
theorem tri_Lit (A : Option Addr) (n c : Nat) (vals : List Int) (x : Int) (w : World) (hn : n ≤ 10000000) (hr : Rd w A n (ivs vals)) :
    Calls Try.prog 137 #[.slice A n c, .int .i64 x] w fun e w' => e = .returned (.int .i64 (litV vals x)) ∧ w = w' := by
  have hnI : (n : Int) ≤ 10000000 := by omega
  have hlen := hr.len
  cases hg : litGood x with
  | false =>
    have HV := hide (fun W => var_is (l := x) (v := -1) (by unfold litVar; rw [hg]; rfl) W)
    have HN := hide (fun W => neg_is (l := x) (b := false) (by unfold litNeg; rw [hg]; rfl) W)
    have HR := hide (show 2 = litV vals x by unfold litV; rw [hg]; rfl)
    clear hg
    go_enter Try.func137, Try.ntmps137
    go_wp2_with first | (go_at_call 84; refine (HV.out _).mono ?_; rintro e w' ⟨rfl, rfl⟩) | (go_at_call 153; refine (HN.out _).mono ?_; rintro e w' ⟨rfl, rfl⟩)
    go_ret
    exact ⟨ret_int HR.out, rfl⟩
  | true =>
    obtain ⟨h0, h1⟩ := good_iff.1 hg
    obtain ⟨k, hk⟩ : ∃ k : Nat, x / 2 = (k : Int) := ⟨(x / 2).toNat, by omega⟩
    have HV := hide (fun W => var_is (l := x) (v := (k : Int)) (by unfold litVar; rw [hg, ← hk]; rfl) W)
    obtain ⟨nb, hnb⟩ : ∃ nb, decide (x % 2 = 1) = nb := ⟨_, rfl⟩
    have HN := hide (fun W => neg_is (l := x) (b := nb) (by unfold litNeg; rw [hg, hnb]; rfl) W)
    have HX := hide (fun a W => tri_Not a W)
    have hneg : ∀ a : Int, (if x % 2 = 1 then triNot a else a) = if nb = true then triNot a else a := fun a => by rw [← hnb]; by_cases h : x % 2 = 1 <;> simp [h]
    by_cases hk0 : k = 0
    · subst hk0
      have hk : x / 2 = 0 := hk
      have HR := hide (show (if nb = true then triNot 0 else 0) = litV vals x by unfold litV; rw [if_pos hg, if_pos hk, hneg])
      clear hg hneg hnb hk
      cases nb with
      | true =>
        go_enter Try.func137, Try.ntmps137
        go_wp2_with first | (go_at_call 84; refine (HV.out _).mono ?_; rintro e w' ⟨rfl, rfl⟩) | (go_at_call 153; refine (HN.out _).mono ?_; rintro e w' ⟨rfl, rfl⟩) | (go_at_call 155; refine (HX.out _ _).mono ?_; rintro e w' ⟨rfl, rfl⟩)
        go_ret
        exact ⟨ret_int HR.out, rfl⟩
      | false =>
        go_enter Try.func137, Try.ntmps137
        go_wp2_with first | (go_at_call 84; refine (HV.out _).mono ?_; rintro e w' ⟨rfl, rfl⟩) | (go_at_call 153; refine (HN.out _).mono ?_; rintro e w' ⟨rfl, rfl⟩)
        go_ret
        exact ⟨ret_int HR.out, rfl⟩
    · have e1 : ((k : Int) == 0) = false := by simp; omega
      have e2 : decide (0 < (k : Int)) = true := decide_eq_true (by omega)
      have e3 : ¬ (k : Int) = 0 := by omega
      by_cases hkn : k < n
      · have hknI : (k : Int) < n := by omega
        obtain ⟨ad, a, rfl, hB, ha, hca⟩ := hr.get hkn
        have hga : vals.getD (x / 2).toNat 0 = a := by rw [hk, Int.toNat_natCast, List.getD_eq_getElem?_getD, ha]; rfl
        obtain ⟨tb, htb⟩ : ∃ tb, toldB a = tb := ⟨_, rfl⟩
        have HT := hide (fun W => told_is htb W)
        have hta : triV a = if tb = true then a else 2 := by
          rw [← htb]; unfold triV toldB
          by_cases h : a = 0 ∨ a = 1 <;> simp [h]
        have HR := hide (show (if nb = true then triNot (if tb = true then a else 2) else (if tb = true then a else 2)) = litV vals x by unfold litV; rw [if_pos hg, hga, hk, if_neg e3, if_pos (show (k : Int) < (vals.length : Int) by omega), hneg, hta])
        clear hg ha hga hneg hta htb hnb hk
        cases tb <;> cases nb
        all_goals
          go_enter Try.func137, Try.ntmps137
          go_wp2_with first | (go_at_call 84; refine (HV.out _).mono ?_; rintro e w' ⟨rfl, rfl⟩) | (go_at_call 153; refine (HN.out _).mono ?_; rintro e w' ⟨rfl, rfl⟩) | (go_at_call 155; refine (HX.out _ _).mono ?_; rintro e w' ⟨rfl, rfl⟩) | (go_at_call 154; refine (HT.out _).mono ?_; rintro e w' ⟨rfl, rfl⟩)
          go_ret
          exact ⟨ret_int HR.out, rfl⟩
      · have e4 : decide ((k : Int) < n) = false := decide_eq_false (by omega)
        have e5 : ¬ (k : Int) < n := by omega
        have HR := hide (show (if nb = true then triNot 2 else 2) = litV vals x by unfold litV; rw [if_pos hg, hk, if_neg e3, if_neg (show ¬ (k : Int) < (vals.length : Int) by omega), hneg])
        clear hg hneg hnb hk
        cases nb
        all_goals
          go_enter Try.func137, Try.ntmps137
          go_wp2_with first | (go_at_call 84; refine (HV.out _).mono ?_; rintro e w' ⟨rfl, rfl⟩) | (go_at_call 153; refine (HN.out _).mono ?_; rintro e w' ⟨rfl, rfl⟩) | (go_at_call 155; refine (HX.out _ _).mono ?_; rintro e w' ⟨rfl, rfl⟩)
          go_ret
          exact ⟨ret_int HR.out, rfl⟩
end Go.Proofs.Ytcjoohaagdihlaa.Watch
end

section
/-
  DERIVED: THE SHELF's CONTRACTS AT THIS DUMP, IN PLAIN WORDS (tools/lay-plain.mjs out of 'YtcjoohaagdihlaaSortShelfL.lean', which tools/lay-shelf.mjs wrote): THE SAME DECLARATIONS UNDER THE SAME NAMES: 'import', 'namespace', 'open', 'def', 'theorem' AND NOTHING ELSE: no command of the shelf's: FOR A HAND-IN. Each laying: the table of numbers ('.._ren') and one theorem, a field a fact of the dump's own or the kernel's comparison; each contract: ONE APPLICATION.
-/
namespace Go.Proofs
open Go.Shelf
def Try.lays189_ren : Go.Shelf.Ren := ⟨fun | 189 => 127 | 125 => 151 | 257 => 150 | 128 => 167 | 129 => 168 | 294 => 158 | 295 => 159 | 296 => 160 | 297 => 161 | 298 => 162 | 299 => 163 | 216 => 164 | 300 => 165 | 301 => 166 | 328 => 171 | 329 => 172 | 330 => 173 | 331 => 174 | 332 => 175 | 215 => 176 | 343 => 178 | n => n, fun | 28 => 40 | 3 => 3 | 46 => 151 | 0 => 0 | 51 => 176 | 53 => 22 | 4 => 4 | 183 => 168 | 182 => 167 | 131 => 173 | 5 => 5 | 9 => 9 | 218 => 180 | 222 => 184 | 228 => 186 | 229 => 187 | n => n, fun | n => n⟩
theorem Try.lays189 : Go.Proofs.Lays.n189 Try.prog Try.lays189_ren := {
  mixed := by kernel_rfl
  f125 := Try.func151.trans (congrArg some (by kernel_rfl))
  f128 := Try.func167.trans (congrArg some (by kernel_rfl))
  f129 := Try.func168.trans (congrArg some (by kernel_rfl))
  f189 := Try.func127.trans (congrArg some (by kernel_rfl))
  f215 := Try.func176.trans (congrArg some (by kernel_rfl))
  f216 := Try.func164.trans (congrArg some (by kernel_rfl))
  f257 := Try.func150.trans (congrArg some (by kernel_rfl))
  f294 := Try.func158.trans (congrArg some (by kernel_rfl))
  f295 := Try.func159.trans (congrArg some (by kernel_rfl))
  f296 := Try.func160.trans (congrArg some (by kernel_rfl))
  f297 := Try.func161.trans (congrArg some (by kernel_rfl))
  f298 := Try.func162.trans (congrArg some (by kernel_rfl))
  f299 := Try.func163.trans (congrArg some (by kernel_rfl))
  f300 := Try.func165.trans (congrArg some (by kernel_rfl))
  f301 := Try.func166.trans (congrArg some (by kernel_rfl))
  f328 := Try.func171.trans (congrArg some (by kernel_rfl))
  f329 := Try.func172.trans (congrArg some (by kernel_rfl))
  f330 := Try.func173.trans (congrArg some (by kernel_rfl))
  f331 := Try.func174.trans (congrArg some (by kernel_rfl))
  f332 := Try.func175.trans (congrArg some (by kernel_rfl))
  f343 := Try.func178.trans (congrArg some (by kernel_rfl))
  t0 := Try.underlying0
  a0 := Try.isAgg0
  z0 := Try.sizeOf0
  v0 := Try.zeroValue0
  t3 := Try.underlying3
  a3 := Try.isAgg3
  z3 := Try.sizeOf3
  v3 := Try.zeroValue3
  t4 := Try.underlying4
  a4 := Try.isAgg4
  z4 := Try.sizeOf4
  v4 := Try.zeroValue4
  t5 := Try.underlying5
  a5 := Try.isAgg5
  z5 := Try.sizeOf5
  v5 := Try.zeroValue5
  t9 := Try.underlying9
  a9 := Try.isAgg9
  z9 := Try.sizeOf9
  v9 := Try.zeroValue9
  t28 := Try.underlying40
  a28 := Try.isAgg40
  z28 := Try.sizeOf40
  v28 := Try.zeroValue40
  t46 := Try.underlying151
  a46 := Try.isAgg151
  z46 := Try.sizeOf151
  v46 := Try.zeroValue151
  t51 := Try.underlying176
  a51 := Try.isAgg176
  z51 := Try.sizeOf176
  v51 := Try.zeroValue176
  t53 := Try.underlying22
  a53 := Try.isAgg22
  z53 := Try.sizeOf22
  v53 := Try.zeroValue22
  t131 := Try.underlying173
  a131 := Try.isAgg173
  z131 := Try.sizeOf173
  v131 := Try.zeroValue173
  t182 := Try.underlying167
  a182 := Try.isAgg167
  z182 := Try.sizeOf167
  v182 := Try.zeroValue167
  t183 := Try.underlying168
  a183 := Try.isAgg168
  z183 := Try.sizeOf168
  v183 := Try.zeroValue168
  t218 := Try.underlying180
  a218 := Try.isAgg180
  z218 := Try.sizeOf180
  v218 := Try.zeroValue180
  t222 := Try.underlying184
  a222 := Try.isAgg184
  z222 := Try.sizeOf184
  v222 := Try.zeroValue184
  t228 := Try.underlying186
  a228 := Try.isAgg186
  z228 := Try.sizeOf186
  v228 := Try.zeroValue186
  t229 := Try.underlying187
  a229 := Try.isAgg187
  z229 := Try.sizeOf187
  v229 := Try.zeroValue187 }
open Go.Sort Go.RowKit in
theorem Try.slices_Sort_int (blk off cap : Nat) (zs : List Int) (w : World) (hH : Holds (Value.int .i64) w blk off zs.toArray) (hblk : blk < w.heap.size) (hsz : zs.length < 4611686018427387904) :
    Calls Try.prog 127 #[.slice (some ⟨blk, off, none⟩) zs.length cap] w fun e w' =>
      e = .returned (.tuple #[]) ∧ ∃ n os, w' = grow (putRow (Value.int .i64) (Sort.ahead w n) blk off (zs.mergeSort fun x y => decide (x ≤ y)).toArray) os := Any.slices_Sort_int Try.lays189 blk off cap zs w hH hblk hsz
def Try.laysNm215_ren : Go.Shelf.Ren := ⟨fun | 15 => 108 | n => n, fun | 22 => 40 | 3 => 3 | 4 => 4 | n => n, fun | n => n⟩
theorem Try.laysNm215 : Go.Proofs.Lays2.n15 Try.prog Try.laysNm215_ren := {
  mixed := by kernel_rfl
  f15 := Try.func108.trans (congrArg some (by kernel_rfl))
  t3 := Try.underlying3
  a3 := Try.isAgg3
  z3 := Try.sizeOf3
  v3 := Try.zeroValue3
  t4 := Try.underlying4
  a4 := Try.isAgg4
  z4 := Try.sizeOf4
  v4 := Try.zeroValue4
  t22 := Try.underlying40
  a22 := Try.isAgg40
  z22 := Try.sizeOf40
  v22 := Try.zeroValue40
  i3 := by kernel_rfl }
open Go.RowKit Go.Lib in
/-- slices.Clone at []int: "Clone returns a copy of the slice. The elements are copied using assignment, so this is a shallow clone. The result may have additional unused capacity. The result preserves the nilness of s.": OF A SLICE THAT IS NOT nil IT RETURNS A SLICE THAT IS NOT nil, OF THE SAME ELEMENTS, IN MEMORY OF THE CALL's OWN: in the how-to's words (6f): 'w'.ownsRow B e 1 v' n cells': v' begins at the head of a row among the blocks from B on (B: the heap's size at the call), not frozen, whose first cells are the elements · 'Below B w w'': below B all is as it was. The capacity is whatever the run-time gives. 'zs': what the cells behind the slice's address hold; 'zs.take n': its elements. (LAID: no walk: one application.) -/
theorem Try.slices_Clone_int (b off n c : Nat) (zs : List Int) (w : World) (hz : n ≤ zs.length) (hbig : n * 8 ≤ 140737488355328) (hc : ∀ j, j < zs.length → w.cell? ⟨b, off + j, none⟩ = some (.int .i64 (zs.getD j 0))) :
    Calls Try.prog 108 #[.slice (some ⟨b, off, none⟩) n c] w fun e w' => ∃ v', e = .returned v' ∧ w'.ownsRow w.heap.size 3 1 v' n ((zs.take n).map (Value.int .i64)) ∧ v' ≠ .slice none 0 0 ∧ Below w.heap.size w w' := Any.slices_Clone_int Try.laysNm215 b off n c zs w hz hbig hc
open Go.RowKit Go.Lib in
/-- The same at nil: nil comes back; the world is as it was. (LAID: no walk: one application.) -/
theorem Try.slices_Clone_int_nil (n c : Nat) (w : World) :
    Calls Try.prog 108 #[.slice none n c] w fun e w' => e = .returned (.slice none 0 0) ∧ w' = w := Any.slices_Clone_int_nil Try.laysNm215 n c w
open Go.RowKit Go.Lib in
/-- The same at a slice of length 0 that is not nil, WHATEVER ITS ADDRESS (no cell is asked for): a slice that is not nil and owns nothing comes back. (LAID: no walk: one application.) -/
theorem Try.slices_Clone_int_zero (a : Addr) (c : Nat) (w : World) :
    Calls Try.prog 108 #[.slice (some a) 0 c] w fun e w' => ∃ v', e = .returned v' ∧ w'.ownsRow w.heap.size 3 1 v' 0 [] ∧ v' ≠ .slice none 0 0 ∧ Below w.heap.size w w' := Any.slices_Clone_int_zero Try.laysNm215 a c w
def Try.laysNm220_ren : Go.Shelf.Ren := ⟨fun | 20 => 128 | n => n, fun | 22 => 40 | 3 => 3 | 4 => 4 | 0 => 0 | n => n, fun | n => n⟩
theorem Try.laysNm220 : Go.Proofs.Lays2.n20 Try.prog Try.laysNm220_ren := {
  mixed := by kernel_rfl
  f20 := Try.func128.trans (congrArg some (by kernel_rfl))
  t0 := Try.underlying0
  a0 := Try.isAgg0
  z0 := Try.sizeOf0
  v0 := Try.zeroValue0
  t3 := Try.underlying3
  a3 := Try.isAgg3
  z3 := Try.sizeOf3
  v3 := Try.zeroValue3
  t4 := Try.underlying4
  a4 := Try.isAgg4
  z4 := Try.sizeOf4
  v4 := Try.zeroValue4
  t22 := Try.underlying40
  a22 := Try.isAgg40
  z22 := Try.sizeOf40
  v22 := Try.zeroValue40
  i3 := by kernel_rfl }
open Go.RowKit Go.Lib Go.Sort in
/-- slices.Compact at []int: "Compact replaces consecutive runs of equal elements with a single copy. This is like the uniq command found on Unix. Compact modifies the contents of the slice s and returns the modified slice, which may have a smaller length. Compact zeroes the elements between the new length and the original length. The result preserves the nilness of s.": IT RETURNS THE SLICE CUT TO 'Lib.compact zs'; ITS CELLS HOLD 'Lib.compact zs', THEN ZERO VALUES up to the old length; all else is as it was, but for the count of draws. IN THE WORDS OF slices.Sort's CONTRACT ('Holds', 'putRow'): so the everyday 'slices.Sort(xs); xs = slices.Compact(xs)' goes from the one contract to the other. It asks 'zs.length ≤ cap' (every slice's: the reslicing 's[:k]' looks at it). Length 0, nil: '.._empty'. (LAID: no walk: one application.) -/
theorem Try.slices_Compact_int (blk off cap : Nat) (zs : List Int) (w : World) (hH : Holds (Value.int .i64) w blk off zs.toArray) (hsz : zs.length ≤ 9223372036854775807) (hcap : zs.length ≤ cap) :
    Calls Try.prog 128 #[.slice (some ⟨blk, off, none⟩) zs.length cap] w fun e w' => e = .returned (.slice (some ⟨blk, off, none⟩) (Lib.compact zs).length cap) ∧ ∃ q, w' = putRow (Value.int .i64) (Sort.ahead w q) blk off (Lib.compact zs ++ List.replicate (zs.length - (Lib.compact zs).length) 0).toArray := Any.slices_Compact_int Try.laysNm220 blk off cap zs w hH hsz hcap
open Go.RowKit Go.Lib Go.Sort in
/-- The same at a slice of length 0, a nil one too: it comes back as it is. (LAID: no walk: one application.) -/
theorem Try.slices_Compact_int_empty (a : Option Addr) (cap : Nat) (w : World) :
    Calls Try.prog 128 #[.slice a 0 cap] w fun e w' => e = .returned (.slice a 0 cap) ∧ w' = w := Any.slices_Compact_int_empty Try.laysNm220 a cap w
open Go.RowKit Go.Sort in
/-- .. and plain. (LAID: no walk: one application.) -/
theorem Try.slices_Sort_int_none (p : Option Addr) (cap : Nat) (w : World) :
    Calls Try.prog 127 #[.slice p 0 cap] w fun e w' => e = .returned (.tuple #[]) ∧ w' = w := Any.slices_Sort_int_none Try.lays189 p cap w
end Go.Proofs
end

section
/- Contracts on what puts numbers in order: the program's slices.Clone and lit.Sorted, the document's Sorted. -/
namespace Go.Proofs.Ytcjoohaagdihlaa.Sorted
open Go.RowKit Go.Lt Go.Proofs.Ytcjoohaagdihlaa.Lit
set_option linter.unusedVariables false
set_option linter.unusedSimpArgs false

theorem info_i : (Try.prog.info? 3).map (fun i => (i.zero, i.size, i.bytes)) = some (some (.int .i64 0), 1, 8) := by kernel_rfl
theorem ivs_one {l : List Int} : ∀ u ∈ ivs l, u.oneCell' = true := by
  intro u hu
  obtain ⟨x, _, rfl⟩ := List.mem_map.1 hu
  rfl
theorem ivs_len (l : List Int) : (ivs l).length = l.length := by simp [ivs]

set_option maxHeartbeats 1000000 in
theorem slices_Clone (A : Option Addr) (n c : Nat) (l : List Int) (w : World) (hn : n ≤ 1000000) (hr : Rd w A n (ivs l)) :
    Calls Try.prog 108 #[.slice A n c] w fun e w' => ∃ v, e = .returned v ∧ w'.ownsRow w.heap.size 3 1 v n (ivs l) ∧ Below w.heap.size w w' := by
  have q22 : ∀ (w : World) (a : Option Addr) (n c n' c' : Nat), (binOp .eql 40 (.slice a n c) (.slice none n' c')).run Try.prog w = .ok (.bool a.isNone) w := fun w a n c n' c' => Lib.run_eql_slice_nil w _ _ a n c n' c' Try.underlying40
  have hl := hide hr.len
  have HN := hide hn
  clear hn
  rcases A with _ | ad
  · have h0 := hr.none
    subst h0
    have hl0 : l = [] := List.eq_nil_of_length_eq_zero hl.out
    subst hl0
    clear hl
    go_enter Try.func108, Try.ntmps108
    go_wp2
    go_ret
    exact ⟨_, rfl, World.ownsRow_nil _ _ _ _, Below.refl _ _⟩
  · go_enter Try.func108, Try.ntmps108
    go_wp2_with (at_builtin; refine wpList_append_rd rfl _ _ _ rfl Try.underlying40 info_i rfl rfl rfl (World.ownsRow_lit w #[] 0 (Nat.le_refl _) (by unfold maxLen; omega) rfl) ((Below.refl w.heap.size w).alloc (Nat.le_refl _) _) (by simp) (hr.below ((Below.refl w.heap.size w).alloc (Nat.le_refl _) _) (Nat.le_refl _)) ivs_one (by have := HN.out; unfold maxLen; omega) (by have := HN.out; omega) ?_; intro v4 w4 hown4 hb4)
    go_ret
    exact ⟨_, rfl, by simpa using hown4, hb4⟩

theorem lit_Sorted (A : Option Addr) (n c : Nat) (l : List Int) (w : World) (hn : n ≤ 1000000) (hr : Rd w A n (ivs l)) :
    Calls Try.prog 87 #[.slice A n c] w fun e w' => ∃ v, e = .returned v ∧ w'.ownsRow w.heap.size 3 1 v (srt l).length (ivs (srt l)) ∧ Below w.heap.size w w' := by
  have hl := hide hr.len
  go_enter Try.func87, Try.ntmps87
  go_wp2_with fail
  refine (slices_Clone _ _ _ l _ hn hr).mono ?_
  rintro e w1 ⟨v, rfl, hown, hb⟩
  rcases hown.2 with ⟨rfl, hx⟩ | ⟨g, cap, cur, rfl, hbg, hg, hnc, hcm, hcs, htake⟩
  · have hl0 : l = [] := List.eq_nil_of_length_eq_zero (by have := hl.out; omega)
    subst hl0
    have hn0 : n = 0 := hl.out.symm
    subst hn0
    clear hown hx hl
    go_wp2_with fail
    refine (Try.slices_Sort_int_none _ _ _).mono ?_
    rintro e w2 ⟨rfl, rfl⟩
    go_wp2_with fail
    refine (Try.slices_Compact_int_empty _ _ _).mono ?_
    rintro e w3 ⟨rfl, rfl⟩
    go_wp2
    go_ret
    exact ⟨_, rfl, World.ownsRow_nil _ _ _ _, hb⟩
  · have hn' : n = l.length := hl.out.symm
    subst hn'
    have hg' : g < w1.heap.size := (Array.getElem?_eq_some_iff.1 hg).1
    have htake' : cur.toList.take l.length = l.map (Value.int .i64) := by rw [Nat.mul_one] at htake; exact htake
    have hH := Go.holds_of_blockI hg htake'
    clear hown hl
    go_wp2_with fail
    refine (Try.slices_Sort_int g 0 cap l _ hH hg' (by omega)).mono ?_
    rintro e w2 ⟨rfl, q, os, hw2⟩
    obtain ⟨sl, hsl⟩ : ∃ sl, sl = l.mergeSort fun x y => decide (x ≤ y) := ⟨_, rfl⟩
    have hs : Lib.compact sl = srt l := by rw [hsl]; exact compact_sort l
    have hlen : sl.length = l.length := by rw [hsl]; exact List.length_mergeSort _
    rw [← hsl] at hw2
    obtain ⟨cur2, hg2, ht2, hz2⟩ : ∃ cur2, w2.heap[g]? = some (.cells cur2 3 (0, 0)) ∧ cur2.toList.take sl.length = sl.map (Value.int .i64) ∧ cur2.size = cur.size := by
      rw [hw2]
      exact ⟨_, Go.heap_sortedI _ hg, Go.take_putCellsI cur sl (by omega), by simp [Sort.putCells]⟩
    have hgr2 : w1.grownBy w2 (some g) := by rw [hw2]; exact Go.grownBy_sortedI _
    have hb2 : Below w.heap.size w w2 := hb.grown hgr2 hb.size (fun k hk => by cases hk; exact hbg)
    have hC := Try.slices_Compact_int g 0 cap sl w2 (Go.holds_of_blockI hg2 ht2) (by omega) (by omega)
    rw [hlen] at hC
    rw [hs] at hC
    have hk : (srt l).length ≤ l.length := srt_len l
    have hG := hide (show ∀ (w3 : World) (q : Nat), w3 = Sort.putRow (Value.int .i64) (Sort.ahead w2 q) g 0 (srt l ++ List.replicate (l.length - (srt l).length) 0).toArray →
        w3.ownsRow w.heap.size 3 1 (.slice (some ⟨g, 0, none⟩) (srt l).length cap) (srt l).length (ivs (srt l)) ∧ Below w.heap.size w w3 by
      intro w3 q3 e3
      have hlz : (srt l ++ List.replicate (l.length - (srt l).length) 0).length = l.length := by rw [List.length_append, List.length_replicate]; omega
      obtain ⟨cur3, hg3, ht3, hz3⟩ : ∃ cur3, w3.heap[g]? = some (.cells cur3 3 (0, 0)) ∧ cur3.toList.take l.length = (srt l ++ List.replicate (l.length - (srt l).length) 0).map (Value.int .i64) ∧ cur3.size = cur2.size := by
        have h1 := Go.heap_sortedI (n := q3) (os := #[]) (srt l ++ List.replicate (l.length - (srt l).length) 0).toArray hg2
        rw [Sort.grow_empty, ← e3] at h1
        refine ⟨_, h1, ?_, by simp [Sort.putCells]⟩
        have h2 := Go.take_putCellsI cur2 (srt l ++ List.replicate (l.length - (srt l).length) 0) (by omega)
        rw [hlz] at h2
        exact h2
      have hgr3 : w2.grownBy w3 (some g) := by
        have h1 := Go.grownBy_sortedI (w := w2) (g := g) (n := q3) (os := #[]) (srt l ++ List.replicate (l.length - (srt l).length) 0).toArray
        rw [Sort.grow_empty, ← e3] at h1
        exact h1
      refine ⟨⟨by rw [ivs_len, Nat.mul_one], .inr ⟨g, cap, cur3, rfl, hbg, hg3, by omega, hcm, by omega, ?_⟩⟩, hb2.grown hgr3 hb2.size (fun k hk => by cases hk; exact hbg)⟩
      have h4 : (cur3.toList.take l.length).take (srt l).length = ((srt l ++ List.replicate (l.length - (srt l).length) 0).map (Value.int .i64)).take (srt l).length := by rw [ht3]
      rw [List.take_take, Nat.min_eq_left hk, ← List.map_take, List.take_left] at h4
      rw [Nat.mul_one]
      exact h4)
    clear hw2 hsl hs hlen hH hg hg' htake htake' hcs hg2 ht2 hz2 hgr2 hb2 hb hnc hr hk hn hcm hbg
    go_wp2_with fail
    refine hC.mono ?_
    rintro e w3 ⟨rfl, q3, e3⟩
    have hG := hide (hG.out w3 q3 e3)
    clear hC e3
    go_wp2
    go_ret
    exact ⟨_, rfl, hG.out.1, hG.out.2⟩
end Go.Proofs.Ytcjoohaagdihlaa.Sorted
end
