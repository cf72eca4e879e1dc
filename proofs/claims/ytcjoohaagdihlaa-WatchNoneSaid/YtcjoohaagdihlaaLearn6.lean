/- What is learned of steps: the plain law of the clause, step by step. No program in sight. -/
import Derived.Test.YtcjoohaagdihlaaLearn2
namespace Go.Proofs.Ytcjoohaagdihlaa.Learn
open Go.RowKit Go.Lt Go.Proofs.Ytcjoohaagdihlaa.Lit Go.Proofs.Ytcjoohaagdihlaa.Sorted
set_option linter.unusedVariables false
set_option linter.unusedSimpArgs false

theorem not_not {x : Int} (h : litGood x = true) : litNot (litNot x) = x ∧ litGood (litNot x) = true := by
  obtain ⟨h0, h1⟩ := good_iff.1 h
  have e : litNot x = if x % 2 = 1 then x - 1 else x + 1 := by unfold litNot; rw [h]; rfl
  have hg : litGood (litNot x) = true := by rw [e]; exact good_iff.2 (by split <;> omega)
  refine ⟨?_, hg⟩
  have e2 : litNot (litNot x) = if litNot x % 2 = 1 then litNot x - 1 else litNot x + 1 := by
    show (if litGood (litNot x) then _ else _) = _
    rw [hg]; rfl
  rw [e2, e]
  split <;> split <;> omega
theorem not_half {x : Int} (h : litGood x = true) : litNot x / 2 = x / 2 := by
  obtain ⟨h0, h1⟩ := good_iff.1 h
  have e : litNot x = if x % 2 = 1 then x - 1 else x + 1 := by unfold litNot; rw [h]; rfl
  rw [e]; split <;> omega
def plN (l : List St) (x : Int) : Nat := (placeO l x).getD 0
def levOf (l : List St) (x : Int) : Int := (stAt l (plN l x)).lev
/-- one that may be in a clause: the inverse of a step's literal, whose level is above 0 -/
structure Mem (l : List St) (x : Int) : Prop where
  one : 1 < x
  good : litGood x = true
  lt : plN l x < l.length
  at_ : (stAt l (plN l x)).lit = litNot x
  place : placeO l x = some (plN l x)
theorem place_of {l : List St} {n : Nat} (h : OkTo l n) {i : Nat} (hi : i < n) (hn : n ≤ l.length) {x : Int} (hx : (stAt l i).lit / 2 = x / 2) : placeO l x = some i := by
  have hs := h i hi
  have hn0 : placeO (l.take i) x = none := by
    have := hs.new
    unfold placeO at this ⊢
    rw [hx] at this
    exact this
  exact find_step (stAt_get (by omega)) hn0 hx
theorem mem_zero {l : List St} (h : OkTo l l.length) {i : Nat} (hi : i ≤ l.length) {x : Int} (hx : 1 < x) (hz : zeroB (l.take i) x = true) : Mem l x ∧ plN l x < i := by
  unfold zeroB at hz
  rw [Bool.or_eq_true, Bool.and_eq_true, List.any_eq_true] at hz
  rcases hz with hz | ⟨hg, s, hs, he⟩
  · have : x = 0 := by simpa using hz
    omega
  · have he : s.lit = litNot x := by simpa using he
    obtain ⟨j, hj, e⟩ := List.mem_take_iff_getElem.1 hs
    have hjl : j < l.length := by omega
    have hst : stAt l j = s := stAt_is (by rw [List.getElem?_eq_getElem hjl, e])
    have hp := place_of h hjl (Nat.le_refl _) (x := x) (by rw [hst, he, not_half hg])
    have hpl : plN l x = j := by unfold plN; rw [hp]; rfl
    exact ⟨⟨hx, hg, by rw [hpl]; exact hjl, by rw [hpl, hst, he], by rw [hpl]; exact hp⟩, by omega⟩
theorem mem_inj {l : List St} {x y : Int} (hx : Mem l x) (hy : Mem l y) (h : plN l x = plN l y) : x = y := by
  have h1 := hx.at_
  have h2 := hy.at_
  rw [h, h2] at h1
  rw [← (not_not hx.good).1, ← (not_not hy.good).1, h1]
theorem mem_not {l : List St} {x : Int} (hx : Mem l x) : litNot (stAt l (plN l x)).lit = x := by rw [hx.at_, (not_not hx.good).1]
/-- levels rise -/
theorem lev_rise {l : List St} (h : OkTo l l.length) {i j : Nat} (hij : i ≤ j) (hj : j < l.length) : (stAt l i).lev ≤ (stAt l j).lev := by
  induction j with
  | zero => have : i = 0 := by omega
            subst this; exact Int.le_refl _
  | succ j ih =>
    by_cases he : i = j + 1
    · subst he; exact Int.le_refl _
    · have h1 := ih (by omega) (by omega)
      have h2 := (h (j + 1) hj).up
      have h2 : (stAt l j).lev ≤ (stAt l (j + 1)).lev := h2
      omega
def lastL (l : List St) : Int := (stAt l (l.length - 1)).lev
theorem lev_last {l : List St} (h : OkTo l l.length) {i : Nat} (hi : i < l.length) : (stAt l i).lev ≤ lastL l := lev_rise h (by omega) (by omega)
/-- literals are put to a clause -/
def putB (l : List St) (but : Int) (out : List Int) (x : Int) : Bool := decide (1 < x) && decide (x ≠ but) && !hasB out x && decide (0 < levOf l x)
def put1 (l : List St) (but : Int) (out : List Int) (x : Int) : List Int := if putB l but out x = true then out ++ [x] else out
def putP (l : List St) (out more : List Int) (but : Int) : List Int := more.foldl (put1 l but) out
theorem putP_snoc (l : List St) (out more : List Int) (but x : Int) : putP l out (more ++ [x]) but = put1 l but (putP l out more but) x := by simp [putP]
theorem put_mem {l : List St} {but : Int} {more : List Int} : ∀ {out : List Int} {y : Int}, y ∈ putP l out more but ↔ y ∈ out ∨ (y ∈ more ∧ 1 < y ∧ y ≠ but ∧ 0 < levOf l y) := by
  induction more with
  | nil => intro out y; simp [putP]
  | cons x more ih =>
    intro out y
    show y ∈ putP l (put1 l but out x) more but ↔ _
    rw [ih]
    have h1 : y ∈ put1 l but out x ↔ y ∈ out ∨ (y = x ∧ 1 < y ∧ y ≠ but ∧ 0 < levOf l y) := by
      unfold put1 putB
      split
      · rename_i h
        simp only [Bool.and_eq_true, decide_eq_true_eq, Bool.not_eq_true'] at h
        rw [List.mem_append, List.mem_singleton]
        constructor
        · rintro (h2 | rfl)
          · exact .inl h2
          · exact .inr ⟨rfl, h.1.1.1, h.1.1.2, h.2⟩
        · rintro (h2 | ⟨h2, _⟩)
          · exact .inl h2
          · exact .inr h2
      · rename_i h
        constructor
        · exact .inl
        · rintro (h2 | ⟨rfl, a, b, c⟩)
          · exact h2
          · cases hh : hasB out y with
            | true => exact has_iff.1 hh
            | false => exact absurd (by simp [a, b, c, hh]) h
    rw [h1, List.mem_cons]
    constructor
    · rintro ((h2 | ⟨h2, h3⟩) | ⟨h2, h3⟩)
      · exact .inl h2
      · exact .inr ⟨.inl h2, h3⟩
      · exact .inr ⟨.inr h2, h3⟩
    · rintro (h2 | ⟨h2 | h2, h3⟩)
      · exact .inl (.inl h2)
      · exact .inl (.inr ⟨h2, h3⟩)
      · exact .inr ⟨h2, h3⟩
theorem put_nodup {l : List St} {but : Int} {more : List Int} : ∀ {out : List Int}, out.Nodup → (putP l out more but).Nodup := by
  induction more with
  | nil => intro out h; exact h
  | cons x more ih =>
    intro out h
    show (putP l (put1 l but out x) more but).Nodup
    refine ih ?_
    unfold put1
    split
    · rename_i hb
      unfold putB at hb
      simp only [Bool.and_eq_true, Bool.not_eq_true'] at hb
      have hx : x ∉ out := fun hm => by have := has_iff.2 hm; rw [hb.1.2] at this; cases this
      rw [List.nodup_append]
      refine ⟨h, by simp, fun a ha b hb2 => ?_⟩
      rw [List.mem_singleton.1 hb2]
      exact fun e => hx (e ▸ ha)
    · exact h
theorem put_len (l : List St) (but : Int) : ∀ (more out : List Int), (putP l out more but).length ≤ out.length + more.length
  | [], out => by simp [putP]
  | x :: more, out => by
    have h1 := put_len l but more (put1 l but out x)
    have h2 : (put1 l but out x).length ≤ out.length + 1 := by unfold put1; split <;> simp
    show (putP l (put1 l but out x) more but).length ≤ _
    rw [List.length_cons]; omega
def hereP (l : List St) (c : List Int) : Nat := (c.filter fun x => decide (levOf l x = lastL l)).length
def top1 (l : List St) (a : Int) (x : Int) : Int := if levOf l x = lastL l ∧ a < plN l x then (plN l x : Int) else a
def topP (l : List St) (c : List Int) : Int := c.foldl (top1 l) (-1)
theorem here_snoc (l : List St) (c : List Int) (x : Int) : hereP l (c ++ [x]) = if levOf l x = lastL l then hereP l c + 1 else hereP l c := by
  unfold hereP
  rw [List.filter_append, List.length_append]
  by_cases h : levOf l x = lastL l <;> simp [h]
theorem top_snoc (l : List St) (c : List Int) (x : Int) : topP l (c ++ [x]) = top1 l (topP l c) x := by simp [topP]
/-- the greatest place of what is of the last level -/
theorem top_is (l : List St) : ∀ c : List Int, (topP l c = -1 ∧ hereP l c = 0) ∨ (∃ x ∈ c, levOf l x = lastL l ∧ topP l c = plN l x) := by
  intro c
  have key : ∀ (c : List Int) (a : Int), c.foldl (top1 l) a = a ∨ ∃ x ∈ c, levOf l x = lastL l ∧ c.foldl (top1 l) a = plN l x := by
    intro c
    induction c with
    | nil => intro a; exact .inl rfl
    | cons x c ih =>
      intro a
      rcases ih (top1 l a x) with h | ⟨y, hy, h1, h2⟩
      · by_cases hc : levOf l x = lastL l ∧ a < plN l x
        · have e : top1 l a x = (plN l x : Int) := by unfold top1; rw [if_pos hc]
          rw [e] at h
          exact .inr ⟨x, List.mem_cons_self, hc.1, by show c.foldl (top1 l) (top1 l a x) = _; rw [e]; exact h⟩
        · have e : top1 l a x = a := by unfold top1; rw [if_neg hc]
          rw [e] at h
          left
          show c.foldl (top1 l) (top1 l a x) = a
          rw [e]; exact h
      · exact .inr ⟨y, List.mem_cons_of_mem _ hy, h1, h2⟩
  have ge : ∀ (c : List Int) (a : Int), a ≤ c.foldl (top1 l) a := by
    intro c
    induction c with
    | nil => intro a; exact Int.le_refl _
    | cons x c ih =>
      intro a
      have h1 := ih (top1 l a x)
      have h2 : a ≤ top1 l a x := by unfold top1; split <;> omega
      show a ≤ c.foldl (top1 l) (top1 l a x)
      omega
  rcases key c (-1) with h | h
  · left
    refine ⟨h, ?_⟩
    unfold hereP
    rw [List.length_eq_zero_iff, List.filter_eq_nil_iff]
    intro x hx
    have : ∀ (c : List Int) (a : Int), x ∈ c → levOf l x = lastL l → (plN l x : Int) ≤ c.foldl (top1 l) a := by
      intro c
      induction c with
      | nil => intro a hx; cases hx
      | cons y c ih =>
        intro a hx hl
        rcases List.mem_cons.1 hx with rfl | hx
        · have h1 := ge c (top1 l a x)
          have h2 : (plN l x : Int) ≤ top1 l a x := by unfold top1; split <;> omega
          show _ ≤ c.foldl (top1 l) (top1 l a x)
          omega
        · exact ih _ hx hl
    intro hl
    have h2 := this c (-1) hx (by simpa using hl)
    have h3 : c.foldl (top1 l) (-1) = -1 := h
    omega
  · exact .inr h
theorem top_ge {l : List St} {c : List Int} {x : Int} (hx : x ∈ c) (hl : levOf l x = lastL l) : (plN l x : Int) ≤ topP l c := by
  have ge : ∀ (c : List Int) (a : Int), a ≤ c.foldl (top1 l) a := by
    intro c
    induction c with
    | nil => intro a; exact Int.le_refl _
    | cons x c ih =>
      intro a
      have h1 := ih (top1 l a x)
      have h2 : a ≤ top1 l a x := by unfold top1; split <;> omega
      show a ≤ c.foldl (top1 l) (top1 l a x)
      omega
  have : ∀ (c : List Int) (a : Int), x ∈ c → (plN l x : Int) ≤ c.foldl (top1 l) a := by
    intro c
    induction c with
    | nil => intro a hx; cases hx
    | cons y c ih =>
      intro a hx
      rcases List.mem_cons.1 hx with rfl | hx
      · have h1 := ge c (top1 l a x)
        have h2 : (plN l x : Int) ≤ top1 l a x := by unfold top1; split <;> omega
        show _ ≤ c.foldl (top1 l) (top1 l a x)
        omega
      · exact ih _ hx
  exact this c (-1) hx
def restP (l : List St) (a : Int) (c : List Int) : List Int := c.filter fun x => decide ((plN l x : Int) ≠ a)
def stepP (l : List St) (c : List Int) : List Int := putP l (restP l (topP l c) c) (stAt l (topP l c).toNat).why (stAt l (topP l c).toNat).lit
def cN (l : List St) (bad : List Int) : Nat → List Int
  | 0 => putP l [] bad 0
  | n + 1 => stepP l (cN l bad n)
/-- all of a clause's literals are such -/
structure ClOk (l : List St) (c : List Int) : Prop where
  nodup : c.Nodup
  mem : ∀ x ∈ c, Mem l x ∧ 0 < levOf l x
theorem cl_zero {l : List St} {bad : List Int} (h : GoodP l bad) : ClOk l (cN l bad 0) :=
  ⟨put_nodup List.nodup_nil, fun x hx => by
    rcases put_mem.1 hx with h1 | ⟨h1, h2, _, h4⟩
    · cases h1
    · exact ⟨(mem_zero h.1 (Nat.le_refl _) h2 (by rw [List.take_length]; exact h.2 x h1)).1, h4⟩⟩
theorem top_lt {l : List St} {c : List Int} (hc : ClOk l c) (h2 : 1 ≤ hereP l c) : ∃ x ∈ c, levOf l x = lastL l ∧ topP l c = plN l x ∧ plN l x < l.length := by
  rcases top_is l c with ⟨_, h⟩ | ⟨x, hx, h3, h4⟩
  · omega
  · exact ⟨x, hx, h3, h4, (hc.mem x hx).1.lt⟩
theorem cl_step {l : List St} {bad c : List Int} (h : GoodP l bad) (hc : ClOk l c) (h2 : 1 ≤ hereP l c) : ClOk l (stepP l c) ∧ ∀ x ∈ stepP l c, levOf l x = lastL l → (plN l x : Int) < topP l c := by
  obtain ⟨z, hz, hzl, ht, hzn⟩ := top_lt hc h2
  have htn : (topP l c).toNat = plN l z := by rw [ht]; simp
  have hst := h.1 (plN l z) hzn
  have hnew : ∀ x, x ∈ (stAt l (plN l z)).why → 1 < x → x ≠ (stAt l (plN l z)).lit → Mem l x ∧ plN l x < plN l z := fun x hx h1 hne => by
    have hw := hst.why x hx
    unfold whyB at hw
    rw [Bool.or_eq_true] at hw
    rcases hw with hw | hw
    · exact absurd (by simpa using hw) hne
    · exact mem_zero h.1 (Nat.le_of_lt hzn) h1 hw
  have hr : ∀ x, x ∈ restP l (topP l c) c → x ∈ c ∧ (plN l x : Int) ≠ topP l c := fun x hx => by
    obtain ⟨a, b⟩ := List.mem_filter.1 hx
    exact ⟨a, by simpa using b⟩
  refine ⟨⟨?_, fun x hx => ?_⟩, fun x hx hl => ?_⟩
  · exact put_nodup (hc.nodup.filter _)
  · rcases put_mem.1 hx with h1 | ⟨h1, h3, h4, h5⟩
    · exact hc.mem x (hr x h1).1
    · rw [htn] at h1 h4
      exact ⟨(hnew x h1 h3 h4).1, h5⟩
  · rcases put_mem.1 hx with h1 | ⟨h1, h3, h4, h5⟩
    · have := top_ge (hr x h1).1 hl
      have := (hr x h1).2
      omega
    · rw [htn] at h1 h4
      have := (hnew x h1 h3 h4).2
      rw [ht]; omega
theorem cl_all {l : List St} {bad : List Int} (h : GoodP l bad) : ∀ n, (∀ j, j < n → 2 ≤ hereP l (cN l bad j)) → ClOk l (cN l bad n)
  | 0, _ => cl_zero h
  | n + 1, hj => (cl_step h (cl_all h n (fun j hj' => hj j (by omega))) (by have := hj n (by omega); omega)).1
/-- the level to go back to -/
def back1 (l : List St) (b : Int) (x : Int) : Int := if levOf l x < lastL l ∧ b < levOf l x then levOf l x else b
def backP (l : List St) (c : List Int) : Int := c.foldl (back1 l) 0
theorem back_snoc (l : List St) (c : List Int) (x : Int) : backP l (c ++ [x]) = back1 l (backP l c) x := by simp [backP]
/-- what is learned: none, or a clause and a level -/
def FirstIs (l : List St) (bad : List Int) (r : Option (List Int × Int)) : Prop :=
  ((goodB l bad = false ∨ l = []) ∧ r = none) ∨
  (goodB l bad = true ∧ l ≠ [] ∧ ∃ n, (∀ j, j < n → 2 ≤ hereP l (cN l bad j)) ∧ hereP l (cN l bad n) ≤ 1 ∧ r = if hereP l (cN l bad n) = 1 then some (srt (cN l bad n), backP l (cN l bad n)) else none)
theorem first_one {l : List St} {bad : List Int} {r r' : Option (List Int × Int)} (h : FirstIs l bad r) (h' : FirstIs l bad r') : r = r' := by
  rcases h with ⟨h1, rfl⟩ | ⟨h1, h2, n, h3, h4, rfl⟩ <;> rcases h' with ⟨k1, rfl⟩ | ⟨k1, k2, m, k3, k4, rfl⟩
  · rfl
  · rcases h1 with h1 | h1
    · rw [h1] at k1; cases k1
    · exact absurd h1 k2
  · rcases k1 with k1 | k1
    · rw [k1] at h1; cases h1
    · exact absurd k1 h2
  · have e : n = m := by
      rcases Nat.lt_trichotomy n m with h | h | h
      · have := k3 n h; omega
      · exact h
      · have := h3 m h; omega
    subst e; rfl
end Go.Proofs.Ytcjoohaagdihlaa.Learn
