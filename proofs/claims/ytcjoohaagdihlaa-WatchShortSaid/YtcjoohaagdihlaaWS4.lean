/- Texts behind a row, one behind the other: Learn6, Sound1, Units1, Own1. -/
import Derived.Test.YtcjoohaagdihlaaWS3
import Derived.Test.YtcjoohaagdihlaaWS1
section
/- What is learned of steps: the plain law of the clause, step by step. No program in sight. -/
namespace Go.Proofs.Ytcjoohaagdihlaa.Learn
open Go.RowKit Go.Lt Go.Proofs.Ytcjoohaagdihlaa.Lit Go.Proofs.Ytcjoohaagdihlaa.Sorted
set_option linter.unusedVariables false
set_option linter.unusedSimpArgs false

theorem not_not {x : Int} (h : litGood x = true) : litNot (litNot x) = x ∧ litGood (litNot x) = true := by
  obtain ⟨h0, h1⟩ := good_iff.1 h
  have e : litNot x = if x % 2 = 1 then x - 1 else x + 1 := by unfold litNot; rw [h]; rfl
  have hg : litGood (litNot x) = true := by rw [e]; exact good_iff.2 (by split <;> omega)
  refine ⟨?_, hg⟩
  have e2 : litNot (litNot x) = if litNot x % 2 = 1 then litNot x - 1 else litNot x + 1 := by
    show (if litGood (litNot x) then _ else _) = _
    rw [hg]; rfl
  rw [e2, e]
  split <;> split <;> omega
theorem not_half {x : Int} (h : litGood x = true) : litNot x / 2 = x / 2 := by
  obtain ⟨h0, h1⟩ := good_iff.1 h
  have e : litNot x = if x % 2 = 1 then x - 1 else x + 1 := by unfold litNot; rw [h]; rfl
  rw [e]; split <;> omega
def plN (l : List St) (x : Int) : Nat := (placeO l x).getD 0
def levOf (l : List St) (x : Int) : Int := (stAt l (plN l x)).lev
/-- one that may be in a clause: the inverse of a step's literal, whose level is above 0 -/
structure Mem (l : List St) (x : Int) : Prop where
  one : 1 < x
  good : litGood x = true
  lt : plN l x < l.length
  at_ : (stAt l (plN l x)).lit = litNot x
  place : placeO l x = some (plN l x)
theorem place_of {l : List St} {n : Nat} (h : OkTo l n) {i : Nat} (hi : i < n) (hn : n ≤ l.length) {x : Int} (hx : (stAt l i).lit / 2 = x / 2) : placeO l x = some i := by
  have hs := h i hi
  have hn0 : placeO (l.take i) x = none := by
    have := hs.new
    unfold placeO at this ⊢
    rw [hx] at this
    exact this
  exact find_step (stAt_get (by omega)) hn0 hx
theorem mem_zero {l : List St} (h : OkTo l l.length) {i : Nat} (hi : i ≤ l.length) {x : Int} (hx : 1 < x) (hz : zeroB (l.take i) x = true) : Mem l x ∧ plN l x < i := by
  unfold zeroB at hz
  rw [Bool.or_eq_true, Bool.and_eq_true, List.any_eq_true] at hz
  rcases hz with hz | ⟨hg, s, hs, he⟩
  · have : x = 0 := by simpa using hz
    omega
  · have he : s.lit = litNot x := by simpa using he
    obtain ⟨j, hj, e⟩ := List.mem_take_iff_getElem.1 hs
    have hjl : j < l.length := by omega
    have hst : stAt l j = s := stAt_is (by rw [List.getElem?_eq_getElem hjl, e])
    have hp := place_of h hjl (Nat.le_refl _) (x := x) (by rw [hst, he, not_half hg])
    have hpl : plN l x = j := by unfold plN; rw [hp]; rfl
    exact ⟨⟨hx, hg, by rw [hpl]; exact hjl, by rw [hpl, hst, he], by rw [hpl]; exact hp⟩, by omega⟩
theorem mem_inj {l : List St} {x y : Int} (hx : Mem l x) (hy : Mem l y) (h : plN l x = plN l y) : x = y := by
  have h1 := hx.at_
  have h2 := hy.at_
  rw [h, h2] at h1
  rw [← (not_not hx.good).1, ← (not_not hy.good).1, h1]
theorem mem_not {l : List St} {x : Int} (hx : Mem l x) : litNot (stAt l (plN l x)).lit = x := by rw [hx.at_, (not_not hx.good).1]
/-- levels rise -/
theorem lev_rise {l : List St} (h : OkTo l l.length) {i j : Nat} (hij : i ≤ j) (hj : j < l.length) : (stAt l i).lev ≤ (stAt l j).lev := by
  induction j with
  | zero => have : i = 0 := by omega
            subst this; exact Int.le_refl _
  | succ j ih =>
    by_cases he : i = j + 1
    · subst he; exact Int.le_refl _
    · have h1 := ih (by omega) (by omega)
      have h2 := (h (j + 1) hj).up
      have h2 : (stAt l j).lev ≤ (stAt l (j + 1)).lev := h2
      omega
def lastL (l : List St) : Int := (stAt l (l.length - 1)).lev
theorem lev_last {l : List St} (h : OkTo l l.length) {i : Nat} (hi : i < l.length) : (stAt l i).lev ≤ lastL l := lev_rise h (by omega) (by omega)
/-- literals are put to a clause -/
def putB (l : List St) (but : Int) (out : List Int) (x : Int) : Bool := decide (1 < x) && decide (x ≠ but) && !hasB out x && decide (0 < levOf l x)
def put1 (l : List St) (but : Int) (out : List Int) (x : Int) : List Int := if putB l but out x = true then out ++ [x] else out
def putP (l : List St) (out more : List Int) (but : Int) : List Int := more.foldl (put1 l but) out
theorem putP_snoc (l : List St) (out more : List Int) (but x : Int) : putP l out (more ++ [x]) but = put1 l but (putP l out more but) x := by simp [putP]
theorem put_mem {l : List St} {but : Int} {more : List Int} : ∀ {out : List Int} {y : Int}, y ∈ putP l out more but ↔ y ∈ out ∨ (y ∈ more ∧ 1 < y ∧ y ≠ but ∧ 0 < levOf l y) := by
  induction more with
  | nil => intro out y; simp [putP]
  | cons x more ih =>
    intro out y
    show y ∈ putP l (put1 l but out x) more but ↔ _
    rw [ih]
    have h1 : y ∈ put1 l but out x ↔ y ∈ out ∨ (y = x ∧ 1 < y ∧ y ≠ but ∧ 0 < levOf l y) := by
      unfold put1 putB
      split
      · rename_i h
        simp only [Bool.and_eq_true, decide_eq_true_eq, Bool.not_eq_true'] at h
        rw [List.mem_append, List.mem_singleton]
        constructor
        · rintro (h2 | rfl)
          · exact .inl h2
          · exact .inr ⟨rfl, h.1.1.1, h.1.1.2, h.2⟩
        · rintro (h2 | ⟨h2, _⟩)
          · exact .inl h2
          · exact .inr h2
      · rename_i h
        constructor
        · exact .inl
        · rintro (h2 | ⟨rfl, a, b, c⟩)
          · exact h2
          · cases hh : hasB out y with
            | true => exact has_iff.1 hh
            | false => exact absurd (by simp [a, b, c, hh]) h
    rw [h1, List.mem_cons]
    constructor
    · rintro ((h2 | ⟨h2, h3⟩) | ⟨h2, h3⟩)
      · exact .inl h2
      · exact .inr ⟨.inl h2, h3⟩
      · exact .inr ⟨.inr h2, h3⟩
    · rintro (h2 | ⟨h2 | h2, h3⟩)
      · exact .inl (.inl h2)
      · exact .inl (.inr ⟨h2, h3⟩)
      · exact .inr ⟨h2, h3⟩
theorem put_nodup {l : List St} {but : Int} {more : List Int} : ∀ {out : List Int}, out.Nodup → (putP l out more but).Nodup := by
  induction more with
  | nil => intro out h; exact h
  | cons x more ih =>
    intro out h
    show (putP l (put1 l but out x) more but).Nodup
    refine ih ?_
    unfold put1
    split
    · rename_i hb
      unfold putB at hb
      simp only [Bool.and_eq_true, Bool.not_eq_true'] at hb
      have hx : x ∉ out := fun hm => by have := has_iff.2 hm; rw [hb.1.2] at this; cases this
      rw [List.nodup_append]
      refine ⟨h, by simp, fun a ha b hb2 => ?_⟩
      rw [List.mem_singleton.1 hb2]
      exact fun e => hx (e ▸ ha)
    · exact h
theorem put_len (l : List St) (but : Int) : ∀ (more out : List Int), (putP l out more but).length ≤ out.length + more.length
  | [], out => by simp [putP]
  | x :: more, out => by
    have h1 := put_len l but more (put1 l but out x)
    have h2 : (put1 l but out x).length ≤ out.length + 1 := by unfold put1; split <;> simp
    show (putP l (put1 l but out x) more but).length ≤ _
    rw [List.length_cons]; omega
def hereP (l : List St) (c : List Int) : Nat := (c.filter fun x => decide (levOf l x = lastL l)).length
def top1 (l : List St) (a : Int) (x : Int) : Int := if levOf l x = lastL l ∧ a < plN l x then (plN l x : Int) else a
def topP (l : List St) (c : List Int) : Int := c.foldl (top1 l) (-1)
theorem here_snoc (l : List St) (c : List Int) (x : Int) : hereP l (c ++ [x]) = if levOf l x = lastL l then hereP l c + 1 else hereP l c := by
  unfold hereP
  rw [List.filter_append, List.length_append]
  by_cases h : levOf l x = lastL l <;> simp [h]
theorem top_snoc (l : List St) (c : List Int) (x : Int) : topP l (c ++ [x]) = top1 l (topP l c) x := by simp [topP]
/-- the greatest place of what is of the last level -/
theorem top_is (l : List St) : ∀ c : List Int, (topP l c = -1 ∧ hereP l c = 0) ∨ (∃ x ∈ c, levOf l x = lastL l ∧ topP l c = plN l x) := by
  intro c
  have key : ∀ (c : List Int) (a : Int), c.foldl (top1 l) a = a ∨ ∃ x ∈ c, levOf l x = lastL l ∧ c.foldl (top1 l) a = plN l x := by
    intro c
    induction c with
    | nil => intro a; exact .inl rfl
    | cons x c ih =>
      intro a
      rcases ih (top1 l a x) with h | ⟨y, hy, h1, h2⟩
      · by_cases hc : levOf l x = lastL l ∧ a < plN l x
        · have e : top1 l a x = (plN l x : Int) := by unfold top1; rw [if_pos hc]
          rw [e] at h
          exact .inr ⟨x, List.mem_cons_self, hc.1, by show c.foldl (top1 l) (top1 l a x) = _; rw [e]; exact h⟩
        · have e : top1 l a x = a := by unfold top1; rw [if_neg hc]
          rw [e] at h
          left
          show c.foldl (top1 l) (top1 l a x) = a
          rw [e]; exact h
      · exact .inr ⟨y, List.mem_cons_of_mem _ hy, h1, h2⟩
  have ge : ∀ (c : List Int) (a : Int), a ≤ c.foldl (top1 l) a := by
    intro c
    induction c with
    | nil => intro a; exact Int.le_refl _
    | cons x c ih =>
      intro a
      have h1 := ih (top1 l a x)
      have h2 : a ≤ top1 l a x := by unfold top1; split <;> omega
      show a ≤ c.foldl (top1 l) (top1 l a x)
      omega
  rcases key c (-1) with h | h
  · left
    refine ⟨h, ?_⟩
    unfold hereP
    rw [List.length_eq_zero_iff, List.filter_eq_nil_iff]
    intro x hx
    have : ∀ (c : List Int) (a : Int), x ∈ c → levOf l x = lastL l → (plN l x : Int) ≤ c.foldl (top1 l) a := by
      intro c
      induction c with
      | nil => intro a hx; cases hx
      | cons y c ih =>
        intro a hx hl
        rcases List.mem_cons.1 hx with rfl | hx
        · have h1 := ge c (top1 l a x)
          have h2 : (plN l x : Int) ≤ top1 l a x := by unfold top1; split <;> omega
          show _ ≤ c.foldl (top1 l) (top1 l a x)
          omega
        · exact ih _ hx hl
    intro hl
    have h2 := this c (-1) hx (by simpa using hl)
    have h3 : c.foldl (top1 l) (-1) = -1 := h
    omega
  · exact .inr h
theorem top_ge {l : List St} {c : List Int} {x : Int} (hx : x ∈ c) (hl : levOf l x = lastL l) : (plN l x : Int) ≤ topP l c := by
  have ge : ∀ (c : List Int) (a : Int), a ≤ c.foldl (top1 l) a := by
    intro c
    induction c with
    | nil => intro a; exact Int.le_refl _
    | cons x c ih =>
      intro a
      have h1 := ih (top1 l a x)
      have h2 : a ≤ top1 l a x := by unfold top1; split <;> omega
      show a ≤ c.foldl (top1 l) (top1 l a x)
      omega
  have : ∀ (c : List Int) (a : Int), x ∈ c → (plN l x : Int) ≤ c.foldl (top1 l) a := by
    intro c
    induction c with
    | nil => intro a hx; cases hx
    | cons y c ih =>
      intro a hx
      rcases List.mem_cons.1 hx with rfl | hx
      · have h1 := ge c (top1 l a x)
        have h2 : (plN l x : Int) ≤ top1 l a x := by unfold top1; split <;> omega
        show _ ≤ c.foldl (top1 l) (top1 l a x)
        omega
      · exact ih _ hx
  exact this c (-1) hx
def restP (l : List St) (a : Int) (c : List Int) : List Int := c.filter fun x => decide ((plN l x : Int) ≠ a)
def stepP (l : List St) (c : List Int) : List Int := putP l (restP l (topP l c) c) (stAt l (topP l c).toNat).why (stAt l (topP l c).toNat).lit
def cN (l : List St) (bad : List Int) : Nat → List Int
  | 0 => putP l [] bad 0
  | n + 1 => stepP l (cN l bad n)
/-- all of a clause's literals are such -/
structure ClOk (l : List St) (c : List Int) : Prop where
  nodup : c.Nodup
  mem : ∀ x ∈ c, Mem l x ∧ 0 < levOf l x
theorem cl_zero {l : List St} {bad : List Int} (h : GoodP l bad) : ClOk l (cN l bad 0) :=
  ⟨put_nodup List.nodup_nil, fun x hx => by
    rcases put_mem.1 hx with h1 | ⟨h1, h2, _, h4⟩
    · cases h1
    · exact ⟨(mem_zero h.1 (Nat.le_refl _) h2 (by rw [List.take_length]; exact h.2 x h1)).1, h4⟩⟩
theorem top_lt {l : List St} {c : List Int} (hc : ClOk l c) (h2 : 1 ≤ hereP l c) : ∃ x ∈ c, levOf l x = lastL l ∧ topP l c = plN l x ∧ plN l x < l.length := by
  rcases top_is l c with ⟨_, h⟩ | ⟨x, hx, h3, h4⟩
  · omega
  · exact ⟨x, hx, h3, h4, (hc.mem x hx).1.lt⟩
theorem cl_step {l : List St} {bad c : List Int} (h : GoodP l bad) (hc : ClOk l c) (h2 : 1 ≤ hereP l c) : ClOk l (stepP l c) ∧ ∀ x ∈ stepP l c, levOf l x = lastL l → (plN l x : Int) < topP l c := by
  obtain ⟨z, hz, hzl, ht, hzn⟩ := top_lt hc h2
  have htn : (topP l c).toNat = plN l z := by rw [ht]; simp
  have hst := h.1 (plN l z) hzn
  have hnew : ∀ x, x ∈ (stAt l (plN l z)).why → 1 < x → x ≠ (stAt l (plN l z)).lit → Mem l x ∧ plN l x < plN l z := fun x hx h1 hne => by
    have hw := hst.why x hx
    unfold whyB at hw
    rw [Bool.or_eq_true] at hw
    rcases hw with hw | hw
    · exact absurd (by simpa using hw) hne
    · exact mem_zero h.1 (Nat.le_of_lt hzn) h1 hw
  have hr : ∀ x, x ∈ restP l (topP l c) c → x ∈ c ∧ (plN l x : Int) ≠ topP l c := fun x hx => by
    obtain ⟨a, b⟩ := List.mem_filter.1 hx
    exact ⟨a, by simpa using b⟩
  refine ⟨⟨?_, fun x hx => ?_⟩, fun x hx hl => ?_⟩
  · exact put_nodup (hc.nodup.filter _)
  · rcases put_mem.1 hx with h1 | ⟨h1, h3, h4, h5⟩
    · exact hc.mem x (hr x h1).1
    · rw [htn] at h1 h4
      exact ⟨(hnew x h1 h3 h4).1, h5⟩
  · rcases put_mem.1 hx with h1 | ⟨h1, h3, h4, h5⟩
    · have := top_ge (hr x h1).1 hl
      have := (hr x h1).2
      omega
    · rw [htn] at h1 h4
      have := (hnew x h1 h3 h4).2
      rw [ht]; omega
theorem cl_all {l : List St} {bad : List Int} (h : GoodP l bad) : ∀ n, (∀ j, j < n → 2 ≤ hereP l (cN l bad j)) → ClOk l (cN l bad n)
  | 0, _ => cl_zero h
  | n + 1, hj => (cl_step h (cl_all h n (fun j hj' => hj j (by omega))) (by have := hj n (by omega); omega)).1
/-- the level to go back to -/
def back1 (l : List St) (b : Int) (x : Int) : Int := if levOf l x < lastL l ∧ b < levOf l x then levOf l x else b
def backP (l : List St) (c : List Int) : Int := c.foldl (back1 l) 0
theorem back_snoc (l : List St) (c : List Int) (x : Int) : backP l (c ++ [x]) = back1 l (backP l c) x := by simp [backP]
/-- what is learned: none, or a clause and a level -/
def FirstIs (l : List St) (bad : List Int) (r : Option (List Int × Int)) : Prop :=
  ((goodB l bad = false ∨ l = []) ∧ r = none) ∨
  (goodB l bad = true ∧ l ≠ [] ∧ ∃ n, (∀ j, j < n → 2 ≤ hereP l (cN l bad j)) ∧ hereP l (cN l bad n) ≤ 1 ∧ r = if hereP l (cN l bad n) = 1 then some (srt (cN l bad n), backP l (cN l bad n)) else none)
theorem first_one {l : List St} {bad : List Int} {r r' : Option (List Int × Int)} (h : FirstIs l bad r) (h' : FirstIs l bad r') : r = r' := by
  rcases h with ⟨h1, rfl⟩ | ⟨h1, h2, n, h3, h4, rfl⟩ <;> rcases h' with ⟨k1, rfl⟩ | ⟨k1, k2, m, k3, k4, rfl⟩
  · rfl
  · rcases h1 with h1 | h1
    · rw [h1] at k1; cases k1
    · exact absurd h1 k2
  · rcases k1 with k1 | k1
    · rw [k1] at h1; cases h1
    · exact absurd k1 h2
  · have e : n = m := by
      rcases Nat.lt_trichotomy n m with h | h | h
      · have := k3 n h; omega
      · exact h
      · have := h3 m h; omega
    subst e; rfl
end Go.Proofs.Ytcjoohaagdihlaa.Learn
end

section
/- What is learned follows from the clauses: the plain law. No program in sight. -/
namespace Go.Proofs.Ytcjoohaagdihlaa.Learn
open Go.RowKit Go.Lt Go.Proofs.Ytcjoohaagdihlaa.Lit Go.Proofs.Ytcjoohaagdihlaa.Sorted
set_option linter.unusedVariables false
set_option linter.unusedSimpArgs false

def triV (a : Int) : Int := if a = 0 ∨ a = 1 then a else 2
def triNot (a : Int) : Int := if a = 0 then 1 else if a = 1 then 0 else 2
/-- a literal's value -/
def litV (vals : List Int) (x : Int) : Int :=
  if litGood x = true then
    (if x % 2 = 1 then triNot (if x / 2 = 0 then 0 else if x / 2 < vals.length then triV (vals.getD (x / 2).toNat 0) else 2)
     else (if x / 2 = 0 then 0 else if x / 2 < vals.length then triV (vals.getD (x / 2).toNat 0) else 2))
  else 2
/-- a clause's value -/
def valG (V : Int → Int) : Int → List Int → Int
  | out, [] => out
  | out, x :: c => if V x = 1 then 1 else valG V (if V x = 2 then 2 else out) c
/-- the one that is left -/
def unitG (V : Int → Int) : Int → List Int → Int
  | left, [] => left
  | left, x :: c => if V x = 1 ∨ (V x = 2 ∧ (litGood x = false ∨ (0 ≤ left ∧ left ≠ x))) then -1 else unitG V (if V x = 2 then x else left) c
theorem val_zero {V : Int → Int} : ∀ (c : List Int) (out : Int), (∀ x ∈ c, V x = 0) → valG V out c = out
  | [], _, _ => rfl
  | x :: c, out, h => by
    have h0 := h x List.mem_cons_self
    unfold valG
    rw [h0]
    exact val_zero c out (fun y hy => h y (List.mem_cons_of_mem _ hy))
theorem unit_one {V : Int → Int} {y : Int} (hy : V y = 2) (hg : litGood y = true) : ∀ (c : List Int) (left : Int), (∀ x ∈ c, x ≠ y → V x = 0) → (left = -1 ∨ left = y) → (y ∈ c ∨ left = y) → unitG V left c = y
  | [], left, _, _, hc => hc.elim (fun h => absurd h (List.not_mem_nil)) id
  | x :: c, left, h, hl, hc => by
    unfold unitG
    by_cases hx : x = y
    · subst hx
      rw [if_neg, if_pos hy]
      · exact unit_one hy hg c x (fun z hz => h z (List.mem_cons_of_mem _ hz)) (.inr rfl) (.inr rfl)
      · rintro (h1 | ⟨_, h1 | ⟨h1, h2⟩⟩)
        · omega
        · rw [hg] at h1; cases h1
        · rcases hl with rfl | rfl
          · omega
          · exact h2 rfl
    · have h0 := h x List.mem_cons_self hx
      rw [h0, if_neg (by omega), if_neg (by omega)]
      exact unit_one hy hg c left (fun z hz => h z (List.mem_cons_of_mem _ hz)) hl (hc.imp_left fun h1 => by
        rcases List.mem_cons.1 h1 with h1 | h1
        · exact absurd h1.symm hx
        · exact h1)
/-- a clause of which nothing is left to be said -/
structure Clo (V : Int → Int) (c : List Int) : Prop where
  val : valG V 0 c ≠ 0
  unit : ¬ 1 < unitG V (-1) c
structure Vs (V : Int → Int) : Prop where
  c3 : ∀ x, V x = 0 ∨ V x = 1 ∨ V x = 2
  zero : V 0 = 0
  neg : ∀ x, litGood x = true → V x = 1 → V (litNot x) = 0
theorem one_of {V : Int → Int} (hV : Vs V) {c : List Int} {y : Int} (hc : Clo V c) (hy : y ∈ c) (h1 : 1 < y) (hg : litGood y = true) (h0 : ∀ x ∈ c, x ≠ y → V x = 0) : V y = 1 := by
  rcases hV.c3 y with h | h | h
  · exact absurd (val_zero c 0 fun x hx => by
      by_cases e : x = y
      · subst e; exact h
      · exact h0 x hx e) hc.val
  · exact h
  · exact absurd (by rw [unit_one h hg c (-1) h0 (.inl rfl) (.inl hy)]; exact h1) hc.unit
theorem lvl_nonneg {l : List St} (h : OkTo l l.length) : ∀ i, i ≤ l.length → 0 ≤ lvl l i
  | 0, _ => Int.le_refl _
  | i + 1, hi => by
    have h1 := lvl_nonneg h i (by omega)
    have h2 := (h i (by omega)).up
    show 0 ≤ (stAt l i).lev
    omega
theorem neg_of {V : Int → Int} (hV : Vs V) {x : Int} (hg : litGood x = true) (h : V (litNot x) = 1) : V x = 0 := by
  have h2 := not_not hg
  have := hV.neg (litNot x) h2.2 h
  rw [h2.1] at this
  exact this
section
variable {l : List St} {bad : List Int} {V : Int → Int}
theorem step_good (h : OkTo l l.length) {i : Nat} (hi : i < l.length) : litGood (stAt l i).lit = true := good_iff.2 ⟨by have := (h i hi).two; omega, (h i hi).good⟩
/-- what is of level 0 is One -/
theorem one_zero (h : OkTo l l.length) (hV : Vs V) (hwhy : ∀ i, i < l.length → (stAt l i).why ≠ [] → Clo V (stAt l i).why) (i : Nat) : i < l.length → ¬ 0 < (stAt l i).lev → V (stAt l i).lit = 1 := by
  induction i using Nat.strongRecOn with
  | _ i ih =>
    intro hi hl
    have hs := h i hi
    have h0 := lvl_nonneg h i (by omega)
    have hne : (stAt l i).why ≠ [] := fun e => by have := hs.tried.1 e; omega
    refine one_of hV (hwhy i hi hne) (hs.has hne) (by have := hs.two; omega) (step_good h hi) fun x hx hxn => ?_
    have hw := hs.why x hx
    unfold whyB zeroB at hw
    rw [Bool.or_eq_true, Bool.or_eq_true, Bool.and_eq_true, List.any_eq_true] at hw
    rcases hw with hw | hw | ⟨hg, s, hs2, he⟩
    · exact absurd (by simpa using hw) hxn
    · have : x = 0 := by simpa using hw
      rw [this]; exact hV.zero
    · have he : s.lit = litNot x := by simpa using he
      obtain ⟨j, hj, e⟩ := List.mem_take_iff_getElem.1 hs2
      have hst : stAt l j = s := stAt_is (by rw [List.getElem?_eq_getElem (by omega), e])
      have h1 := ih j (by omega) (by omega) (by have := lev_rise h (show j ≤ i by omega) hi; omega)
      rw [hst, he] at h1
      exact neg_of hV hg h1
/-- a literal that is Zero by the steps, but not of a level above 0 -/
theorem zero_low (h : OkTo l l.length) (hV : Vs V) (hwhy : ∀ i, i < l.length → (stAt l i).why ≠ [] → Clo V (stAt l i).why) {i : Nat} (hi : i ≤ l.length) {x : Int} (hz : zeroB (l.take i) x = true) (hx : ¬ (1 < x ∧ 0 < levOf l x)) : V x = 0 := by
  by_cases h1 : 1 < x
  · obtain ⟨hm, _⟩ := mem_zero h hi h1 hz
    have h2 := one_zero h hV hwhy _ hm.lt (fun h3 => hx ⟨h1, h3⟩)
    rw [hm.at_] at h2
    exact neg_of hV hm.good h2
  · unfold zeroB at hz
    rw [Bool.or_eq_true, Bool.and_eq_true, List.any_eq_true] at hz
    rcases hz with hz | ⟨hg, s, hs, he⟩
    · have : x = 0 := by simpa using hz
      rw [this]; exact hV.zero
    · have he : s.lit = litNot x := by simpa using he
      have := (h.lits (Nat.le_refl _) s (by rw [List.take_length]; exact List.mem_of_mem_take hs)).1
      have h2 := not_half hg
      have h3 := (good_iff.1 hg).1
      omega
theorem zero_put (h : OkTo l l.length) (hV : Vs V) (hwhy : ∀ i, i < l.length → (stAt l i).why ≠ [] → Clo V (stAt l i).why) {i : Nat} (hi : i ≤ l.length) {out more : List Int} {but : Int}
    (hz : ∀ x ∈ more, x ≠ but → zeroB (l.take i) x = true) (hp : ∀ x ∈ putP l out more but, V x = 0) : ∀ x ∈ more, x ≠ but → V x = 0 := fun x hx hb => by
  by_cases h1 : 1 < x ∧ 0 < levOf l x
  · exact hp x (put_mem.2 (.inr ⟨hx, h1.1, hb, h1.2⟩))
  · exact zero_low h hV hwhy hi (hz x hx hb) h1
theorem here_two {c : List Int} (hc : c.Nodup) (h2 : 2 ≤ hereP l c) (z : Int) : ∃ y ∈ c, y ≠ z ∧ levOf l y = lastL l := by
  unfold hereP at h2
  have hn : (c.filter fun x => decide (levOf l x = lastL l)).Nodup := hc.filter _
  have hm : ∀ y, y ∈ (c.filter fun x => decide (levOf l x = lastL l)) → y ∈ c ∧ levOf l y = lastL l := fun y hy => by
    obtain ⟨a, b⟩ := List.mem_filter.1 hy
    exact ⟨a, by simpa using b⟩
  match hF : c.filter (fun x => decide (levOf l x = lastL l)) with
  | [] => rw [hF] at h2; simp at h2
  | [_] => rw [hF] at h2; simp at h2
  | a :: b :: t =>
    rw [hF] at hn hm
    have hab : a ≠ b := fun e => by subst e; simp at hn
    by_cases ha : a = z
    · exact ⟨b, (hm b (by simp)).1, fun e => hab (ha.trans e.symm), (hm b (by simp)).2⟩
    · exact ⟨a, (hm a (by simp)).1, ha, (hm a (by simp)).2⟩
theorem zero_step (h : GoodP l bad) (hV : Vs V) (hwhy : ∀ i, i < l.length → (stAt l i).why ≠ [] → Clo V (stAt l i).why) {c : List Int} (hc : ClOk l c) (h2 : 2 ≤ hereP l c) (hp : ∀ x ∈ stepP l c, V x = 0) : ∀ x ∈ c, V x = 0 := fun x hx => by
  obtain ⟨z, hz, hzl, ht, hzn⟩ := top_lt hc (by omega)
  have htn : (topP l c).toNat = plN l z := by rw [ht]; simp
  have hs := h.1 _ hzn
  unfold stepP at hp
  rw [htn, ht] at hp
  by_cases hxz : x = z
  · subst hxz
    have hm := (hc.mem x hz).1
    have hne : (stAt l (plN l x)).why ≠ [] := fun e => by
      have h3 := hs.tried.1 e
      obtain ⟨y, hy, hyx, hyl⟩ := here_two hc.nodup h2 x
      have hmy := (hc.mem y hy).1
      have h4 := top_ge hy hyl
      have h5 : plN l y ≠ plN l x := fun e => hyx (mem_inj hmy hm e)
      have h6 : (stAt l (plN l y)).lev = lastL l := hyl
      have h7 : (stAt l (plN l x)).lev = lastL l := hzl
      obtain ⟨t, ht2⟩ : ∃ t, plN l x = t + 1 := ⟨plN l x - 1, by omega⟩
      have h8 := lev_rise h.1 (show plN l y ≤ t by omega) (show t < l.length by omega)
      rw [ht2] at h3 h7
      have h3 : (stAt l t).lev < (stAt l (t + 1)).lev := h3
      omega
    have h1 := one_of hV (hwhy _ hzn hne) (hs.has hne) (by have := hs.two; omega) (step_good h.1 hzn)
      (zero_put h.1 hV hwhy (i := plN l x) (by omega) (out := restP l (plN l x) c) (but := (stAt l (plN l x)).lit) (fun y hy hyn => by
        have hw := hs.why y hy
        unfold whyB at hw
        rw [Bool.or_eq_true] at hw
        exact hw.elim (fun e => absurd (by simpa using e) hyn) id) hp)
    rw [hm.at_] at h1
    exact neg_of hV hm.good h1
  · refine hp x (put_mem.2 (.inl (List.mem_filter.2 ⟨hx, ?_⟩)))
    have : plN l x ≠ plN l z := fun e => hxz (mem_inj (hc.mem x hx).1 (hc.mem z hz).1 e)
    simp only [decide_eq_true_eq, ne_eq]
    omega
theorem zero_all (h : GoodP l bad) (hV : Vs V) (hwhy : ∀ i, i < l.length → (stAt l i).why ≠ [] → Clo V (stAt l i).why) : ∀ n, (∀ j, j < n → 2 ≤ hereP l (cN l bad j)) → (∀ x ∈ cN l bad n, V x = 0) → ∀ x ∈ cN l bad 0, V x = 0
  | 0, _, hp => hp
  | n + 1, hj, hp => zero_all h hV hwhy n (fun j hj' => hj j (by omega)) (zero_step h hV hwhy (cl_all h n (fun j hj' => hj j (by omega))) (hj n (by omega)) hp)
theorem clo_single (hV : Vs V) {x : Int} (hx : Mem l x) (hc : Clo V [litNot x]) : V x = 0 := by
  have h2 := not_not hx.good
  have h3 := not_half hx.good
  have h4 := hx.one
  exact neg_of hV hx.good (one_of hV hc (List.mem_singleton.2 rfl) (by omega) h2.2 (fun y hy hn => absurd (List.mem_singleton.1 hy) hn))
/-- the clauses, and the inverses of all that is learned, cannot all be so -/
theorem sound_all (h : GoodP l bad) (hV : Vs V) (hwhy : ∀ i, i < l.length → (stAt l i).why ≠ [] → Clo V (stAt l i).why) (hbad : Clo V bad) {n : Nat} (hj : ∀ j, j < n → 2 ≤ hereP l (cN l bad j)) (hc : ∀ x ∈ cN l bad n, Clo V [litNot x]) : False := by
  have hn := cl_all h n hj
  have h0 := zero_all h hV hwhy n hj (fun x hx => clo_single hV (hn.mem x hx).1 (hc x hx))
  refine hbad.val (val_zero bad 0 fun x hx => ?_)
  by_cases hx0 : x = 0
  · subst hx0; exact hV.zero
  · exact zero_put h.1 hV hwhy (Nat.le_refl _) (out := []) (but := 0) (fun y hy _ => by rw [List.take_length]; exact h.2 y hy) h0 x hx hx0
end
theorem lit_vs (vals : List Int) : Vs (litV vals) := by
  have h3 : ∀ a, triV a = 0 ∨ triV a = 1 ∨ triV a = 2 := fun a => by unfold triV; split <;> omega
  have hx3 : ∀ x : Int, (if x / 2 = 0 then (0 : Int) else if x / 2 < vals.length then triV (vals.getD (x / 2).toNat 0) else 2) = 0 ∨ (if x / 2 = 0 then (0 : Int) else if x / 2 < vals.length then triV (vals.getD (x / 2).toNat 0) else 2) = 1 ∨ (if x / 2 = 0 then (0 : Int) else if x / 2 < vals.length then triV (vals.getD (x / 2).toNat 0) else 2) = 2 := fun x => by
    split
    · exact .inl rfl
    · split
      · exact h3 _
      · exact .inr (.inr rfl)
  refine ⟨fun x => ?_, ?_, fun x hg h1 => ?_⟩
  · unfold litV triNot
    have := hx3 x
    generalize (if x / 2 = 0 then (0 : Int) else if x / 2 < vals.length then triV (vals.getD (x / 2).toNat 0) else 2) = a at *
    split
    · split
      · split
        · omega
        · split <;> omega
      · exact this
    · exact .inr (.inr rfl)
  · have : litGood 0 = true := good_iff.2 ⟨by omega, by omega⟩
    unfold litV
    rw [if_pos this]; rfl
  · have h2 := not_not hg
    have hh := not_half hg
    have h0 := (good_iff.1 hg).1
    have e : litNot x = if x % 2 = 1 then x - 1 else x + 1 := by unfold litNot; rw [hg]; rfl
    have hp : litNot x % 2 = 1 ↔ ¬ x % 2 = 1 := by rw [e]; split <;> omega
    unfold litV at h1 ⊢
    rw [if_pos hg] at h1
    rw [if_pos h2.2, hh]
    have := hx3 x
    generalize (if x / 2 = 0 then (0 : Int) else if x / 2 < vals.length then triV (vals.getD (x / 2).toNat 0) else 2) = a at *
    unfold triNot at *
    by_cases hx : x % 2 = 1
    · rw [if_pos hx] at h1
      rw [if_neg (fun e => hp.1 e hx)]
      split at h1
      · assumption
      · split at h1 <;> omega
    · rw [if_neg hx] at h1
      rw [if_pos (hp.2 hx), h1]
      rfl
end Go.Proofs.Ytcjoohaagdihlaa.Learn
end

section
/- All that clauses say of values: the plain law of the document's Units. No program in sight. -/
namespace Go.Proofs.Ytcjoohaagdihlaa.Learn
open Go.RowKit Go.Lt Go.Proofs.Ytcjoohaagdihlaa.Lit Go.Proofs.Ytcjoohaagdihlaa.Sorted
set_option linter.unusedVariables false
set_option linter.unusedSimpArgs false

/-- a literal is set -/
def setV (v : List Int) (x : Int) : List Int := v.set (x / 2).toNat (if x % 2 = 1 then 0 else 1)
abbrev uOf (v : List Int) (c : List Int) : Int := unitG (litV v) (-1) c
/-- one pass over all clauses -/
def passP : List Int → List (List Int) → Bool → Option (List Int × Bool)
  | v, [], m => some (v, m)
  | v, c :: cs, m => if valG (litV v) 0 c = 0 then none else if 1 < uOf v c then passP (setV v (uOf v c)) cs true else passP v cs m
/-- what the passes come to -/
inductive UnitsIs (cs : List (List Int)) : List Int → Option (List Int) → Prop where
  | no {v : List Int} (h : passP v cs false = none) : UnitsIs cs v none
  | done {v out : List Int} (h : passP v cs false = some (out, false)) : UnitsIs cs v (some out)
  | more {v out : List Int} {r : Option (List Int)} (h : passP v cs false = some (out, true)) (h2 : UnitsIs cs out r) : UnitsIs cs v r
theorem unit_mem {V : Int → Int} : ∀ (c : List Int) (left : Int), 1 < unitG V left c → unitG V left c = left ∨ (unitG V left c ∈ c ∧ V (unitG V left c) = 2 ∧ litGood (unitG V left c) = true)
  | [], left, h => .inl rfl
  | x :: c, left, h => by
    unfold unitG at h ⊢
    by_cases h1 : V x = 1 ∨ (V x = 2 ∧ (litGood x = false ∨ (0 ≤ left ∧ left ≠ x)))
    · rw [if_pos h1] at h; omega
    · rw [if_neg h1] at h ⊢
      by_cases h2 : V x = 2
      · rw [if_pos h2] at h ⊢
        have hg : litGood x = true := by
          cases hg : litGood x with
          | true => rfl
          | false => exact absurd (.inr ⟨h2, .inl hg⟩) h1
        rcases unit_mem c x h with e | ⟨a, b, d⟩
        · rw [e]; exact .inr ⟨List.mem_cons_self, h2, hg⟩
        · exact .inr ⟨List.mem_cons_of_mem _ a, b, d⟩
      · rw [if_neg h2] at h ⊢
        rcases unit_mem c left h with e | ⟨a, b, d⟩
        · exact .inl e
        · exact .inr ⟨List.mem_cons_of_mem _ a, b, d⟩
theorem unit_in {v : List Int} {c : List Int} (h : 1 < uOf v c) : uOf v c ∈ c ∧ litV v (uOf v c) = 2 ∧ litGood (uOf v c) = true :=
  (unit_mem c (-1) h).elim (fun e => absurd h (by unfold uOf; rw [e]; omega)) id
/-- how many values are open -/
def openN (v : List Int) : Nat := v.countP fun a => !decide (a = 0 ∨ a = 1)
theorem open_at {v : List Int} {x : Int} (hg : litGood x = true) (h1 : 1 < x) (hl : x / 2 < v.length) (h : litV v x = 2) : ¬ (v.getD (x / 2).toNat 0 = 0 ∨ v.getD (x / 2).toNat 0 = 1) := by
  unfold litV at h
  rw [if_pos hg, if_neg (show ¬ x / 2 = 0 by omega), if_pos hl] at h
  intro h2
  have h3 : triV (v.getD (x / 2).toNat 0) = v.getD (x / 2).toNat 0 := by unfold triV; rw [if_pos h2]
  rw [h3] at h
  unfold triNot at h
  split at h
  · split at h
    · omega
    · split at h <;> omega
  · omega
theorem open_set {v : List Int} {x : Int} (hg : litGood x = true) (h1 : 1 < x) (hl : x / 2 < v.length) (h : litV v x = 2) : openN (setV v x) < openN v := by
  have h2 := open_at hg h1 hl h
  have hk : (x / 2).toNat < v.length := by omega
  have he : v.getD (x / 2).toNat 0 = v[(x / 2).toNat] := by simp [List.getD, hk]
  rw [he] at h2
  unfold openN setV
  have hp : (v.countP fun a => !decide (a = 0 ∨ a = 1)) ≥ 1 := List.countP_pos_iff.2 ⟨v[(x / 2).toNat], List.getElem_mem hk, by simp only [decide_eq_false h2]; rfl⟩
  rw [List.countP_set hk]
  have e1 : (!decide (v[(x / 2).toNat] = 0 ∨ v[(x / 2).toNat] = 1)) = true := by rw [decide_eq_false h2]; rfl
  have e2 : (!decide ((if x % 2 = 1 then (0 : Int) else 1) = 0 ∨ (if x % 2 = 1 then (0 : Int) else 1) = 1)) = false := by split <;> decide
  rw [if_pos e1, if_neg (by rw [e2]; exact Bool.false_ne_true)]
  omega
theorem setV_len (v : List Int) (x : Int) : (setV v x).length = v.length := by simp [setV]
theorem pass_done : ∀ (cs : List (List Int)) (v : List Int) (m : Bool) (v' : List Int), passP v cs m = some (v', false) → m = false ∧ v' = v ∧ ∀ c ∈ cs, Clo (litV v) c
  | [], v, m, v', h => by
    injection h with h
    injection h with h1 h2
    exact ⟨h2, h1.symm, fun c hc => absurd hc List.not_mem_nil⟩
  | c :: cs, v, m, v', h => by
    unfold passP at h
    by_cases h1 : valG (litV v) 0 c = 0
    · rw [if_pos h1] at h; cases h
    · rw [if_neg h1] at h
      by_cases h2 : 1 < uOf v c
      · rw [if_pos h2] at h
        have := (pass_done cs _ _ _ h).1
        cases this
      · rw [if_neg h2] at h
        obtain ⟨a, b, d⟩ := pass_done cs _ _ _ h
        refine ⟨a, b, fun y hy => ?_⟩
        rcases List.mem_cons.1 hy with rfl | hy
        · exact ⟨h1, h2⟩
        · exact d y hy
theorem units_done {cs : List (List Int)} {v : List Int} {r : Option (List Int)} (h : UnitsIs cs v r) : ∀ out, r = some out → ∀ c ∈ cs, Clo (litV out) c := by
  induction h with
  | no h => intro out e; cases e
  | done h => intro out e; injection e with e; subst e; obtain ⟨_, e, h2⟩ := pass_done _ _ _ _ h; rw [e]; exact h2
  | more h h2 ih => exact ih
/-- a pass so far -/
def passTo (v : List Int) (m : Bool) (cs : List (List Int)) (k : Nat) (cur : List Int) (m' : Bool) : Prop := passP v cs m = passP cur (cs.drop k) m'
theorem pass_zero (v : List Int) (m : Bool) (cs : List (List Int)) : passTo v m cs 0 v m := rfl
section
variable {v cur : List Int} {m m' : Bool} {cs : List (List Int)} {k : Nat} {c : List Int}
theorem drop_at (hc : cs[k]? = some c) : cs.drop k = c :: cs.drop (k + 1) := by
  obtain ⟨h, e⟩ := List.getElem?_eq_some_iff.1 hc
  rw [List.drop_eq_getElem_cons h, e]
theorem pass_no (h : passTo v m cs k cur m') (hc : cs[k]? = some c) (h0 : valG (litV cur) 0 c = 0) : passP v cs m = none := by
  rw [show passP v cs m = passP cur (cs.drop k) m' from h, drop_at hc]; unfold passP; rw [if_pos h0]
theorem pass_set (h : passTo v m cs k cur m') (hc : cs[k]? = some c) (h0 : ¬ valG (litV cur) 0 c = 0) (h1 : 1 < uOf cur c) : passTo v m cs (k + 1) (setV cur (uOf cur c)) true := by
  unfold passTo; rw [show passP v cs m = passP cur (cs.drop k) m' from h, drop_at hc]; rw [passP, if_neg h0, if_pos h1]
theorem pass_next (h : passTo v m cs k cur m') (hc : cs[k]? = some c) (h0 : ¬ valG (litV cur) 0 c = 0) (h1 : ¬ 1 < uOf cur c) : passTo v m cs (k + 1) cur m' := by
  unfold passTo; rw [show passP v cs m = passP cur (cs.drop k) m' from h, drop_at hc]; rw [passP, if_neg h0, if_neg h1]
theorem pass_end (h : passTo v m cs k cur m') (hk : k = cs.length) : passP v cs m = some (cur, m') := by
  rw [show passP v cs m = passP cur (cs.drop k) m' from h, hk, List.drop_length]; rfl
end
theorem val_not {V : Int → Int} : ∀ (c : List Int) (out : Int), out ≠ 1 → (∀ x ∈ c, V x ≠ 1) → valG V out c ≠ 1
  | [], out, h, _ => h
  | x :: c, out, h, hx => by
    unfold valG
    rw [if_neg (hx x List.mem_cons_self)]
    exact val_not c _ (by split <;> omega) (fun y hy => hx y (List.mem_cons_of_mem _ hy))
end Go.Proofs.Ytcjoohaagdihlaa.Learn
end

section
/- Steps on slices of numbers of the call's own: a copy into a new one, one more list put to it. -/
namespace Go.Proofs.Ytcjoohaagdihlaa.Lit
open Go.RowKit Go.Lt
set_option linter.unusedVariables false
set_option linter.unusedSimpArgs false

theorem info_n : (Try.prog.info? 3).map (fun i => (i.zero, i.size, i.bytes)) = some (some (.int .i64 0), 1, 8) := by kernel_rfl
theorem ivs_cell {l : List Int} : ∀ u ∈ ivs l, u.oneCell' = true := by
  intro u hu
  obtain ⟨x, _, rfl⟩ := List.mem_map.1 hu
  rfl
theorem ivs_app (a b : List Int) : ivs (a ++ b) = ivs a ++ ivs b := List.map_append
/-- append([]int{}, l...) -/
theorem wpList_fresh {w : World} {n c : Nat} {A : Option Addr} {l : List Int} {ops : Array Oper} {rest : List Oper} {o : Oper} {a : Act} {Q : Exit → Act → World → Prop} (hgd : o.guard = none) (s x : Operand)
    (ho : o.op = .call { callee := .builtin .append, args := #[s, x], argTypes := #[40, 40] })
    (hs : a.eval s = .slice (some ⟨w.heap.size, 0, none⟩) 0 0) (hx : a.eval x = .slice A n c) (hr : Rd w A n (ivs l)) (hn : n ≤ 1000000)
    (h : ∀ v' w', w'.ownsRow w.heap.size 3 1 v' n (ivs l) → Below w.heap.size w w' → wpList Try.prog ops Q rest (a.put o.dst v') w') :
    wpList Try.prog ops Q (o :: rest) a (w.alloc (.cells #[] 3)) := by
  refine wpList_append_rd hgd s x 40 ho Try.underlying40 info_n rfl hs hx (World.ownsRow_lit w #[] 0 (Nat.le_refl _) (by unfold maxLen; omega) rfl) ((Below.refl w.heap.size w).alloc (Nat.le_refl _) _) (by simp)
    (hr.below ((Below.refl w.heap.size w).alloc (Nat.le_refl _) _) (Nat.le_refl _)) ivs_cell (by unfold maxLen; omega) (by omega) ?_
  intro v' w' hown hb
  rw [Nat.zero_add] at hown
  exact h v' w' hown hb
/-- append(v, l...) onto a row of the call's own -/
theorem wpList_more {w0 w : World} {base n m c : Nat} {v : Value} {A : Option Addr} {k l : List Int} {ops : Array Oper} {rest : List Oper} {o : Oper} {a : Act} {Q : Exit → Act → World → Prop} (hgd : o.guard = none) (s x : Operand)
    (ho : o.op = .call { callee := .builtin .append, args := #[s, x], argTypes := #[40, 40] })
    (hs : a.eval s = v) (hx : a.eval x = .slice A m c) (hown : w.ownsRow base 3 1 v n (ivs k)) (hb : Below base w0 w) (hbase : base ≤ w.heap.size) (hr : Rd w A m (ivs l)) (hn : n + m ≤ 1000000)
    (h : ∀ v' w', w'.ownsRow base 3 1 v' (n + m) (ivs (k ++ l)) → Below base w0 w' → wpList Try.prog ops Q rest (a.put o.dst v') w') :
    wpList Try.prog ops Q (o :: rest) a w := by
  refine wpList_append_rd hgd s x 40 ho Try.underlying40 info_n rfl hs hx hown hb hbase hr ivs_cell (by unfold maxLen; omega) (by omega) ?_
  intro v' w' hown hb
  rw [← ivs_app] at hown
  exact h v' w' hown hb
end Go.Proofs.Ytcjoohaagdihlaa.Lit
end
