/- The text of a fault, and the fault of a text: the plain laws. -/
import Derived.Test.YtcjoohaagdihlaaDoorDec1
import Derived.Test.YtcjoohaagdihlaaDoorFaultInj
import Derived.Lib.IndexMore
namespace Go.Proofs.YtcjoohaagdihlaaDoor.Fault
open Go.Proofs.YtcjoohaagdihlaaDoor.Dec
set_option linter.unusedVariables false
set_option linter.unusedSimpArgs false

def bOne (o : Bool) : List UInt8 := if o then [49] else [48]
def pinT (p : Int) : List UInt8 := if p = 0 then [] else 46 :: Lib.itoa p
def textF (f : Ft) : List UInt8 := Lib.itoa f.v ++ pinT f.p ++ 47 :: bOne f.o
/-- what can be read back -/
def OkF (f : Ft) : Prop := 0 ≤ f.v ∧ f.v ≤ 999999999 ∧ (f.p = 0 ∨ f.p = 1 ∨ f.p = 2)
def zF : Ft := ⟨0, 0, false⟩
/-- what Read is to answer -/
def ReadS (s : List UInt8) (x : Ft × Int) : Prop := (x.2 = 0 ∧ OkF x.1 ∧ textF x.1 = s) ∨ (x.2 = 2 ∧ x.1 = zF ∧ ∀ g, OkF g → textF g ≠ s)
theorem itoa_nat (u : Nat) : Lib.itoa (u : Int) = Lib.decDigits u := by unfold Lib.itoa; rw [if_neg (by omega), Int.toNat_natCast]
theorem natR_app (u : Nat) (h : u < 1000000000) (c : UInt8) (r : List UInt8) (hc : isD c = false) : natR (Lib.decDigits u ++ c :: r) = (u, (Lib.decDigits u).length, 0) := by
  have hl : dlen (Lib.decDigits u ++ c :: r) = (Lib.decDigits u).length := by
    refine dlen_of _ _ ?_ (by simp) ?_
    · rw [List.take_left]; exact dec_digits u
    · intro d hd
      rw [List.getElem?_append_right (Nat.le_refl _)] at hd
      simp at hd
      subst hd; exact hc
  have h9 : (Lib.decDigits u).length ≤ 9 := dec_len 8 u (by omega)
  have hne := dec_ne u
  have hpos : 0 < (Lib.decDigits u).length := List.length_pos_iff.2 hne
  unfold natR
  rw [if_neg (by simp), if_neg, if_neg (by omega), hl, List.take_left, decV_dec]
  rw [hl]
  rintro (h1 | ⟨h1, h2⟩)
  · omega
  · have hh : (Lib.decDigits u).head? = some 48 := by
      cases hd : Lib.decDigits u with
      | nil => exact absurd hd hne
      | cons a b => rw [hd] at h1; simpa using h1
    have := dec_head u hh
    subst this
    rw [Lib.decDigits_one (by omega)] at h2
    simp at h2
theorem text_head (f : Ft) (h : OkF f) : ∃ u : Nat, f.v = u ∧ u < 1000000000 ∧ natR (textF f) = (u, (Lib.decDigits u).length, 0) := by
  obtain ⟨h0, h1, h2⟩ := h
  obtain ⟨u, hu⟩ := Int.eq_ofNat_of_zero_le h0
  refine ⟨u, hu, by omega, ?_⟩
  unfold textF pinT
  rw [hu, itoa_nat]
  by_cases hp : f.p = 0
  · rw [if_pos hp, List.append_nil]
    exact natR_app u (by omega) 47 _ (by decide)
  · rw [if_neg hp, List.append_assoc]
    exact natR_app u (by omega) 46 _ (by decide)
theorem digit_bytes {l : List UInt8} (h : ∀ c ∈ l, isD c = true) {b : UInt8} (hb : isD b = false) : b ∉ l := fun hm => by rw [h b hm] at hb; cases hb
/-- a text cut at a byte -/
def cutB (l : List UInt8) (c : UInt8) : List UInt8 × List UInt8 := (l.takeWhile (fun x => x != c), (l.dropWhile (fun x => x != c)).drop 1)
theorem cutB_app {a b : List UInt8} {c : UInt8} (h : c ∉ a) : cutB (a ++ c :: b) c = (a, b) := by
  have h2 : ∀ x ∈ a, (x != c) = true := fun x hx => by simp; rintro rfl; exact h hx
  unfold cutB
  rw [List.takeWhile_append_of_pos h2, List.dropWhile_append_of_pos h2]
  simp
theorem cutB_none {a : List UInt8} {c : UInt8} (h : c ∉ a) : cutB a c = (a, []) := by
  have h2 : ∀ x ∈ a, (x != c) = true := fun x hx => by simp; rintro rfl; exact h hx
  have := cutB_app (b := []) h
  unfold cutB at *
  have e1 : a.takeWhile (fun x => x != c) = a := by
    have := List.takeWhile_append_of_pos (l₂ := []) h2
    simpa using this
  have e2 : a.dropWhile (fun x => x != c) = [] := by
    have := List.dropWhile_append_of_pos (l₂ := []) h2
    simpa using this
  rw [e1, e2]; rfl
theorem pin_bytes {p : Int} (h : p = 0 ∨ p = 1 ∨ p = 2) : pinT p = [] ∨ pinT p = [46, 49] ∨ pinT p = [46, 50] := by
  rcases h with rfl | rfl | rfl
  · exact .inl rfl
  · refine .inr (.inl ?_); unfold pinT; rw [if_neg (by decide)]; rw [show (1 : Int) = ((1 : Nat) : Int) from rfl, itoa_nat, Lib.decDigits_one (by omega)]; rfl
  · refine .inr (.inr ?_); unfold pinT; rw [if_neg (by decide)]; rw [show (2 : Int) = ((2 : Nat) : Int) from rfl, itoa_nat, Lib.decDigits_one (by omega)]; rfl
theorem pin_tail {p : Int} (h : p = 1 ∨ p = 2) : pinT p = 46 :: Lib.decDigits p.toNat := by
  rcases h with rfl | rfl
  · unfold pinT; rw [if_neg (by decide)]; rfl
  · unfold pinT; rw [if_neg (by decide)]; rfl
/-- a fault's text, cut as the program cuts it -/
theorem text_cuts (f : Ft) (h : OkF f) : ∃ line name pin, cutB (textF f) 47 = (line, bOne f.o) ∧ cutB line 46 = (name, pin) ∧ (natR name).1 = f.v.toNat ∧ (natR name).2.2 = 0 ∧ ((f.p = 0 ∧ pin = []) ∨ (f.p ≠ 0 ∧ pin ≠ [] ∧ (natR pin).1 = f.p.toNat)) := by
  obtain ⟨h0, h1, h2⟩ := h
  obtain ⟨u, hu⟩ := Int.eq_ofNat_of_zero_le h0
  have hd := dec_digits u
  have hn := natR_dec u (by omega)
  have s1 : (47 : UInt8) ∉ Lib.decDigits u := digit_bytes hd (by decide)
  have s2 : (46 : UInt8) ∉ Lib.decDigits u := digit_bytes hd (by decide)
  by_cases hp : f.p = 0
  · refine ⟨Lib.decDigits u, Lib.decDigits u, [], ?_, cutB_none s2, by rw [hn, hu]; rfl, by rw [hn], .inl ⟨hp, rfl⟩⟩
    unfold textF pinT
    rw [hu, itoa_nat, if_pos hp, List.append_nil]
    exact cutB_app s1
  · have hp2 : f.p = 1 ∨ f.p = 2 := by omega
    have hpd := dec_digits f.p.toNat
    have hpn := natR_dec f.p.toNat (by omega)
    refine ⟨Lib.decDigits u ++ 46 :: Lib.decDigits f.p.toNat, Lib.decDigits u, Lib.decDigits f.p.toNat, ?_, cutB_app s2, by rw [hn, hu]; rfl, by rw [hn], .inr ⟨hp, dec_ne _, by rw [hpn]⟩⟩
    unfold textF
    rw [hu, itoa_nat, pin_tail hp2]
    refine cutB_app ?_
    intro hm
    rcases List.mem_append.1 hm with hm | hm
    · exact s1 hm
    · rcases List.mem_cons.1 hm with hm | hm
      · exact absurd hm (by decide)
      · exact digit_bytes hpd (by decide) hm
theorem bOne_inj {a b : Bool} (h : bOne a = bOne b) : a = b := by revert h; cases a <;> cases b <;> decide
theorem text_inj {f g : Ft} (hf : OkF f) (hg : OkF g) (h : textF f = textF g) : f = g := by
  obtain ⟨l1, n1, p1, a1, b1, c1, _, d1⟩ := text_cuts f hf
  obtain ⟨l2, n2, p2, a2, b2, c2, _, d2⟩ := text_cuts g hg
  rw [h, a2] at a1
  injection a1 with e1 e2
  subst e1
  rw [b1] at b2
  injection b2 with e3 e4
  subst e3 e4
  obtain ⟨fv, fp, fo⟩ := f
  obtain ⟨gv, gp, go⟩ := g
  have := bOne_inj e2
  simp only at *
  subst this
  have hv : fv = gv := by have := hf.1; have := hg.1; simp only at *; omega
  have hp : fp = gp := by
    have := hf.2.2
    have := hg.2.2
    simp only at *
    rcases d1 with ⟨x1, y1⟩ | ⟨x1, y1, z1⟩ <;> rcases d2 with ⟨x2, y2⟩ | ⟨x2, y2, z2⟩
    · omega
    · exact absurd y1 y2
    · exact absurd y2 y1
    · omega
  subst hv hp
  rfl
theorem readS_one {s : List UInt8} {x y : Ft × Int} (hx : ReadS s x) (hy : ReadS s y) : x = y := by
  obtain ⟨f, a⟩ := x
  obtain ⟨g, b⟩ := y
  rcases hx with ⟨h1, h2, h3⟩ | ⟨h1, h2, h3⟩ <;> rcases hy with ⟨h4, h5, h6⟩ | ⟨h4, h5, h6⟩ <;> simp only at *
  · rw [text_inj h2 h5 (h3.trans h6.symm), h1, h4]
  · exact absurd h3 (h6 _ h2)
  · exact absurd h6 (h3 _ h5)
  · rw [h1, h2, h4, h5]
/-- the fault that the program finds in a text before it looks whether the text is its own -/
def guessF (s : List UInt8) : Ft := ⟨((natR (cutB (cutB s 47).1 46).1).1 : Nat), (if (cutB (cutB s 47).1 46).2 = [] then 0 else ((natR (cutB (cutB s 47).1 46).2).1 : Nat)), decide ((cutB s 47).2 = [49])⟩
theorem guess_text {s : List UInt8} {g : Ft} (hg : OkF g) (h : textF g = s) : (natR (cutB (cutB s 47).1 46).1).2.2 = 0 ∧ guessF s = g := by
  obtain ⟨l1, n1, p1, a1, b1, c1, z1, d1⟩ := text_cuts g hg
  rw [h] at a1
  unfold guessF
  rw [a1]
  simp only
  rw [b1]
  simp only
  refine ⟨z1, ?_⟩
  obtain ⟨gv, gp, go⟩ := g
  have h1 := hg.1
  have h2 := hg.2.2
  simp only at *
  have hb : decide (bOne go = [49]) = go := by cases go <;> rfl
  rw [hb, c1]
  rcases d1 with ⟨x1, y1⟩ | ⟨x1, y1, w1⟩
  · rw [if_pos y1]
    congr 1 <;> omega
  · rw [if_neg y1, w1]
    congr 1 <;> omega
theorem read_err1 {s : List UInt8} (h : (natR (cutB (cutB s 47).1 46).1).2.2 ≠ 0) : ReadS s (zF, 2) :=
  .inr ⟨rfl, rfl, fun g hg ht => h (guess_text hg ht).1⟩
theorem read_err2 {s : List UInt8} (h : 2 < (guessF s).p ∨ textF (guessF s) ≠ s) : ReadS s (zF, 2) :=
  .inr ⟨rfl, rfl, fun g hg ht => by
    have := (guess_text hg ht).2
    rw [this] at h
    rcases h with h | h
    · have := hg.2.2; omega
    · exact h ht⟩
theorem guess_ok {s : List UInt8} (h : (guessF s).p ≤ 2) : OkF (guessF s) := by
  have h1 := (natR_lt (cutB (cutB s 47).1 46).1).1
  unfold guessF at h ⊢
  refine ⟨by simp only; omega, by simp only; omega, ?_⟩
  simp only at h ⊢
  split at h
  · next hh => rw [if_pos hh]; exact .inl rfl
  · next hh => rw [if_neg hh]; omega
theorem read_ok {s : List UInt8} (h1 : (guessF s).p ≤ 2) (h2 : textF (guessF s) = s) : ReadS s (guessF s, 0) := .inl ⟨rfl, guess_ok h1, h2⟩
/-- the fault of a number and one below six -/
def tryF (u k : Nat) : Ft := ⟨(u : Int), ((k / 2 : Nat) : Int), decide (k % 2 = 1)⟩
theorem try_ok {u k : Nat} (hu : u < 1000000000) (hk : k < 6) : OkF (tryF u k) := ⟨by unfold tryF; simp only; omega, by unfold tryF; simp only; omega, by unfold tryF; simp only; omega⟩
theorem try_all {s : List UInt8} (h : ∀ k, k < 6 → (natR s).2.2 = 0 → textF (tryF (natR s).1 k) ≠ s) : ReadS s (zF, 2) := by
  refine .inr ⟨rfl, rfl, fun g hg ht => ?_⟩
  obtain ⟨u, hu, hlt, hn⟩ := text_head g hg
  rw [ht] at hn
  obtain ⟨gv, gp, go⟩ := g
  simp only at hu
  subst hu
  have hp := hg.2.2
  simp only at hp
  have hz : (natR s).2.2 = 0 := by rw [hn]
  have h1 : (natR s).1 = u := by rw [hn]
  rw [h1] at h
  have hh : ∀ k, k < 6 → tryF u k = ⟨u, gp, go⟩ → False := fun k hk he => h k hk hz (by rw [he]; exact ht)
  rcases hp with rfl | rfl | rfl <;> cases go
  · exact hh 0 (by omega) rfl
  · exact hh 1 (by omega) rfl
  · exact hh 2 (by omega) rfl
  · exact hh 3 (by omega) rfl
  · exact hh 4 (by omega) rfl
  · exact hh 5 (by omega) rfl
theorem text_back {f : Ft} (h : OkF f) : ReadS (textF f) (f, 0) := .inl ⟨rfl, h, rfl⟩
theorem index_app {c : UInt8} (b : List UInt8) : ∀ a : List UInt8, c ∉ a → Lib.index (a ++ c :: b) [c] = (a.length : Int) := by
  intro a
  induction a with
  | nil => intro _; simp [Lib.index, List.isPrefixOf]
  | cons x a ih =>
    intro h
    have hx : ¬ c = x := fun e => h (by simp [e])
    have ih := ih (fun hm => h (by simp [hm]))
    have hp : ([c] : List UInt8).isPrefixOf (x :: (a ++ c :: b)) = false := by simp [List.isPrefixOf, hx]
    rw [List.cons_append, Lib.index, hp, ih]
    simp
theorem index_none {c : UInt8} : ∀ a : List UInt8, c ∉ a → Lib.index a [c] = -1 := by
  intro a
  induction a with
  | nil => intro _; rfl
  | cons x a ih =>
    intro h
    have hx : ¬ c = x := fun e => h (by simp [e])
    have ih := ih (fun hm => h (by simp [hm]))
    have hp : ([c] : List UInt8).isPrefixOf (x :: a) = false := by simp [List.isPrefixOf, hx]
    rw [Lib.index, hp, ih]
    rfl
theorem cut_one (l : List UInt8) (c : UInt8) : (Lib.cut l [c]).1 = (cutB l c).1 ∧ (Lib.cut l [c]).2.1 = (cutB l c).2 := by
  by_cases h : c ∈ l
  · obtain ⟨a, b, rfl, hn⟩ := List.eq_append_cons_of_mem h
    rw [cutB_app hn]
    unfold Lib.cut
    rw [index_app b a hn, if_pos (by omega)]
    simp
  · rw [cutB_none h]
    unfold Lib.cut
    rw [index_none l h, if_neg (by omega)]
    exact ⟨rfl, rfl⟩
end Go.Proofs.YtcjoohaagdihlaaDoor.Fault
