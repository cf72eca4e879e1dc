/- Literals' texts, there and back: the plain laws; the example. -/
import Derived.Test.YtcjoohaagdihlaaDoorLitRead2
namespace Go.Proofs.YtcjoohaagdihlaaDoor.Dec
open Go.RowKit Go.Lt Go.Proofs.YtcjoohaagdihlaaDoor.Lit
set_option linter.unusedVariables false
set_option linter.unusedSimpArgs false

theorem itoa_digits (u : Nat) : Lib.itoa (u : Int) = Lib.decDigits u := by unfold Lib.itoa; rw [if_neg (by omega), Int.toNat_natCast]
theorem bang_no (u : Nat) (s : ByteArray) (h : s.data.toList = Lib.decDigits u) : bang s = false := by
  rw [bang_head, h, decide_eq_false_iff_not]
  intro h1
  have h2 : isD 33 = true := dec_digits u 33 (List.mem_of_mem_head? h1)
  exact absurd (isD_iff.1 h2) (by decide)
theorem readV_digits (u : Nat) (b : Bool) (s : ByteArray) (hu : u ≤ 16777216) (h : s.data.toList = if b then 33 :: Lib.decDigits u else Lib.decDigits u) : readV s = (litOf (u : Int) b, 0) := by
  have hb : bang s = b := by
    cases b
    · exact bang_no u s h
    · rw [bang_head, h]; rfl
  have hl : (cutS s).data.toList = Lib.decDigits u := by
    rw [cutS_list, hb, h]
    cases b <;> rfl
  have hn := natR_dec u (by omega)
  have hsz : (cutS s).size = (Lib.decDigits u).length := by rw [← size_list, hl]
  have := readV_yes (s := s) (by rw [hl, hn, hsz]; exact ⟨rfl, rfl, hu⟩)
  rw [this, hl, hn, hb]
theorem read_text {l : Int} (h : litGood l = true) (s : ByteArray) (hs : s.data.toList = litText l) : readV s = (l, 0) := by
  obtain ⟨h0, h1⟩ := good_iff.1 h
  obtain ⟨u, hu⟩ := Int.eq_ofNat_of_zero_le (show 0 ≤ l / 2 by omega)
  unfold litText at hs
  rw [if_pos h, hu, itoa_digits] at hs
  by_cases h2 : l % 2 = 1
  · rw [if_pos h2] at hs
    rw [readV_digits u true s (by omega) (by rw [hs]; rfl)]
    unfold litOf
    rw [if_pos (by omega), if_pos rfl]
    congr 1
    omega
  · rw [if_neg h2] at hs
    rw [readV_digits u false s (by omega) (by rw [hs]; rfl)]
    unfold litOf
    rw [if_pos (by omega), if_neg (by simp)]
    congr 1
    omega
theorem read_bad {l : Int} (h : litGood l = false) (s : ByteArray) (hs : s.data.toList = litText l) : readV s = (0, 2) := by
  unfold litText at hs
  rw [h] at hs
  have hs : s.data.toList = [63] := hs
  have hb : bang s = false := by rw [bang_head, hs]; rfl
  have hl : (cutS s).data.toList = [63] := by rw [cutS_list, hb, hs]; rfl
  apply readV_no
  rw [hl]
  rintro ⟨h1, _⟩
  have h2 : (natR [63]).2.2 = 2 := by decide
  rw [h2] at h1
  cases h1
theorem text_read {s : ByteArray} {a : Int} (h : readV s = (a, 0)) : litText a = s.data.toList := by
  by_cases hc : (natR (cutS s).data.toList).2.2 = 0 ∧ (natR (cutS s).data.toList).2.1 = (cutS s).size ∧ (natR (cutS s).data.toList).1 ≤ 16777216
  · rw [readV_yes hc] at h
    have ha : litOf ((natR (cutS s).data.toList).1 : Nat) (bang s) = a := congrArg Prod.fst h
    obtain ⟨h1, h2, h3⟩ := hc
    have hback := natR_back (cutS s).data.toList h1 (by rw [h2, size_list])
    generalize (natR (cutS s).data.toList).1 = v at *
    have hl := cutS_list s
    have hbh := bang_head s
    unfold litOf at ha
    rw [if_pos (by omega)] at ha
    cases hb : bang s
    · rw [hb] at ha hl
      have ha : 2 * (v : Int) = a := ha
      have hg : litGood a = true := good_iff.2 (by omega)
      unfold litText
      rw [if_pos hg, if_neg (by omega), show a / 2 = (v : Int) by omega, itoa_digits, hback]
      exact hl
    · rw [hb] at ha hl hbh
      have ha : 2 * (v : Int) + 1 = a := ha
      have hg : litGood a = true := good_iff.2 (by omega)
      unfold litText
      rw [if_pos hg, if_pos (by omega), show a / 2 = (v : Int) by omega, itoa_digits, hback, hl]
      have hh : s.data.toList.head? = some 33 := by simpa using hbh.symm
      cases hd : s.data.toList with
      | nil => rw [hd] at hh; cases hh
      | cons x l =>
        rw [hd] at hh
        have hx : x = 33 := by simpa using hh
        rw [hx]; rfl
  · rw [readV_no hc] at h
    cases h
theorem text_seven : litText 7 = [33, 51] := by
  unfold litText
  rw [show litGood 7 = true from rfl, if_pos rfl, if_pos (by decide), show (7 : Int) / 2 = ((3 : Nat) : Int) from rfl, itoa_small (by omega)]
  rfl
theorem litNot_is {l v : Int} (h : litNot l = v) (w : World) : Calls Tryd.prog 64 #[.int .i64 l] w fun e w' => e = .returned (.int .i64 v) ∧ w = w' := by subst h; exact lit_Not l w
theorem litOf_is {v r : Int} {b : Bool} (h : litOf v b = r) (w : World) : Calls Tryd.prog 58 #[.int .i64 v, .bool b] w fun e w' => e = .returned (.int .i64 r) ∧ w = w' := by subst h; exact lit_Of v b w
theorem litRead_is {s : ByteArray} {a b : Int} (h : readV s = (a, b)) (hs : s.size ≤ 1000000) (w : World) : Calls Tryd.prog 68 #[.string s] w fun e w' => e = .returned (.tuple #[.int .i64 a, .int .i64 b]) ∧ Below w.heap.size w w' :=
  (lit_Read s w hs).mono fun e w' ⟨he, hb⟩ => ⟨by rw [he, h], hb⟩
theorem litText_is {l : Int} {t : List UInt8} (h : litText l = t) (w : World) (hp : Pows w) : Calls Tryd.prog 70 #[.int .i64 l] w fun e w' => e = .returned (.string ⟨t.toArray⟩) ∧ Below w.heap.size w w' := by subst h; exact lit_Text l w hp

theorem lives (w : World) (hp : Pows w) : Calls Tryd.prog 67 #[] w fun e w' => e = .returned (.bool true) ∧ Below w.heap.size w w' := by
  have HR := hide (fun W => litRead_is (s := ⟨#[33, 51]⟩) (read_text (l := 7) rfl ⟨#[33, 51]⟩ text_seven.symm) (by decide) W)
  have HO := hide (fun W => litOf_is (v := 3) (r := 7) (b := true) rfl W)
  have HT := hide (fun W hW => litText_is text_seven W hW)
  have HN := hide (fun W => litNeg_is (l := 7) (b := true) rfl W)
  have HX := hide (fun W => litNot_is (l := 7) (v := 6) rfl W)
  go_enter Tryd.func67, Tryd.ntmps67
  go_wp2_with fail
  refine (HR.out _).mono ?_
  rintro e w1 ⟨rfl, hb1⟩
  go_wp2_with fail
  refine (HO.out _).mono ?_
  rintro e w2 ⟨rfl, rfl⟩
  go_wp2_with fail
  refine (HT.out _ (hp.below hb1)).mono ?_
  rintro e w3 ⟨rfl, hb3⟩
  have hb := hb1.trans (hb3.mono hb1.size)
  clear hb1 hb3
  go_wp2_with fail
  refine (HN.out _).mono ?_
  rintro e w4 ⟨rfl, rfl⟩
  go_wp2_with fail
  refine (HX.out _).mono ?_
  rintro e w4 ⟨rfl, rfl⟩
  go_wp2
  go_ret
  exact ⟨rfl, hb⟩
end Go.Proofs.YtcjoohaagdihlaaDoor.Dec
