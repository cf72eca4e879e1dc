/- The law LearnTells. -/
import Derived.Test.YtcjoohaagdihlaaLearn13
namespace Go.Proofs.Ytcjoohaagdihlaa.Learn
open Go.RowKit Go.Lt Go.Proofs.Ytcjoohaagdihlaa.Lit Go.Proofs.Ytcjoohaagdihlaa.Sorted Go.Instr
open Go.Proofs.Ytcjoohaagdihlaa.Kept (Sl Sl.val addr_off)
set_option linter.unusedVariables false
set_option linter.unusedSimpArgs false

theorem first_just {l : List St} {bad : List Int} {c : List Int} {b : Int} (h : FirstIs l bad (some (c, b))) : goodB l bad = true ∧ 0 ≤ b := by
  rcases h with ⟨_, h⟩ | ⟨h1, _, n, _, _, h⟩
  · cases h
  · refine ⟨h1, ?_⟩
    split at h
    · injection h with h
      injection h with _ h
      rw [h]; exact back_ge _
    · cases h
theorem same_self (a : List Int) : sameI a a = true := decide_eq_true rfl
set_option maxRecDepth 8000 in
set_option maxHeartbeats 4000000 in
theorem law_LearnTells (A : Option Addr) (n c : Nat) (l : List St) (B : Option Addr) (m cb : Nat) (bad : List Int) (w : World) (hnc : n ≤ c) (hn : n ≤ maxLen) (hr : RdT w A n l) (hm : m ≤ maxLen) (hrb : Rd w B m (ivs bad)) :
    Calls Try.prog 5 #[.slice A n c, .slice B m cb] w fun e w' => e = .returned (.bool true) ∧ Below w.heap.size w w' := by
  have HFew := hide (law_few A n c l B m cb bad w hn hr hm hrb)
  obtain ⟨fb, hfb⟩ : ∃ fb, fewB l bad = fb := ⟨_, rfl⟩
  rw [hfb] at HFew
  have HL := hide law_lives
  cases fb with
  | false =>
    clear hfb hn hm hr hrb
    go_enter Try.func5, Try.ntmps5
    go_wp2_with fail
    refine HFew.out.mono ?_
    rintro e w1 ⟨rfl, rfl⟩
    go_wp2_with fail
    refine (HL.out w).mono ?_
    rintro e w2 ⟨rfl, hb⟩
    replace hb := hide hb
    go_wp2
    go_ret
    exact ⟨rfl, hb.out⟩
  | true =>
    obtain ⟨hw, hn60, hm30⟩ := few_iff.1 hfb
    rw [hr.1] at hn60
    rw [hrb.len] at hm30
    have hwb := hide (fun s hs => Nat.le_trans (hw s hs) (show 30 ≤ 1000 by omega))
    replace hw := hide hw
    clear hfb hn hm
    go_enter Try.func5, Try.ntmps5
    go_wp2_with fail
    refine HFew.out.mono ?_
    rintro e w1 ⟨rfl, rfl⟩
    clear HFew
    go_wp2_with fail
    refine (law_of A n c l w hn60 hr hw.out).mono ?_
    rintro e w1 ⟨A1, c1, rfl, hT1, hb1⟩
    have hrb1 := hide (hrb.below hb1 (Nat.le_refl _))
    have hB1 := hide hb1
    clear hb1
    go_wp2_with (at_builtin; refine wpList_fresh rfl _ _ rfl (by rfl) (by rfl) hrb1.out (by omega) ?_; intro v1 w3 hown1 hb3; obtain ⟨A3, c3, rfl, _, _, hr3⟩ := Rd.of_own hown1)
    refine (learn_First A1 n c1 l A3 m c3 bad w3 (by omega) (hT1.below hb3 (Nat.le_refl _)) hwb.out (by omega) hr3).mono ?_
    rintro e w4 ⟨r, hfi, hfw, hb4⟩
    have hB4 := hide (hB1.out.trans ((hb3.trans (hb4.mono hb3.size)).mono hB1.out.size))
    clear hb3 hb4 hown1 hr3 hT1 hrb1 hB1
    replace hfi := hide hfi
    cases r with
    | none =>
      have hfw : e = .returned (.tuple #[.slice none 0 0, .int .i64 0, .bool false]) := hfw
      subst hfw
      go_wp2_with fail
      refine (ref_FirstS A n c l B m cb bad w4 (by omega) hnc (hr.below hB4.out (Nat.le_refl _)) hwb.out (by omega) (hrb.below hB4.out (Nat.le_refl _))).mono ?_
      rintro e w5 ⟨r, hfi2, hfv, hb5⟩
      have := first_one hfi2 hfi.out
      subst this
      have hfv : e = .returned (.tuple #[.slice none 0 0, .int .i64 (-1)]) := hfv
      subst hfv
      have hB5 := hide (hB4.out.trans (hb5.mono hB4.out.size))
      clear hfi2 hfi hfw hb5 hB4
      go_wp2_with fail
      refine (law_of A n c l w5 hn60 (hr.below hB5.out (Nat.le_refl _)) hw.out).mono ?_
      rintro e w6 ⟨A6, c6, rfl, hT6, hb6⟩
      have hB6 := hide (hB5.out.trans (hb6.mono hB5.out.size))
      clear hb6 hB5
      obtain ⟨gb, hgb⟩ : ∃ gb, goodB l bad = gb := ⟨_, rfl⟩
      go_wp2_with fail
      refine (learn_GoodB hgb w6 (by omega) hT6 hwb.out (by omega) (hrb.below hB6.out (Nat.le_refl _))).mono ?_
      rintro e w7 ⟨rfl, hb7⟩
      have hB7 := hide (hB6.out.trans (hb7.mono hB6.out.size))
      clear hb7 hB6 hT6
      have HG := ref_GoodS A n c l B m cb bad w7 (by omega) hnc (hr.below hB7.out (Nat.le_refl _)) hwb.out (by omega) (hrb.below hB7.out (Nat.le_refl _))
      rw [hgb] at HG
      replace HG := hide HG
      replace hgb := hide hgb
      go_wp2_with fail
      refine HG.out.mono ?_
      rintro e w8 ⟨rfl, hb8⟩
      have hB8 := hide (hB7.out.trans (hb8.mono hB7.out.size))
      clear hb8 hB7 HG
      cases gb with
      | false =>
        go_wp2_with fail
        refine (HL.out w8).mono ?_
        rintro e w9 ⟨rfl, hb9⟩
        have hB9 := hide (hB8.out.trans (hb9.mono hB8.out.size))
        clear hb9 hB8
        go_wp2
        go_ret
        exact ⟨rfl, hB9.out⟩
      | true =>
        go_wp2_with fail
        refine (HL.out w8).mono ?_
        rintro e w9 ⟨rfl, hb9⟩
        have hB9 := hide (hB8.out.trans (hb9.mono hB8.out.size))
        clear hb9 hB8
        go_wp2
        go_ret
        exact ⟨rfl, hB9.out⟩
    | some p =>
      obtain ⟨cc, b⟩ := p
      obtain ⟨A5, n5, c5, rfl, hn5, hr5⟩ := hfw
      replace hr5 := hide hr5
      go_wp2_with fail
      refine (ref_FirstS A n c l B m cb bad w4 (by omega) hnc (hr.below hB4.out (Nat.le_refl _)) hwb.out (by omega) (hrb.below hB4.out (Nat.le_refl _))).mono ?_
      rintro e w5 ⟨r, hfi2, hfv, hb5⟩
      have := first_one hfi2 hfi.out
      subst this
      obtain ⟨A6, n6, c6, rfl, hn6, hr6⟩ := hfv
      obtain ⟨hgb, hb0⟩ := first_just hfi.out
      have hbd : decide (b < 0) = false := decide_eq_false (by omega)
      have hbn : ¬ b < 0 := by omega
      have hB5 := hide (hB4.out.trans (hb5.mono hB4.out.size))
      have HI := hide (ref_Ints A5 A6 n5 n6 c5 c6 cc cc w5 (by omega) (hr5.out.below hb5 (Nat.le_refl _)) hr6)
      rw [same_self] at HI
      replace hgb := hide hgb
      clear hfi2 hfi hb5 hB4 hr5 hr6 hb0
      go_wp2_with fail
      refine HI.out.mono ?_
      rintro e w6 ⟨rfl, hd6⟩
      have hB6 := hide (hB5.out.trans ((hd6.below _).mono hB5.out.size))
      clear hd6 hB5 HI
      go_wp2_with fail
      refine (law_of A n c l w6 hn60 (hr.below hB6.out (Nat.le_refl _)) hw.out).mono ?_
      rintro e w7 ⟨A7, c7, rfl, hT7, hb7⟩
      have hB7 := hide (hB6.out.trans (hb7.mono hB6.out.size))
      clear hb7 hB6
      go_wp2_with fail
      refine (learn_GoodB hgb.out w7 (by omega) hT7 hwb.out (by omega) (hrb.below hB7.out (Nat.le_refl _))).mono ?_
      rintro e w8 ⟨rfl, hb8⟩
      have hB8 := hide (hB7.out.trans (hb8.mono hB7.out.size))
      clear hb8 hB7 hT7
      go_wp2_with fail
      refine (HL.out w8).mono ?_
      rintro e w9 ⟨rfl, hb9⟩
      have hB9 := hide (hB8.out.trans (hb9.mono hB8.out.size))
      clear hb9 hB8
      go_wp2
      go_ret
      exact ⟨rfl, hB9.out⟩
end Go.Proofs.Ytcjoohaagdihlaa.Learn
