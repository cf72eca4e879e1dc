/- The law of LitTexts. -/
import Derived.Test.YtcjoohaagdihlaaDoorLitTells1
namespace Go.Proofs.YtcjoohaagdihlaaDoor.Dec
open Go.RowKit Go.Lt Go.Proofs.YtcjoohaagdihlaaDoor.Lit
set_option linter.unusedVariables false
set_option linter.unusedSimpArgs false

theorem refRead_is {s : ByteArray} {a b : Int} (h : readV s = (a, b)) (hs : s.size ≤ 1000000) (w : World) : Calls Tryd.prog 69 #[.string s] w fun e w' => e = .returned (.tuple #[.int .i64 a, .int .i64 b]) ∧ Below w.heap.size w w' :=
  (ref_Read s w hs).mono fun e w' ⟨he, hb⟩ => ⟨by rw [he, h], hb⟩
theorem textX {l : Int} {X : ByteArray} (h : X = ⟨(litText l).toArray⟩) (w : World) (hp : Pows w) : Calls Tryd.prog 70 #[.int .i64 l] w fun e w' => e = .returned (.string X) ∧ Below w.heap.size w w' := by subst h; exact lit_Text l w hp
theorem rtextX {l : Int} {X : ByteArray} (h : X = ⟨(litText l).toArray⟩) (w : World) : Calls Tryd.prog 71 #[.int .i64 l] w fun e w' => e = .returned (.string X) ∧ Below w.heap.size w w' := by subst h; exact ref_Text l w
theorem litText_len (l : Int) : (litText l).length ≤ 31 := by
  unfold litText
  split
  · rename_i h
    obtain ⟨h0, h1⟩ := good_iff.1 h
    obtain ⟨u, hu⟩ := Int.eq_ofNat_of_zero_le (show 0 ≤ l / 2 by omega)
    have := itoa_len u (by omega)
    rw [hu]
    split
    · rw [List.length_cons]; omega
    · omega
  · decide
theorem readV_err (s : ByteArray) : (readV s).2 = 0 ∨ (readV s).2 = 2 := by
  unfold readV
  simp only
  split
  · exact .inl rfl
  · exact .inr rfl

set_option maxHeartbeats 1600000 in
theorem texts (l : Int) (s : ByteArray) (w : World) (hp : Pows w) :
    Calls Tryd.prog 11 #[.int .i64 l, .string s] w fun e w' => e = .returned (.bool true) ∧ Below w.heap.size w w' := by
  obtain ⟨X, hX⟩ : ∃ X : ByteArray, X = ⟨(litText l).toArray⟩ := ⟨_, rfl⟩
  have hXl : X.data.toList = litText l := by rw [hX]
  have hXs : X.size ≤ 1000000 := by rw [← size_list, hXl]; have := litText_len l; omega
  obtain ⟨g, hg⟩ : ∃ g, litGood l = g := ⟨_, rfl⟩
  have T1 := hide (textX hX)
  have T2 := hide (rtextX hX)
  have G2 := hide (refGood_is hg)
  obtain ⟨c, k, hck, hgk⟩ : ∃ c k : Int, readV X = (c, k) ∧ ((g = true ∧ k = 0 ∧ c = l) ∨ (g = false ∧ k = 2)) := by
    cases g
    · exact ⟨0, 2, read_bad hg X hXl, .inr ⟨rfl, rfl⟩⟩
    · exact ⟨l, 0, read_text hg X hXl, .inl ⟨rfl, rfl, rfl⟩⟩
  have RX := hide (litRead_is hck hXs)
  have hgk' := hide hgk
  clear hgk
  have hgk := hgk'
  clear hgk'
  clear hX hXl hXs hg hck
  by_cases hbig : 200 < s.size
  · obtain ⟨s', hs'⟩ : ∃ s', s.extract 0 200 = s' := ⟨_, rfl⟩
    have hsz : s'.size ≤ 1000000 := by rw [← size_list, ← hs', Lib.extract_data, List.length_take]; omega
    have hbI : (200 : Int) < s.size := by omega
    have hb2 : (200 : Int) ≤ s.size := by omega
    obtain ⟨a, f, haf⟩ : ∃ a f : Int, readV s' = (a, f) := ⟨_, _, rfl⟩
    have R1 := hide (litRead_is haf hsz)
    have R2 := hide (refRead_is haf hsz)
    have hf := hide (show f = 0 ∨ f = 2 by have := readV_err s'; rw [haf] at this; exact this)
    have TA := hide (fun h : f = 0 => textX (l := a) (X := s') (by
      have h1 := text_read (s := s') (a := a) (by rw [haf, h])
      obtain ⟨⟨x⟩⟩ := s'
      rw [h1]))
    clear haf
    go_enter Tryd.func11, Tryd.ntmps11
    go_wp2_with fail
    refine (R1.out _).mono ?_
    rintro e w1 ⟨rfl, hb1⟩
    go_wp2_with fail
    refine (R2.out _).mono ?_
    rintro e w2 ⟨rfl, hb2⟩
    have hb := hb1.trans (hb2.mono hb1.size)
    clear hb1 hb2
    go_wp2_with fail
    refine (T1.out _ (hp.below hb)).mono ?_
    rintro e w3 ⟨rfl, hb3⟩
    have hb := hb.trans (hb3.mono hb.size)
    clear hb3
    go_wp2_with fail
    refine (T2.out _).mono ?_
    rintro e w4 ⟨rfl, hb4⟩
    have hb := hb.trans (hb4.mono hb.size)
    clear hb4
    go_wp2_with fail
    refine (T1.out _ (hp.below hb)).mono ?_
    rintro e w5 ⟨rfl, hb5⟩
    have hb := hb.trans (hb5.mono hb.size)
    clear hb5
    go_wp2_with fail
    refine (RX.out _).mono ?_
    rintro e w6 ⟨rfl, hb6⟩
    have hb := hb.trans (hb6.mono hb.size)
    clear hb6
    have hb' := hide hb
    have hp6 := hp.below hb
    clear hb T1 T2 RX R1 R2
    go_wp2_with fail
    refine (G2.out _).mono ?_
    rintro e w7 ⟨rfl, rfl⟩
    rcases hf.out with rfl | rfl
    · rcases hgk.out with ⟨rfl, rfl, rfl⟩ | ⟨rfl, rfl⟩
      all_goals
        go_wp2_with fail
        refine (TA.out (by simp) _ hp6).mono ?_
        rintro e w8 ⟨rfl, hb8⟩
        go_wp2_with fail
        refine (lives _ (hp6.below hb8)).mono ?_
        rintro e w9 ⟨rfl, hb9⟩
        have HB := hide (hb'.out.trans ((hb8.trans (hb9.mono hb8.size)).mono hb'.out.size))
        clear hb8 hb9
        go_wp2
        go_ret
        exact ⟨rfl, HB.out⟩
    · clear TA
      rcases hgk.out with ⟨rfl, rfl, rfl⟩ | ⟨rfl, rfl⟩
      all_goals
        go_wp2_with fail
        refine (lives _ hp6).mono ?_
        rintro e w9 ⟨rfl, hb9⟩
        have HB := hide (hb'.out.trans (hb9.mono hb'.out.size))
        clear hb9
        go_wp2
        go_ret
        exact ⟨rfl, HB.out⟩
  · obtain ⟨s', hs'⟩ : ∃ s', s = s' := ⟨_, rfl⟩
    subst hs'
    have hsz : s.size ≤ 1000000 := by omega
    have hbI : ¬ (200 : Int) < s.size := by omega
    obtain ⟨a, f, haf⟩ : ∃ a f : Int, readV s = (a, f) := ⟨_, _, rfl⟩
    have R1 := hide (litRead_is haf hsz)
    have R2 := hide (refRead_is haf hsz)
    have hf := hide (show f = 0 ∨ f = 2 by have := readV_err s; rw [haf] at this; exact this)
    have TA := hide (fun h : f = 0 => textX (l := a) (X := s) (by
      have h1 := text_read (s := s) (a := a) (by rw [haf, h])
      obtain ⟨⟨x⟩⟩ := s
      rw [h1]))
    clear haf
    go_enter Tryd.func11, Tryd.ntmps11
    go_wp2_with fail
    refine (R1.out _).mono ?_
    rintro e w1 ⟨rfl, hb1⟩
    go_wp2_with fail
    refine (R2.out _).mono ?_
    rintro e w2 ⟨rfl, hb2⟩
    have hb := hb1.trans (hb2.mono hb1.size)
    clear hb1 hb2
    go_wp2_with fail
    refine (T1.out _ (hp.below hb)).mono ?_
    rintro e w3 ⟨rfl, hb3⟩
    have hb := hb.trans (hb3.mono hb.size)
    clear hb3
    go_wp2_with fail
    refine (T2.out _).mono ?_
    rintro e w4 ⟨rfl, hb4⟩
    have hb := hb.trans (hb4.mono hb.size)
    clear hb4
    go_wp2_with fail
    refine (T1.out _ (hp.below hb)).mono ?_
    rintro e w5 ⟨rfl, hb5⟩
    have hb := hb.trans (hb5.mono hb.size)
    clear hb5
    go_wp2_with fail
    refine (RX.out _).mono ?_
    rintro e w6 ⟨rfl, hb6⟩
    have hb := hb.trans (hb6.mono hb.size)
    clear hb6
    have hb' := hide hb
    have hp6 := hp.below hb
    clear hb T1 T2 RX R1 R2
    go_wp2_with fail
    refine (G2.out _).mono ?_
    rintro e w7 ⟨rfl, rfl⟩
    rcases hf.out with rfl | rfl
    · rcases hgk.out with ⟨rfl, rfl, rfl⟩ | ⟨rfl, rfl⟩
      all_goals
        go_wp2_with fail
        refine (TA.out (by simp) _ hp6).mono ?_
        rintro e w8 ⟨rfl, hb8⟩
        go_wp2_with fail
        refine (lives _ (hp6.below hb8)).mono ?_
        rintro e w9 ⟨rfl, hb9⟩
        have HB := hide (hb'.out.trans ((hb8.trans (hb9.mono hb8.size)).mono hb'.out.size))
        clear hb8 hb9
        go_wp2
        go_ret
        exact ⟨rfl, HB.out⟩
    · clear TA
      rcases hgk.out with ⟨rfl, rfl, rfl⟩ | ⟨rfl, rfl⟩
      all_goals
        go_wp2_with fail
        refine (lives _ hp6).mono ?_
        rintro e w9 ⟨rfl, hb9⟩
        have HB := hide (hb'.out.trans (hb9.mono hb'.out.size))
        clear hb9
        go_wp2
        go_ret
        exact ⟨rfl, HB.out⟩
end Go.Proofs.YtcjoohaagdihlaaDoor.Dec
