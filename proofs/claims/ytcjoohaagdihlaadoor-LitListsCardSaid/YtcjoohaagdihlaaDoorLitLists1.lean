/- The law of LitLists. -/
import Derived.Test.YtcjoohaagdihlaaDoorLitBack
import Derived.Test.YtcjoohaagdihlaaDoorTied1
import Derived.Test.YtcjoohaagdihlaaDoorTied2
import Derived.Test.YtcjoohaagdihlaaDoorSorted3
import Derived.Test.YtcjoohaagdihlaaDoorOwn1
import Derived.Test.YtcjoohaagdihlaaDoorCube2
namespace Go.Proofs.YtcjoohaagdihlaaDoor.LitList
open Go.RowKit Go.Lt Go.Proofs.YtcjoohaagdihlaaDoor.Lit Go.Proofs.YtcjoohaagdihlaaDoor.Dec Go.Proofs.YtcjoohaagdihlaaDoor.Sorted Go.Proofs.YtcjoohaagdihlaaDoor.Cube
set_option linter.unusedVariables false
set_option linter.unusedSimpArgs false

theorem ints_same (A B : Option Addr) (n m c d : Nat) (a : List Int) (w : World) (hn : n ≤ 1000000) (hra : Rd w A n (ivs a)) (hrb : Rd w B m (ivs a)) :
    Calls Tryd.prog 26 #[.slice A n c, .slice B m d] w fun e w' => e = .returned (.bool true) ∧ Dr w w' :=
  (ref_Ints A B n m c d a a w hn hra hrb).mono fun e w' ⟨he, hd⟩ => ⟨he.trans (by unfold sameI; simp), hd⟩
theorem rtied_is {A : Option Addr} {n c : Nat} {l : List Int} {w : World} {b : Bool} (hn : n ≤ 1000000) (hr : Rd w A n (ivs l)) (h : tiedB l = b) :
    Calls Tryd.prog 81 #[.slice A n c] w fun e w' => e = .returned (.bool b) ∧ w = w' := by
  subst h; exact ref_Tied A n c l w hn hr
theorem ltied_is {A : Option Addr} {n c : Nat} {l : List Int} {w : World} {b : Bool} (hn : n ≤ 1000000) (hr : Rd w A n (ivs l)) (h : tiedB l = b) :
    Calls Tryd.prog 80 #[.slice A n c] w fun e w' => e = .returned (.bool b) ∧ Below w.heap.size w w' := by
  subst h; exact lit_Tied A n c l w hn hr

set_option maxHeartbeats 1600000 in
theorem lists_few (A : Option Addr) (n c : Nat) (l : List Int) (x : Int) (w : World) (hp : Pows w) (hr : Rd w A n (ivs l)) (hn : n ≤ 200) :
    Calls Tryd.prog 13 #[.slice A n c, .int .i64 x] w fun e w' => e = .returned (.bool true) ∧ Below w.heap.size w w' := by
  have hl := hide hr.len
  have HL := hide (srt_len l)
  obtain ⟨h, hh⟩ : ∃ h, hasB l x = h := ⟨_, rfl⟩
  have hh := hide hh
  obtain ⟨t, ht⟩ : ∃ t, tiedB l = t := ⟨_, rfl⟩
  have ht := hide ht
  go_enter Tryd.func13, Tryd.ntmps13
  go_wp2_with (at_builtin; refine wpList_fresh rfl _ _ rfl (by rfl) (by rfl) hr (by omega) ?_; intro v1 w1 hown1 hb1)
  obtain ⟨A1, c1, rfl, _, _, hr1⟩ := Rd.of_own hown1
  clear hown1
  refine (lit_Sorted _ _ _ l _ (by omega) hr1).mono ?_
  rintro e w2 ⟨v2, rfl, hown2, hb2⟩
  obtain ⟨A2, c2, rfl, _, _, hr2⟩ := Rd.of_own hown2
  clear hown2
  have hr1 := hr1.below hb2 (Nat.le_refl _)
  have hb := hb1.trans (hb2.mono hb1.size)
  clear hb1 hb2
  go_wp2_with fail
  refine (ref_Sorted _ _ _ l _ (by omega) (hr.below hb (Nat.le_refl _))).mono ?_
  rintro e w3 ⟨A3, n3, c3, rfl, hn3, hr3, hb3⟩
  have hr1 := hr1.below hb3 (Nat.le_refl _)
  have hr2 := hr2.below hb3 (Nat.le_refl _)
  have hb := hb.trans (hb3.mono hb.size)
  clear hb3
  go_wp2_with fail
  refine (ints_same _ _ _ _ _ _ (srt l) _ (by have := HL.out; have := hl.out; omega) hr2 hr3).mono ?_
  rintro e w4 ⟨rfl, hd4⟩
  have hbx := hd4.below w3.heap.size
  have hr1 := hr1.below hbx (Nat.le_refl _)
  have hb := hb.trans (hbx.mono hb.size)
  clear hbx hd4 hr2 hr3
  have hr4 := hr.below hb (Nat.le_refl _)
  go_wp2_with fail
  refine (has_is hh.out (by omega) _ hr1).mono ?_
  rintro e w5 ⟨rfl, rfl⟩
  go_wp2_with fail
  refine (rhas_is hh.out (by omega) _ hr4).mono ?_
  rintro e w5 ⟨rfl, rfl⟩
  go_wp2_with fail
  refine (ltied_is (by omega) hr1 ht.out).mono ?_
  rintro e w6 ⟨rfl, hb6⟩
  have hr1 := hr1.below hb6 (Nat.le_refl _)
  have hb := hb.trans (hb6.mono hb.size)
  clear hb6 hr4
  have hr6 := hr.below hb (Nat.le_refl _)
  go_wp2_with fail
  refine (rtied_is (by omega) hr6 ht.out).mono ?_
  rintro e w7 ⟨rfl, rfl⟩
  go_wp2_with fail
  refine (ints_same _ _ _ _ _ _ l _ (by omega) hr1 hr6).mono ?_
  rintro e w8 ⟨rfl, hd8⟩
  have hb := hb.trans (hd8.below _)
  have hp8 := hp.below hb
  clear hd8 hr1 hr6
  go_wp2_with fail
  refine (lives _ hp8).mono ?_
  rintro e w9 ⟨rfl, hb9⟩
  have HB := hide (hb.trans (hb9.mono hb.size))
  clear hb9 hb
  go_wp2
  go_ret
  exact ⟨rfl, HB.out⟩
set_option maxHeartbeats 1600000 in
theorem lists_far (ad : Addr) (N n c : Nat) (l : List Int) (x : Int) (w : World) (hp : Pows w) (hr : Rd w (some ad) n (ivs l)) (hn : n = 200) (hN : 200 < N) (hc : N ≤ c) (hcm : c ≤ maxLen) :
    Calls Tryd.prog 13 #[.slice (some ad) N c, .int .i64 x] w fun e w' => e = .returned (.bool true) ∧ Below w.heap.size w w' := by
  subst hn
  have hl := hide hr.len
  have hNI : (200 : Int) < N := by omega
  have hcI : (200 : Int) ≤ c := by omega
  have hcn : 200 ≤ c := by omega
  unfold maxLen at hcm
  have HL := hide (srt_len l)
  obtain ⟨h, hh⟩ : ∃ h, hasB l x = h := ⟨_, rfl⟩
  have hh := hide hh
  obtain ⟨t, ht⟩ : ∃ t, tiedB l = t := ⟨_, rfl⟩
  have ht := hide ht
  go_enter Tryd.func13, Tryd.ntmps13
  go_wp2_with (at_builtin; refine wpList_fresh rfl _ _ rfl (by rfl) (by rfl) hr (by omega) ?_; intro v1 w1 hown1 hb1)
  obtain ⟨A1, c1, rfl, _, _, hr1⟩ := Rd.of_own hown1
  clear hown1
  refine (lit_Sorted _ _ _ l _ (by omega) hr1).mono ?_
  rintro e w2 ⟨v2, rfl, hown2, hb2⟩
  obtain ⟨A2, c2, rfl, _, _, hr2⟩ := Rd.of_own hown2
  clear hown2
  have hr1 := hr1.below hb2 (Nat.le_refl _)
  have hb := hb1.trans (hb2.mono hb1.size)
  clear hb1 hb2
  go_wp2_with fail
  refine (ref_Sorted _ _ _ l _ (by omega) (hr.below hb (Nat.le_refl _))).mono ?_
  rintro e w3 ⟨A3, n3, c3, rfl, hn3, hr3, hb3⟩
  have hr1 := hr1.below hb3 (Nat.le_refl _)
  have hr2 := hr2.below hb3 (Nat.le_refl _)
  have hb := hb.trans (hb3.mono hb.size)
  clear hb3
  go_wp2_with fail
  refine (ints_same _ _ _ _ _ _ (srt l) _ (by have := HL.out; have := hl.out; omega) hr2 hr3).mono ?_
  rintro e w4 ⟨rfl, hd4⟩
  have hbx := hd4.below w3.heap.size
  have hr1 := hr1.below hbx (Nat.le_refl _)
  have hb := hb.trans (hbx.mono hb.size)
  clear hbx hd4 hr2 hr3
  have hr4 := hr.below hb (Nat.le_refl _)
  go_wp2_with fail
  refine (has_is hh.out (by omega) _ hr1).mono ?_
  rintro e w5 ⟨rfl, rfl⟩
  go_wp2_with fail
  refine (rhas_is hh.out (by omega) _ hr4).mono ?_
  rintro e w5 ⟨rfl, rfl⟩
  go_wp2_with fail
  refine (ltied_is (by omega) hr1 ht.out).mono ?_
  rintro e w6 ⟨rfl, hb6⟩
  have hr1 := hr1.below hb6 (Nat.le_refl _)
  have hb := hb.trans (hb6.mono hb.size)
  clear hb6 hr4
  have hr6 := hr.below hb (Nat.le_refl _)
  go_wp2_with fail
  refine (rtied_is (by omega) hr6 ht.out).mono ?_
  rintro e w7 ⟨rfl, rfl⟩
  go_wp2_with fail
  refine (ints_same _ _ _ _ _ _ l _ (by omega) hr1 hr6).mono ?_
  rintro e w8 ⟨rfl, hd8⟩
  have hb := hb.trans (hd8.below _)
  have hp8 := hp.below hb
  clear hd8 hr1 hr6
  go_wp2_with fail
  refine (lives _ hp8).mono ?_
  rintro e w9 ⟨rfl, hb9⟩
  have HB := hide (hb.trans (hb9.mono hb.size))
  clear hb9 hb
  go_wp2
  go_ret
  exact ⟨rfl, HB.out⟩
theorem lists (A : Option Addr) (n c : Nat) (l : List Int) (x : Int) (w : World) (hp : Pows w) (hnc : n ≤ c) (hcm : c ≤ maxLen) (hr : Rd w A n (ivs l)) :
    Calls Tryd.prog 13 #[.slice A n c, .int .i64 x] w fun e w' => e = .returned (.bool true) ∧ Below w.heap.size w w' := by
  rcases Nat.lt_or_ge 200 n with h | h
  · obtain ⟨ad, rfl, _⟩ := hr.addr (by omega)
    have h1 := hr.take_ (m := 200) (by omega)
    rw [show (ivs l).take 200 = ivs (l.take 200) by unfold ivs; rw [List.map_take]] at h1
    exact lists_far ad n 200 c (l.take 200) x w hp h1 rfl h hnc hcm
  · exact lists_few A n c l x w hp hr h
end Go.Proofs.YtcjoohaagdihlaaDoor.LitList
