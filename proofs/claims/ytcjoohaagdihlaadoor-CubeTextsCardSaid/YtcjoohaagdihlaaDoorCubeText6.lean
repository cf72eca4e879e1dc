/- The law of CubeTexts. -/
import Derived.Test.YtcjoohaagdihlaaDoorCubeText5
namespace Go.Proofs.YtcjoohaagdihlaaDoor.CubeText
open Go.RowKit Go.Lt Go.Proofs.YtcjoohaagdihlaaDoor.Lit Go.Proofs.YtcjoohaagdihlaaDoor.CubeHas
set_option linter.unusedVariables false
set_option linter.unusedSimpArgs false

theorem read_ok {s : ByteArray} {w w' : World} {e : Ending} (h : readOK s = true) (hp : CubeRead s w e w') :
    ∃ A n c, e = .returned (.tuple #[.slice A n c, .int .i64 0]) ∧ n ≤ s.size ∧ Rd w' A n (ivs (litsOf (bs s) 0)) ∧ Below w.heap.size w w' := by
  rcases hp with ⟨_, hp⟩ | ⟨hf, _⟩
  · exact hp
  · rw [h] at hf; cases hf
theorem read_bad {s : ByteArray} {w w' : World} {e : Ending} (h : readOK s = false) (hp : CubeRead s w e w') :
    e = .returned (.tuple #[.slice none 0 0, .int .i64 2]) ∧ Below w.heap.size w w' := by
  rcases hp with ⟨hf, _⟩ | ⟨_, hp⟩
  · rw [h] at hf; cases hf
  · exact hp
theorem ints_one (A B : Option Addr) (n m c d : Nat) (a : List Int) (w : World) (hn : n ≤ 1000000) (hra : Rd w A n (ivs a)) (hrb : Rd w B m (ivs a)) :
    Calls Tryd.prog 26 #[.slice A n c, .slice B m d] w fun e w' => e = .returned (.bool true) ∧ Dr w w' :=
  (ref_Ints A B n m c d a a w hn hra hrb).mono fun e w' ⟨he, hd⟩ => ⟨he.trans (by unfold sameI; simp), hd⟩

/-- an operation whose guard is met, as one without a guard -/
theorem wpList_wanted {P : Program} {ops : Array Oper} {Q : Exit → Act → World → Prop} {a : Act} {w : World} {rest : List Oper} {d : Option Tmp} {op : Op} {ty : TypeId} {pos : String} {af : Array Edge} {gd : Option (Nat × Bool)}
    (hw : Region.wanted ⟨d, op, ty, pos, af, gd⟩ (yielded ops a.tmps) = true) (h : wpList P ops Q (⟨d, op, ty, pos, af, none⟩ :: rest) a w) : wpList P ops Q (⟨d, op, ty, pos, af, gd⟩ :: rest) a w := by
  unfold wpList at h ⊢
  rw [if_pos hw]
  rw [if_pos (by simp [Region.wanted])] at h
  exact h

set_option maxHeartbeats 1600000 in
theorem texts (A : Option Addr) (n cc : Nat) (c : List Int) (many : Int) (s : ByteArray) (w : World) (hs : Signs w) (hr : Rd w A n (ivs c)) :
    Calls Tryd.prog 4 #[.slice A n cc, .int .i64 many, .string s] w fun e w' => e = .returned (.bool true) ∧ Below w.heap.size w w' := by
  by_cases h60 : 60 < n
  · have f1 : True → decide (60 < n) = true := fun _ => by rw [decide_eq_true_iff]; exact h60
    have f2 : True → decide ((60 : Int) < n) = true := fun _ => by rw [decide_eq_true_iff]; omega
    go_enter Tryd.func4, Tryd.ntmps4
    go_wp2_with (go_at_call 15; refine (lives _ hs).mono ?_; rintro e w1 ⟨rfl, hb1⟩)
    go_ret
    exact ⟨rfl, hb1⟩
  have f1 : True → decide (60 < n) = false := fun _ => by rw [decide_eq_false_iff_not]; exact h60
  have f2 : True → decide ((60 : Int) < n) = false := fun _ => by rw [decide_eq_false_iff_not]; omega
  have hn := hide (show n ≤ 60 by omega)
  clear h60
  by_cases hbig : 2100 < s.size
  · have g1 : True → decide (2100 < s.size) = true := fun _ => by rw [decide_eq_true_iff]; exact hbig
    have g2 : True → decide ((2100 : Int) < s.size) = true := fun _ => by rw [decide_eq_true_iff]; omega
    have g3 : True → decide (300 < s.size) = true := fun _ => by rw [decide_eq_true_iff]; omega
    have g4 : True → decide ((300 : Int) < s.size) = true := fun _ => by rw [decide_eq_true_iff]; omega
    have g5 : True → decide (s.size < 2000) = false := fun _ => by rw [decide_eq_false_iff_not]; omega
    have g6 : True → decide ((s.size : Int) < 2000) = false := fun _ => by rw [decide_eq_false_iff_not]; omega
    clear hbig
    go_enter Tryd.func4, Tryd.ntmps4
    go_wp2_with (go_at_call 15; refine (lives _ hs).mono ?_; rintro e w1 ⟨rfl, hb1⟩)
    go_ret
    exact ⟨rfl, hb1⟩
  have g1 : True → decide (2100 < s.size) = false := fun _ => by rw [decide_eq_false_iff_not]; exact hbig
  have g2 : True → decide ((2100 : Int) < s.size) = false := fun _ => by rw [decide_eq_false_iff_not]; omega
  have hN := hide (show s.size ≤ 2100 by omega)
  clear hbig
  by_cases hmid : 300 < s.size ∧ s.size < 2000
  · obtain ⟨hm1, hm2⟩ := hmid
    have g3 : True → decide (300 < s.size) = true := fun _ => by rw [decide_eq_true_iff]; omega
    have g4 : True → decide ((300 : Int) < s.size) = true := fun _ => by rw [decide_eq_true_iff]; omega
    have g5 : True → decide (s.size < 2000) = true := fun _ => by rw [decide_eq_true_iff]; omega
    have g6 : True → decide ((s.size : Int) < 2000) = true := fun _ => by rw [decide_eq_true_iff]; omega
    clear hm1 hm2
    go_enter Tryd.func4, Tryd.ntmps4
    go_wp2_with (go_at_call 15; refine (lives _ hs).mono ?_; rintro e w1 ⟨rfl, hb1⟩)
    go_ret
    exact ⟨rfl, hb1⟩
  have h300 : (s.size ≤ 300) ∨ (300 < s.size ∧ 2000 ≤ s.size) := by omega
  have hmany : (many ≤ 40) ∨ (40 < many ∧ 1900 ≤ many) ∨ (40 < many ∧ many < 1900) := by omega
  clear hmid
  cases hok : readOK s
  · have hok := hide hok
    rcases h300 with h3 | ⟨h3, h4⟩
    · have g3 : True → decide (300 < s.size) = false := fun _ => by rw [decide_eq_false_iff_not]; omega
      have g4 : True → decide ((300 : Int) < s.size) = false := fun _ => by rw [decide_eq_false_iff_not]; omega
      clear h3
      rcases hmany with h5 | ⟨h5, h6⟩ | ⟨h5, h6⟩
      · have m1 : True → decide (40 < many) = false := fun _ => by rw [decide_eq_false_iff_not]; omega
        clear h5
        go_enter Tryd.func4, Tryd.ntmps4
        go_wp2_with (go_at_call 24; refine (cube_Read s _ hN.out hs).mono ?_; intro e w1 hp; obtain ⟨rfl, hb1⟩ := read_bad hok.out hp; clear hp)
        refine (ref_Read s _ hN.out).mono ?_
        intro e w2 hp
        obtain ⟨rfl, hb2⟩ := read_bad hok.out hp
        clear hp
        go_wp2_with fail
        refine (ints_one _ _ _ _ _ _ [] _ (by omega) (Rd.nil _ _) (Rd.nil _ _)).mono ?_
        rintro e w3 ⟨rfl, hd3⟩
        have hb3 : Below w.heap.size w w3 := (hb1.trans (hb2.mono hb1.size)).trans (hd3.below _)
        have hrc : Rd (w3.alloc (.cells #[] 3)) A n (ivs c) := hr.below (hb3.alloc hb3.size _) (Nat.le_refl _)
        clear hb1 hb2 hd3
        go_wp2_with (at_builtin; refine wpList_wanted (by rfl) ?_; refine wpList_append_rd rfl _ _ _ rfl Tryd.underlying22 info_int rfl rfl rfl (World.ownsRow_lit w3 #[] 0 (Nat.le_refl _) (by unfold maxLen; omega) rfl) ((Below.refl w3.heap.size w3).alloc (Nat.le_refl _) _) (by simp) hrc (by intro u hu; obtain ⟨x, _, rfl⟩ := List.mem_map.1 hu; rfl) (by have := hn.out; unfold maxLen; omega) (by have := hn.out; omega) ?_; intro v4 w4 hown4 hb4; simp only [Nat.zero_add, List.nil_append] at hown4; obtain ⟨A4, c4, rfl, _, _, hr4⟩ := Rd.of_own hown4; clear hown4)
        obtain ⟨X, hX⟩ : ∃ X, str ((signsOf c (bounded many)).map sgn) = .string X := ⟨_, rfl⟩
        have hX := hide hX
        have hb4' : Below w.heap.size w w4 := hb3.trans (hb4.mono hb3.size)
        refine (cube_Text _ _ _ c _ _ (by have := hn.out; omega) (hs.below hb4') hr4).mono ?_
        rintro e w5 ⟨rfl, hb5⟩
        rw [hX.out]
        have hb5' : Below w.heap.size w w5 := hb4'.trans (hb5.mono hb4'.size)
        have hb35 : Below w3.heap.size w3 w5 := hb4.trans (hb5.mono hb4.size)
        clear hr4 hrc hb4 hb5 hb4' hb3
        go_wp2_with fail
        refine (ref_Text _ _ _ c _ _ (by have := hn.out; omega) (hr.below hb5' (Nat.le_refl _))).mono ?_
        rintro e w6 ⟨rfl, rfl⟩
        rw [hX.out]
        go_wp2_with fail
        refine (lives _ (hs.below hb5')).mono ?_
        rintro e w8 ⟨rfl, hb8⟩
        go_wp2
        go_ret
        exact ⟨rfl, hb5'.trans (hb8.mono hb5'.size)⟩
      · have m1 : True → decide (40 < many) = true := fun _ => by rw [decide_eq_true_iff]; omega
        have m2 : True → decide (many < 1900) = false := fun _ => by rw [decide_eq_false_iff_not]; omega
        clear h5 h6
        go_enter Tryd.func4, Tryd.ntmps4
        go_wp2_with (go_at_call 24; refine (cube_Read s _ hN.out hs).mono ?_; intro e w1 hp; obtain ⟨rfl, hb1⟩ := read_bad hok.out hp; clear hp)
        refine (ref_Read s _ hN.out).mono ?_
        intro e w2 hp
        obtain ⟨rfl, hb2⟩ := read_bad hok.out hp
        clear hp
        go_wp2_with fail
        refine (ints_one _ _ _ _ _ _ [] _ (by omega) (Rd.nil _ _) (Rd.nil _ _)).mono ?_
        rintro e w3 ⟨rfl, hd3⟩
        have hb3 : Below w.heap.size w w3 := (hb1.trans (hb2.mono hb1.size)).trans (hd3.below _)
        have hrc : Rd (w3.alloc (.cells #[] 3)) A n (ivs c) := hr.below (hb3.alloc hb3.size _) (Nat.le_refl _)
        clear hb1 hb2 hd3
        go_wp2_with (at_builtin; refine wpList_wanted (by rfl) ?_; refine wpList_append_rd rfl _ _ _ rfl Tryd.underlying22 info_int rfl rfl rfl (World.ownsRow_lit w3 #[] 0 (Nat.le_refl _) (by unfold maxLen; omega) rfl) ((Below.refl w3.heap.size w3).alloc (Nat.le_refl _) _) (by simp) hrc (by intro u hu; obtain ⟨x, _, rfl⟩ := List.mem_map.1 hu; rfl) (by have := hn.out; unfold maxLen; omega) (by have := hn.out; omega) ?_; intro v4 w4 hown4 hb4; simp only [Nat.zero_add, List.nil_append] at hown4; obtain ⟨A4, c4, rfl, _, _, hr4⟩ := Rd.of_own hown4; clear hown4)
        obtain ⟨X, hX⟩ : ∃ X, str ((signsOf c (bounded many)).map sgn) = .string X := ⟨_, rfl⟩
        have hX := hide hX
        have hb4' : Below w.heap.size w w4 := hb3.trans (hb4.mono hb3.size)
        refine (cube_Text _ _ _ c _ _ (by have := hn.out; omega) (hs.below hb4') hr4).mono ?_
        rintro e w5 ⟨rfl, hb5⟩
        rw [hX.out]
        have hb5' : Below w.heap.size w w5 := hb4'.trans (hb5.mono hb4'.size)
        have hb35 : Below w3.heap.size w3 w5 := hb4.trans (hb5.mono hb4.size)
        clear hr4 hrc hb4 hb5 hb4' hb3
        go_wp2_with fail
        refine (ref_Text _ _ _ c _ _ (by have := hn.out; omega) (hr.below hb5' (Nat.le_refl _))).mono ?_
        rintro e w6 ⟨rfl, rfl⟩
        rw [hX.out]
        go_wp2_with fail
        refine (lives _ (hs.below hb5')).mono ?_
        rintro e w8 ⟨rfl, hb8⟩
        go_wp2
        go_ret
        exact ⟨rfl, hb5'.trans (hb8.mono hb5'.size)⟩
      · have m1 : True → decide (40 < many) = true := fun _ => by rw [decide_eq_true_iff]; omega
        have m2 : True → decide (many < 1900) = true := fun _ => by rw [decide_eq_true_iff]; omega
        clear h5 h6
        go_enter Tryd.func4, Tryd.ntmps4
        go_wp2_with (go_at_call 24; refine (cube_Read s _ hN.out hs).mono ?_; intro e w1 hp; obtain ⟨rfl, hb1⟩ := read_bad hok.out hp; clear hp)
        refine (ref_Read s _ hN.out).mono ?_
        intro e w2 hp
        obtain ⟨rfl, hb2⟩ := read_bad hok.out hp
        clear hp
        go_wp2_with fail
        refine (ints_one _ _ _ _ _ _ [] _ (by omega) (Rd.nil _ _) (Rd.nil _ _)).mono ?_
        rintro e w3 ⟨rfl, hd3⟩
        have hb3 : Below w.heap.size w w3 := (hb1.trans (hb2.mono hb1.size)).trans (hd3.below _)
        have hrc : Rd (w3.alloc (.cells #[] 3)) A n (ivs c) := hr.below (hb3.alloc hb3.size _) (Nat.le_refl _)
        clear hb1 hb2 hd3
        go_wp2_with (at_builtin; refine wpList_wanted (by rfl) ?_; refine wpList_append_rd rfl _ _ _ rfl Tryd.underlying22 info_int rfl rfl rfl (World.ownsRow_lit w3 #[] 0 (Nat.le_refl _) (by unfold maxLen; omega) rfl) ((Below.refl w3.heap.size w3).alloc (Nat.le_refl _) _) (by simp) hrc (by intro u hu; obtain ⟨x, _, rfl⟩ := List.mem_map.1 hu; rfl) (by have := hn.out; unfold maxLen; omega) (by have := hn.out; omega) ?_; intro v4 w4 hown4 hb4; simp only [Nat.zero_add, List.nil_append] at hown4; obtain ⟨A4, c4, rfl, _, _, hr4⟩ := Rd.of_own hown4; clear hown4)
        obtain ⟨X, hX⟩ : ∃ X, str ((signsOf c (bounded (many.tmod 40))).map sgn) = .string X := ⟨_, rfl⟩
        have hX := hide hX
        have hb4' : Below w.heap.size w w4 := hb3.trans (hb4.mono hb3.size)
        refine (cube_Text _ _ _ c _ _ (by have := hn.out; omega) (hs.below hb4') hr4).mono ?_
        rintro e w5 ⟨rfl, hb5⟩
        rw [hX.out]
        have hb5' : Below w.heap.size w w5 := hb4'.trans (hb5.mono hb4'.size)
        have hb35 : Below w3.heap.size w3 w5 := hb4.trans (hb5.mono hb4.size)
        clear hr4 hrc hb4 hb5 hb4' hb3
        go_wp2_with fail
        refine (ref_Text _ _ _ c _ _ (by have := hn.out; omega) (hr.below hb5' (Nat.le_refl _))).mono ?_
        rintro e w6 ⟨rfl, rfl⟩
        rw [hX.out]
        go_wp2_with fail
        refine (lives _ (hs.below hb5')).mono ?_
        rintro e w8 ⟨rfl, hb8⟩
        go_wp2
        go_ret
        exact ⟨rfl, hb5'.trans (hb8.mono hb5'.size)⟩
    · have g3 : True → decide (300 < s.size) = true := fun _ => by rw [decide_eq_true_iff]; omega
      have g4 : True → decide ((300 : Int) < s.size) = true := fun _ => by rw [decide_eq_true_iff]; omega
      have g5 : True → decide (s.size < 2000) = false := fun _ => by rw [decide_eq_false_iff_not]; omega
      have g6 : True → decide ((s.size : Int) < 2000) = false := fun _ => by rw [decide_eq_false_iff_not]; omega
      clear h3 h4
      rcases hmany with h5 | ⟨h5, h6⟩ | ⟨h5, h6⟩
      · have m1 : True → decide (40 < many) = false := fun _ => by rw [decide_eq_false_iff_not]; omega
        clear h5
        go_enter Tryd.func4, Tryd.ntmps4
        go_wp2_with (go_at_call 24; refine (cube_Read s _ hN.out hs).mono ?_; intro e w1 hp; obtain ⟨rfl, hb1⟩ := read_bad hok.out hp; clear hp)
        refine (ref_Read s _ hN.out).mono ?_
        intro e w2 hp
        obtain ⟨rfl, hb2⟩ := read_bad hok.out hp
        clear hp
        go_wp2_with fail
        refine (ints_one _ _ _ _ _ _ [] _ (by omega) (Rd.nil _ _) (Rd.nil _ _)).mono ?_
        rintro e w3 ⟨rfl, hd3⟩
        have hb3 : Below w.heap.size w w3 := (hb1.trans (hb2.mono hb1.size)).trans (hd3.below _)
        have hrc : Rd (w3.alloc (.cells #[] 3)) A n (ivs c) := hr.below (hb3.alloc hb3.size _) (Nat.le_refl _)
        clear hb1 hb2 hd3
        go_wp2_with (at_builtin; refine wpList_wanted (by rfl) ?_; refine wpList_append_rd rfl _ _ _ rfl Tryd.underlying22 info_int rfl rfl rfl (World.ownsRow_lit w3 #[] 0 (Nat.le_refl _) (by unfold maxLen; omega) rfl) ((Below.refl w3.heap.size w3).alloc (Nat.le_refl _) _) (by simp) hrc (by intro u hu; obtain ⟨x, _, rfl⟩ := List.mem_map.1 hu; rfl) (by have := hn.out; unfold maxLen; omega) (by have := hn.out; omega) ?_; intro v4 w4 hown4 hb4; simp only [Nat.zero_add, List.nil_append] at hown4; obtain ⟨A4, c4, rfl, _, _, hr4⟩ := Rd.of_own hown4; clear hown4)
        obtain ⟨X, hX⟩ : ∃ X, str ((signsOf c (bounded many)).map sgn) = .string X := ⟨_, rfl⟩
        have hX := hide hX
        have hb4' : Below w.heap.size w w4 := hb3.trans (hb4.mono hb3.size)
        refine (cube_Text _ _ _ c _ _ (by have := hn.out; omega) (hs.below hb4') hr4).mono ?_
        rintro e w5 ⟨rfl, hb5⟩
        rw [hX.out]
        have hb5' : Below w.heap.size w w5 := hb4'.trans (hb5.mono hb4'.size)
        have hb35 : Below w3.heap.size w3 w5 := hb4.trans (hb5.mono hb4.size)
        clear hr4 hrc hb4 hb5 hb4' hb3
        go_wp2_with fail
        refine (ref_Text _ _ _ c _ _ (by have := hn.out; omega) (hr.below hb5' (Nat.le_refl _))).mono ?_
        rintro e w6 ⟨rfl, rfl⟩
        rw [hX.out]
        go_wp2_with fail
        refine (lives _ (hs.below hb5')).mono ?_
        rintro e w8 ⟨rfl, hb8⟩
        go_wp2
        go_ret
        exact ⟨rfl, hb5'.trans (hb8.mono hb5'.size)⟩
      · have m1 : True → decide (40 < many) = true := fun _ => by rw [decide_eq_true_iff]; omega
        have m2 : True → decide (many < 1900) = false := fun _ => by rw [decide_eq_false_iff_not]; omega
        clear h5 h6
        go_enter Tryd.func4, Tryd.ntmps4
        go_wp2_with (go_at_call 24; refine (cube_Read s _ hN.out hs).mono ?_; intro e w1 hp; obtain ⟨rfl, hb1⟩ := read_bad hok.out hp; clear hp)
        refine (ref_Read s _ hN.out).mono ?_
        intro e w2 hp
        obtain ⟨rfl, hb2⟩ := read_bad hok.out hp
        clear hp
        go_wp2_with fail
        refine (ints_one _ _ _ _ _ _ [] _ (by omega) (Rd.nil _ _) (Rd.nil _ _)).mono ?_
        rintro e w3 ⟨rfl, hd3⟩
        have hb3 : Below w.heap.size w w3 := (hb1.trans (hb2.mono hb1.size)).trans (hd3.below _)
        have hrc : Rd (w3.alloc (.cells #[] 3)) A n (ivs c) := hr.below (hb3.alloc hb3.size _) (Nat.le_refl _)
        clear hb1 hb2 hd3
        go_wp2_with (at_builtin; refine wpList_wanted (by rfl) ?_; refine wpList_append_rd rfl _ _ _ rfl Tryd.underlying22 info_int rfl rfl rfl (World.ownsRow_lit w3 #[] 0 (Nat.le_refl _) (by unfold maxLen; omega) rfl) ((Below.refl w3.heap.size w3).alloc (Nat.le_refl _) _) (by simp) hrc (by intro u hu; obtain ⟨x, _, rfl⟩ := List.mem_map.1 hu; rfl) (by have := hn.out; unfold maxLen; omega) (by have := hn.out; omega) ?_; intro v4 w4 hown4 hb4; simp only [Nat.zero_add, List.nil_append] at hown4; obtain ⟨A4, c4, rfl, _, _, hr4⟩ := Rd.of_own hown4; clear hown4)
        obtain ⟨X, hX⟩ : ∃ X, str ((signsOf c (bounded many)).map sgn) = .string X := ⟨_, rfl⟩
        have hX := hide hX
        have hb4' : Below w.heap.size w w4 := hb3.trans (hb4.mono hb3.size)
        refine (cube_Text _ _ _ c _ _ (by have := hn.out; omega) (hs.below hb4') hr4).mono ?_
        rintro e w5 ⟨rfl, hb5⟩
        rw [hX.out]
        have hb5' : Below w.heap.size w w5 := hb4'.trans (hb5.mono hb4'.size)
        have hb35 : Below w3.heap.size w3 w5 := hb4.trans (hb5.mono hb4.size)
        clear hr4 hrc hb4 hb5 hb4' hb3
        go_wp2_with fail
        refine (ref_Text _ _ _ c _ _ (by have := hn.out; omega) (hr.below hb5' (Nat.le_refl _))).mono ?_
        rintro e w6 ⟨rfl, rfl⟩
        rw [hX.out]
        go_wp2_with fail
        refine (lives _ (hs.below hb5')).mono ?_
        rintro e w8 ⟨rfl, hb8⟩
        go_wp2
        go_ret
        exact ⟨rfl, hb5'.trans (hb8.mono hb5'.size)⟩
      · have m1 : True → decide (40 < many) = true := fun _ => by rw [decide_eq_true_iff]; omega
        have m2 : True → decide (many < 1900) = true := fun _ => by rw [decide_eq_true_iff]; omega
        clear h5 h6
        go_enter Tryd.func4, Tryd.ntmps4
        go_wp2_with (go_at_call 24; refine (cube_Read s _ hN.out hs).mono ?_; intro e w1 hp; obtain ⟨rfl, hb1⟩ := read_bad hok.out hp; clear hp)
        refine (ref_Read s _ hN.out).mono ?_
        intro e w2 hp
        obtain ⟨rfl, hb2⟩ := read_bad hok.out hp
        clear hp
        go_wp2_with fail
        refine (ints_one _ _ _ _ _ _ [] _ (by omega) (Rd.nil _ _) (Rd.nil _ _)).mono ?_
        rintro e w3 ⟨rfl, hd3⟩
        have hb3 : Below w.heap.size w w3 := (hb1.trans (hb2.mono hb1.size)).trans (hd3.below _)
        have hrc : Rd (w3.alloc (.cells #[] 3)) A n (ivs c) := hr.below (hb3.alloc hb3.size _) (Nat.le_refl _)
        clear hb1 hb2 hd3
        go_wp2_with (at_builtin; refine wpList_wanted (by rfl) ?_; refine wpList_append_rd rfl _ _ _ rfl Tryd.underlying22 info_int rfl rfl rfl (World.ownsRow_lit w3 #[] 0 (Nat.le_refl _) (by unfold maxLen; omega) rfl) ((Below.refl w3.heap.size w3).alloc (Nat.le_refl _) _) (by simp) hrc (by intro u hu; obtain ⟨x, _, rfl⟩ := List.mem_map.1 hu; rfl) (by have := hn.out; unfold maxLen; omega) (by have := hn.out; omega) ?_; intro v4 w4 hown4 hb4; simp only [Nat.zero_add, List.nil_append] at hown4; obtain ⟨A4, c4, rfl, _, _, hr4⟩ := Rd.of_own hown4; clear hown4)
        obtain ⟨X, hX⟩ : ∃ X, str ((signsOf c (bounded (many.tmod 40))).map sgn) = .string X := ⟨_, rfl⟩
        have hX := hide hX
        have hb4' : Below w.heap.size w w4 := hb3.trans (hb4.mono hb3.size)
        refine (cube_Text _ _ _ c _ _ (by have := hn.out; omega) (hs.below hb4') hr4).mono ?_
        rintro e w5 ⟨rfl, hb5⟩
        rw [hX.out]
        have hb5' : Below w.heap.size w w5 := hb4'.trans (hb5.mono hb4'.size)
        have hb35 : Below w3.heap.size w3 w5 := hb4.trans (hb5.mono hb4.size)
        clear hr4 hrc hb4 hb5 hb4' hb3
        go_wp2_with fail
        refine (ref_Text _ _ _ c _ _ (by have := hn.out; omega) (hr.below hb5' (Nat.le_refl _))).mono ?_
        rintro e w6 ⟨rfl, rfl⟩
        rw [hX.out]
        go_wp2_with fail
        refine (lives _ (hs.below hb5')).mono ?_
        rintro e w8 ⟨rfl, hb8⟩
        go_wp2
        go_ret
        exact ⟨rfl, hb5'.trans (hb8.mono hb5'.size)⟩
  · have hok := hide hok
    rcases h300 with h3 | ⟨h3, h4⟩
    · have g3 : True → decide (300 < s.size) = false := fun _ => by rw [decide_eq_false_iff_not]; omega
      have g4 : True → decide ((300 : Int) < s.size) = false := fun _ => by rw [decide_eq_false_iff_not]; omega
      clear h3
      rcases hmany with h5 | ⟨h5, h6⟩ | ⟨h5, h6⟩
      · have m1 : True → decide (40 < many) = false := fun _ => by rw [decide_eq_false_iff_not]; omega
        clear h5
        go_enter Tryd.func4, Tryd.ntmps4
        go_wp2_with (go_at_call 24; refine (cube_Read s _ hN.out hs).mono ?_; intro e w1 hp; obtain ⟨A1, n1, c1, rfl, hn1, hr1, hb1⟩ := read_ok hok.out hp; clear hp)
        refine (ref_Read s _ hN.out).mono ?_
        intro e w2 hp
        obtain ⟨A2, n2, c2, rfl, hn2, hr2, hb2⟩ := read_ok hok.out hp
        clear hp
        go_wp2_with fail
        refine (ints_one _ _ _ _ _ _ _ _ (by have := hN.out; omega) (hr1.below hb2 (Nat.le_refl _)) hr2).mono ?_
        rintro e w3 ⟨rfl, hd3⟩
        have hr1' : Rd w3 A1 n1 (ivs (litsOf (bs s) 0)) := (hr1.below hb2 (Nat.le_refl _)).below (hd3.below _) (Nat.le_refl _)
        have hn1 := hide (show n1 ≤ 1000000 by have := hN.out; omega)
        have hb3 : Below w.heap.size w w3 := (hb1.trans (hb2.mono hb1.size)).trans (hd3.below _)
        have hrc : Rd (w3.alloc (.cells #[] 3)) A n (ivs c) := hr.below (hb3.alloc hb3.size _) (Nat.le_refl _)
        clear hb1 hb2 hd3 hr1 hr2
        go_wp2_with (at_builtin; refine wpList_wanted (by rfl) ?_; refine wpList_append_rd rfl _ _ _ rfl Tryd.underlying22 info_int rfl rfl rfl (World.ownsRow_lit w3 #[] 0 (Nat.le_refl _) (by unfold maxLen; omega) rfl) ((Below.refl w3.heap.size w3).alloc (Nat.le_refl _) _) (by simp) hrc (by intro u hu; obtain ⟨x, _, rfl⟩ := List.mem_map.1 hu; rfl) (by have := hn.out; unfold maxLen; omega) (by have := hn.out; omega) ?_; intro v4 w4 hown4 hb4; simp only [Nat.zero_add, List.nil_append] at hown4; obtain ⟨A4, c4, rfl, _, _, hr4⟩ := Rd.of_own hown4; clear hown4)
        obtain ⟨X, hX⟩ : ∃ X, str ((signsOf c (bounded many)).map sgn) = .string X := ⟨_, rfl⟩
        have hX := hide hX
        have hb4' : Below w.heap.size w w4 := hb3.trans (hb4.mono hb3.size)
        refine (cube_Text _ _ _ c _ _ (by have := hn.out; omega) (hs.below hb4') hr4).mono ?_
        rintro e w5 ⟨rfl, hb5⟩
        rw [hX.out]
        have hb5' : Below w.heap.size w w5 := hb4'.trans (hb5.mono hb4'.size)
        have hb35 : Below w3.heap.size w3 w5 := hb4.trans (hb5.mono hb4.size)
        clear hr4 hrc hb4 hb5 hb4' hb3
        go_wp2_with fail
        refine (ref_Text _ _ _ c _ _ (by have := hn.out; omega) (hr.below hb5' (Nat.le_refl _))).mono ?_
        rintro e w6 ⟨rfl, rfl⟩
        rw [hX.out]
        go_wp2_with fail
        refine (cube_Text _ _ _ (litsOf (bs s) 0) _ _ hn1.out (hs.below hb5') (hr1'.below hb35 (Nat.le_refl _))).mono ?_
        rintro e w7 ⟨rfl, hb7⟩
        rw [text_back s hok.out]
        have hb7' : Below w.heap.size w w7 := hb5'.trans (hb7.mono hb5'.size)
        clear hb7 hr1' hb35
        go_wp2_with fail
        refine (lives _ (hs.below hb7')).mono ?_
        rintro e w8 ⟨rfl, hb8⟩
        go_wp2
        go_ret
        exact ⟨rfl, hb7'.trans (hb8.mono hb7'.size)⟩
      · have m1 : True → decide (40 < many) = true := fun _ => by rw [decide_eq_true_iff]; omega
        have m2 : True → decide (many < 1900) = false := fun _ => by rw [decide_eq_false_iff_not]; omega
        clear h5 h6
        go_enter Tryd.func4, Tryd.ntmps4
        go_wp2_with (go_at_call 24; refine (cube_Read s _ hN.out hs).mono ?_; intro e w1 hp; obtain ⟨A1, n1, c1, rfl, hn1, hr1, hb1⟩ := read_ok hok.out hp; clear hp)
        refine (ref_Read s _ hN.out).mono ?_
        intro e w2 hp
        obtain ⟨A2, n2, c2, rfl, hn2, hr2, hb2⟩ := read_ok hok.out hp
        clear hp
        go_wp2_with fail
        refine (ints_one _ _ _ _ _ _ _ _ (by have := hN.out; omega) (hr1.below hb2 (Nat.le_refl _)) hr2).mono ?_
        rintro e w3 ⟨rfl, hd3⟩
        have hr1' : Rd w3 A1 n1 (ivs (litsOf (bs s) 0)) := (hr1.below hb2 (Nat.le_refl _)).below (hd3.below _) (Nat.le_refl _)
        have hn1 := hide (show n1 ≤ 1000000 by have := hN.out; omega)
        have hb3 : Below w.heap.size w w3 := (hb1.trans (hb2.mono hb1.size)).trans (hd3.below _)
        have hrc : Rd (w3.alloc (.cells #[] 3)) A n (ivs c) := hr.below (hb3.alloc hb3.size _) (Nat.le_refl _)
        clear hb1 hb2 hd3 hr1 hr2
        go_wp2_with (at_builtin; refine wpList_wanted (by rfl) ?_; refine wpList_append_rd rfl _ _ _ rfl Tryd.underlying22 info_int rfl rfl rfl (World.ownsRow_lit w3 #[] 0 (Nat.le_refl _) (by unfold maxLen; omega) rfl) ((Below.refl w3.heap.size w3).alloc (Nat.le_refl _) _) (by simp) hrc (by intro u hu; obtain ⟨x, _, rfl⟩ := List.mem_map.1 hu; rfl) (by have := hn.out; unfold maxLen; omega) (by have := hn.out; omega) ?_; intro v4 w4 hown4 hb4; simp only [Nat.zero_add, List.nil_append] at hown4; obtain ⟨A4, c4, rfl, _, _, hr4⟩ := Rd.of_own hown4; clear hown4)
        obtain ⟨X, hX⟩ : ∃ X, str ((signsOf c (bounded many)).map sgn) = .string X := ⟨_, rfl⟩
        have hX := hide hX
        have hb4' : Below w.heap.size w w4 := hb3.trans (hb4.mono hb3.size)
        refine (cube_Text _ _ _ c _ _ (by have := hn.out; omega) (hs.below hb4') hr4).mono ?_
        rintro e w5 ⟨rfl, hb5⟩
        rw [hX.out]
        have hb5' : Below w.heap.size w w5 := hb4'.trans (hb5.mono hb4'.size)
        have hb35 : Below w3.heap.size w3 w5 := hb4.trans (hb5.mono hb4.size)
        clear hr4 hrc hb4 hb5 hb4' hb3
        go_wp2_with fail
        refine (ref_Text _ _ _ c _ _ (by have := hn.out; omega) (hr.below hb5' (Nat.le_refl _))).mono ?_
        rintro e w6 ⟨rfl, rfl⟩
        rw [hX.out]
        go_wp2_with fail
        refine (cube_Text _ _ _ (litsOf (bs s) 0) _ _ hn1.out (hs.below hb5') (hr1'.below hb35 (Nat.le_refl _))).mono ?_
        rintro e w7 ⟨rfl, hb7⟩
        rw [text_back s hok.out]
        have hb7' : Below w.heap.size w w7 := hb5'.trans (hb7.mono hb5'.size)
        clear hb7 hr1' hb35
        go_wp2_with fail
        refine (lives _ (hs.below hb7')).mono ?_
        rintro e w8 ⟨rfl, hb8⟩
        go_wp2
        go_ret
        exact ⟨rfl, hb7'.trans (hb8.mono hb7'.size)⟩
      · have m1 : True → decide (40 < many) = true := fun _ => by rw [decide_eq_true_iff]; omega
        have m2 : True → decide (many < 1900) = true := fun _ => by rw [decide_eq_true_iff]; omega
        clear h5 h6
        go_enter Tryd.func4, Tryd.ntmps4
        go_wp2_with (go_at_call 24; refine (cube_Read s _ hN.out hs).mono ?_; intro e w1 hp; obtain ⟨A1, n1, c1, rfl, hn1, hr1, hb1⟩ := read_ok hok.out hp; clear hp)
        refine (ref_Read s _ hN.out).mono ?_
        intro e w2 hp
        obtain ⟨A2, n2, c2, rfl, hn2, hr2, hb2⟩ := read_ok hok.out hp
        clear hp
        go_wp2_with fail
        refine (ints_one _ _ _ _ _ _ _ _ (by have := hN.out; omega) (hr1.below hb2 (Nat.le_refl _)) hr2).mono ?_
        rintro e w3 ⟨rfl, hd3⟩
        have hr1' : Rd w3 A1 n1 (ivs (litsOf (bs s) 0)) := (hr1.below hb2 (Nat.le_refl _)).below (hd3.below _) (Nat.le_refl _)
        have hn1 := hide (show n1 ≤ 1000000 by have := hN.out; omega)
        have hb3 : Below w.heap.size w w3 := (hb1.trans (hb2.mono hb1.size)).trans (hd3.below _)
        have hrc : Rd (w3.alloc (.cells #[] 3)) A n (ivs c) := hr.below (hb3.alloc hb3.size _) (Nat.le_refl _)
        clear hb1 hb2 hd3 hr1 hr2
        go_wp2_with (at_builtin; refine wpList_wanted (by rfl) ?_; refine wpList_append_rd rfl _ _ _ rfl Tryd.underlying22 info_int rfl rfl rfl (World.ownsRow_lit w3 #[] 0 (Nat.le_refl _) (by unfold maxLen; omega) rfl) ((Below.refl w3.heap.size w3).alloc (Nat.le_refl _) _) (by simp) hrc (by intro u hu; obtain ⟨x, _, rfl⟩ := List.mem_map.1 hu; rfl) (by have := hn.out; unfold maxLen; omega) (by have := hn.out; omega) ?_; intro v4 w4 hown4 hb4; simp only [Nat.zero_add, List.nil_append] at hown4; obtain ⟨A4, c4, rfl, _, _, hr4⟩ := Rd.of_own hown4; clear hown4)
        obtain ⟨X, hX⟩ : ∃ X, str ((signsOf c (bounded (many.tmod 40))).map sgn) = .string X := ⟨_, rfl⟩
        have hX := hide hX
        have hb4' : Below w.heap.size w w4 := hb3.trans (hb4.mono hb3.size)
        refine (cube_Text _ _ _ c _ _ (by have := hn.out; omega) (hs.below hb4') hr4).mono ?_
        rintro e w5 ⟨rfl, hb5⟩
        rw [hX.out]
        have hb5' : Below w.heap.size w w5 := hb4'.trans (hb5.mono hb4'.size)
        have hb35 : Below w3.heap.size w3 w5 := hb4.trans (hb5.mono hb4.size)
        clear hr4 hrc hb4 hb5 hb4' hb3
        go_wp2_with fail
        refine (ref_Text _ _ _ c _ _ (by have := hn.out; omega) (hr.below hb5' (Nat.le_refl _))).mono ?_
        rintro e w6 ⟨rfl, rfl⟩
        rw [hX.out]
        go_wp2_with fail
        refine (cube_Text _ _ _ (litsOf (bs s) 0) _ _ hn1.out (hs.below hb5') (hr1'.below hb35 (Nat.le_refl _))).mono ?_
        rintro e w7 ⟨rfl, hb7⟩
        rw [text_back s hok.out]
        have hb7' : Below w.heap.size w w7 := hb5'.trans (hb7.mono hb5'.size)
        clear hb7 hr1' hb35
        go_wp2_with fail
        refine (lives _ (hs.below hb7')).mono ?_
        rintro e w8 ⟨rfl, hb8⟩
        go_wp2
        go_ret
        exact ⟨rfl, hb7'.trans (hb8.mono hb7'.size)⟩
    · have g3 : True → decide (300 < s.size) = true := fun _ => by rw [decide_eq_true_iff]; omega
      have g4 : True → decide ((300 : Int) < s.size) = true := fun _ => by rw [decide_eq_true_iff]; omega
      have g5 : True → decide (s.size < 2000) = false := fun _ => by rw [decide_eq_false_iff_not]; omega
      have g6 : True → decide ((s.size : Int) < 2000) = false := fun _ => by rw [decide_eq_false_iff_not]; omega
      clear h3 h4
      rcases hmany with h5 | ⟨h5, h6⟩ | ⟨h5, h6⟩
      · have m1 : True → decide (40 < many) = false := fun _ => by rw [decide_eq_false_iff_not]; omega
        clear h5
        go_enter Tryd.func4, Tryd.ntmps4
        go_wp2_with (go_at_call 24; refine (cube_Read s _ hN.out hs).mono ?_; intro e w1 hp; obtain ⟨A1, n1, c1, rfl, hn1, hr1, hb1⟩ := read_ok hok.out hp; clear hp)
        refine (ref_Read s _ hN.out).mono ?_
        intro e w2 hp
        obtain ⟨A2, n2, c2, rfl, hn2, hr2, hb2⟩ := read_ok hok.out hp
        clear hp
        go_wp2_with fail
        refine (ints_one _ _ _ _ _ _ _ _ (by have := hN.out; omega) (hr1.below hb2 (Nat.le_refl _)) hr2).mono ?_
        rintro e w3 ⟨rfl, hd3⟩
        have hr1' : Rd w3 A1 n1 (ivs (litsOf (bs s) 0)) := (hr1.below hb2 (Nat.le_refl _)).below (hd3.below _) (Nat.le_refl _)
        have hn1 := hide (show n1 ≤ 1000000 by have := hN.out; omega)
        have hb3 : Below w.heap.size w w3 := (hb1.trans (hb2.mono hb1.size)).trans (hd3.below _)
        have hrc : Rd (w3.alloc (.cells #[] 3)) A n (ivs c) := hr.below (hb3.alloc hb3.size _) (Nat.le_refl _)
        clear hb1 hb2 hd3 hr1 hr2
        go_wp2_with (at_builtin; refine wpList_wanted (by rfl) ?_; refine wpList_append_rd rfl _ _ _ rfl Tryd.underlying22 info_int rfl rfl rfl (World.ownsRow_lit w3 #[] 0 (Nat.le_refl _) (by unfold maxLen; omega) rfl) ((Below.refl w3.heap.size w3).alloc (Nat.le_refl _) _) (by simp) hrc (by intro u hu; obtain ⟨x, _, rfl⟩ := List.mem_map.1 hu; rfl) (by have := hn.out; unfold maxLen; omega) (by have := hn.out; omega) ?_; intro v4 w4 hown4 hb4; simp only [Nat.zero_add, List.nil_append] at hown4; obtain ⟨A4, c4, rfl, _, _, hr4⟩ := Rd.of_own hown4; clear hown4)
        obtain ⟨X, hX⟩ : ∃ X, str ((signsOf c (bounded many)).map sgn) = .string X := ⟨_, rfl⟩
        have hX := hide hX
        have hb4' : Below w.heap.size w w4 := hb3.trans (hb4.mono hb3.size)
        refine (cube_Text _ _ _ c _ _ (by have := hn.out; omega) (hs.below hb4') hr4).mono ?_
        rintro e w5 ⟨rfl, hb5⟩
        rw [hX.out]
        have hb5' : Below w.heap.size w w5 := hb4'.trans (hb5.mono hb4'.size)
        have hb35 : Below w3.heap.size w3 w5 := hb4.trans (hb5.mono hb4.size)
        clear hr4 hrc hb4 hb5 hb4' hb3
        go_wp2_with fail
        refine (ref_Text _ _ _ c _ _ (by have := hn.out; omega) (hr.below hb5' (Nat.le_refl _))).mono ?_
        rintro e w6 ⟨rfl, rfl⟩
        rw [hX.out]
        go_wp2_with fail
        refine (cube_Text _ _ _ (litsOf (bs s) 0) _ _ hn1.out (hs.below hb5') (hr1'.below hb35 (Nat.le_refl _))).mono ?_
        rintro e w7 ⟨rfl, hb7⟩
        rw [text_back s hok.out]
        have hb7' : Below w.heap.size w w7 := hb5'.trans (hb7.mono hb5'.size)
        clear hb7 hr1' hb35
        go_wp2_with fail
        refine (lives _ (hs.below hb7')).mono ?_
        rintro e w8 ⟨rfl, hb8⟩
        go_wp2
        go_ret
        exact ⟨rfl, hb7'.trans (hb8.mono hb7'.size)⟩
      · have m1 : True → decide (40 < many) = true := fun _ => by rw [decide_eq_true_iff]; omega
        have m2 : True → decide (many < 1900) = false := fun _ => by rw [decide_eq_false_iff_not]; omega
        clear h5 h6
        go_enter Tryd.func4, Tryd.ntmps4
        go_wp2_with (go_at_call 24; refine (cube_Read s _ hN.out hs).mono ?_; intro e w1 hp; obtain ⟨A1, n1, c1, rfl, hn1, hr1, hb1⟩ := read_ok hok.out hp; clear hp)
        refine (ref_Read s _ hN.out).mono ?_
        intro e w2 hp
        obtain ⟨A2, n2, c2, rfl, hn2, hr2, hb2⟩ := read_ok hok.out hp
        clear hp
        go_wp2_with fail
        refine (ints_one _ _ _ _ _ _ _ _ (by have := hN.out; omega) (hr1.below hb2 (Nat.le_refl _)) hr2).mono ?_
        rintro e w3 ⟨rfl, hd3⟩
        have hr1' : Rd w3 A1 n1 (ivs (litsOf (bs s) 0)) := (hr1.below hb2 (Nat.le_refl _)).below (hd3.below _) (Nat.le_refl _)
        have hn1 := hide (show n1 ≤ 1000000 by have := hN.out; omega)
        have hb3 : Below w.heap.size w w3 := (hb1.trans (hb2.mono hb1.size)).trans (hd3.below _)
        have hrc : Rd (w3.alloc (.cells #[] 3)) A n (ivs c) := hr.below (hb3.alloc hb3.size _) (Nat.le_refl _)
        clear hb1 hb2 hd3 hr1 hr2
        go_wp2_with (at_builtin; refine wpList_wanted (by rfl) ?_; refine wpList_append_rd rfl _ _ _ rfl Tryd.underlying22 info_int rfl rfl rfl (World.ownsRow_lit w3 #[] 0 (Nat.le_refl _) (by unfold maxLen; omega) rfl) ((Below.refl w3.heap.size w3).alloc (Nat.le_refl _) _) (by simp) hrc (by intro u hu; obtain ⟨x, _, rfl⟩ := List.mem_map.1 hu; rfl) (by have := hn.out; unfold maxLen; omega) (by have := hn.out; omega) ?_; intro v4 w4 hown4 hb4; simp only [Nat.zero_add, List.nil_append] at hown4; obtain ⟨A4, c4, rfl, _, _, hr4⟩ := Rd.of_own hown4; clear hown4)
        obtain ⟨X, hX⟩ : ∃ X, str ((signsOf c (bounded many)).map sgn) = .string X := ⟨_, rfl⟩
        have hX := hide hX
        have hb4' : Below w.heap.size w w4 := hb3.trans (hb4.mono hb3.size)
        refine (cube_Text _ _ _ c _ _ (by have := hn.out; omega) (hs.below hb4') hr4).mono ?_
        rintro e w5 ⟨rfl, hb5⟩
        rw [hX.out]
        have hb5' : Below w.heap.size w w5 := hb4'.trans (hb5.mono hb4'.size)
        have hb35 : Below w3.heap.size w3 w5 := hb4.trans (hb5.mono hb4.size)
        clear hr4 hrc hb4 hb5 hb4' hb3
        go_wp2_with fail
        refine (ref_Text _ _ _ c _ _ (by have := hn.out; omega) (hr.below hb5' (Nat.le_refl _))).mono ?_
        rintro e w6 ⟨rfl, rfl⟩
        rw [hX.out]
        go_wp2_with fail
        refine (cube_Text _ _ _ (litsOf (bs s) 0) _ _ hn1.out (hs.below hb5') (hr1'.below hb35 (Nat.le_refl _))).mono ?_
        rintro e w7 ⟨rfl, hb7⟩
        rw [text_back s hok.out]
        have hb7' : Below w.heap.size w w7 := hb5'.trans (hb7.mono hb5'.size)
        clear hb7 hr1' hb35
        go_wp2_with fail
        refine (lives _ (hs.below hb7')).mono ?_
        rintro e w8 ⟨rfl, hb8⟩
        go_wp2
        go_ret
        exact ⟨rfl, hb7'.trans (hb8.mono hb7'.size)⟩
      · have m1 : True → decide (40 < many) = true := fun _ => by rw [decide_eq_true_iff]; omega
        have m2 : True → decide (many < 1900) = true := fun _ => by rw [decide_eq_true_iff]; omega
        clear h5 h6
        go_enter Tryd.func4, Tryd.ntmps4
        go_wp2_with (go_at_call 24; refine (cube_Read s _ hN.out hs).mono ?_; intro e w1 hp; obtain ⟨A1, n1, c1, rfl, hn1, hr1, hb1⟩ := read_ok hok.out hp; clear hp)
        refine (ref_Read s _ hN.out).mono ?_
        intro e w2 hp
        obtain ⟨A2, n2, c2, rfl, hn2, hr2, hb2⟩ := read_ok hok.out hp
        clear hp
        go_wp2_with fail
        refine (ints_one _ _ _ _ _ _ _ _ (by have := hN.out; omega) (hr1.below hb2 (Nat.le_refl _)) hr2).mono ?_
        rintro e w3 ⟨rfl, hd3⟩
        have hr1' : Rd w3 A1 n1 (ivs (litsOf (bs s) 0)) := (hr1.below hb2 (Nat.le_refl _)).below (hd3.below _) (Nat.le_refl _)
        have hn1 := hide (show n1 ≤ 1000000 by have := hN.out; omega)
        have hb3 : Below w.heap.size w w3 := (hb1.trans (hb2.mono hb1.size)).trans (hd3.below _)
        have hrc : Rd (w3.alloc (.cells #[] 3)) A n (ivs c) := hr.below (hb3.alloc hb3.size _) (Nat.le_refl _)
        clear hb1 hb2 hd3 hr1 hr2
        go_wp2_with (at_builtin; refine wpList_wanted (by rfl) ?_; refine wpList_append_rd rfl _ _ _ rfl Tryd.underlying22 info_int rfl rfl rfl (World.ownsRow_lit w3 #[] 0 (Nat.le_refl _) (by unfold maxLen; omega) rfl) ((Below.refl w3.heap.size w3).alloc (Nat.le_refl _) _) (by simp) hrc (by intro u hu; obtain ⟨x, _, rfl⟩ := List.mem_map.1 hu; rfl) (by have := hn.out; unfold maxLen; omega) (by have := hn.out; omega) ?_; intro v4 w4 hown4 hb4; simp only [Nat.zero_add, List.nil_append] at hown4; obtain ⟨A4, c4, rfl, _, _, hr4⟩ := Rd.of_own hown4; clear hown4)
        obtain ⟨X, hX⟩ : ∃ X, str ((signsOf c (bounded (many.tmod 40))).map sgn) = .string X := ⟨_, rfl⟩
        have hX := hide hX
        have hb4' : Below w.heap.size w w4 := hb3.trans (hb4.mono hb3.size)
        refine (cube_Text _ _ _ c _ _ (by have := hn.out; omega) (hs.below hb4') hr4).mono ?_
        rintro e w5 ⟨rfl, hb5⟩
        rw [hX.out]
        have hb5' : Below w.heap.size w w5 := hb4'.trans (hb5.mono hb4'.size)
        have hb35 : Below w3.heap.size w3 w5 := hb4.trans (hb5.mono hb4.size)
        clear hr4 hrc hb4 hb5 hb4' hb3
        go_wp2_with fail
        refine (ref_Text _ _ _ c _ _ (by have := hn.out; omega) (hr.below hb5' (Nat.le_refl _))).mono ?_
        rintro e w6 ⟨rfl, rfl⟩
        rw [hX.out]
        go_wp2_with fail
        refine (cube_Text _ _ _ (litsOf (bs s) 0) _ _ hn1.out (hs.below hb5') (hr1'.below hb35 (Nat.le_refl _))).mono ?_
        rintro e w7 ⟨rfl, hb7⟩
        rw [text_back s hok.out]
        have hb7' : Below w.heap.size w w7 := hb5'.trans (hb7.mono hb5'.size)
        clear hb7 hr1' hb35
        go_wp2_with fail
        refine (lives _ (hs.below hb7')).mono ?_
        rintro e w8 ⟨rfl, hb8⟩
        go_wp2
        go_ret
        exact ⟨rfl, hb7'.trans (hb8.mono hb7'.size)⟩
end Go.Proofs.YtcjoohaagdihlaaDoor.CubeText
