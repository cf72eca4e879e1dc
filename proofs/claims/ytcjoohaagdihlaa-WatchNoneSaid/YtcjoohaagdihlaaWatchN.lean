/- Nil stores and trails tell nothing: the walk of WatchNone. -/
import Derived.Test.YtcjoohaagdihlaaLives25
namespace Go.Proofs.Ytcjoohaagdihlaa.Watch
open Go.RowKit Go.Lt Go.Proofs.Ytcjoohaagdihlaa.Lit Go.Proofs.Ytcjoohaagdihlaa.Sorted Go.Proofs.Ytcjoohaagdihlaa.Learn Go.Instr
open Go.Proofs.Ytcjoohaagdihlaa.Kept (Sl Sl.val)
set_option linter.unusedVariables false
set_option linter.unusedSimpArgs false

set_option maxRecDepth 8000 in
theorem run_nilS (t : Option Addr) (k : Int) (W : World) : Calls Try.prog 61 #[.pointer none, .pointer t, .int .i64 k] W fun e w' => e = .returned (.tuple #[.int .i64 0, .int .i64 0, .int .i64 (-1)]) ∧ W = w' := by
  go_enter Try.func61, Try.ntmps61
  go_wp2
  go_ret3
  exact ⟨rfl, rfl⟩
set_option maxRecDepth 8000 in
theorem run_nilT (p : Addr) (k : Int) (W : World) : Calls Try.prog 61 #[.pointer (some p), .pointer none, .int .i64 k] W fun e w' => e = .returned (.tuple #[.int .i64 0, .int .i64 0, .int .i64 (-1)]) ∧ W = w' := by
  go_enter Try.func61, Try.ntmps61
  go_wp2
  go_ret3
  exact ⟨rfl, rfl⟩
theorem drop_nil (k : Int) (W : World) : Calls Try.prog 65 #[.pointer none, .int .i64 k] W fun e w' => e = .returned (.bool false) ∧ W = w' := by
  go_enter Try.func65, Try.ntmps65
  go_wp2
  go_ret
  exact ⟨rfl, rfl⟩
theorem clause_nil (k : Int) (W : World) : Calls Try.prog 67 #[.pointer none, .int .i64 k] W fun e w' => e = .returned (.slice none 0 0) ∧ W = w' := by
  go_enter Try.func67, Try.ntmps67
  go_wp2
  go_ret
  exact ⟨rfl, rfl⟩
theorem list_nil (W : World) : Calls Try.prog 69 #[.pointer none] W fun e w' => e = .returned (.slice none 0 0) ∧ W = w' := by
  go_enter Try.func69, Try.ntmps69
  go_wp2
  go_ret
  exact ⟨rfl, rfl⟩
theorem len_nil (W : World) : Calls Try.prog 71 #[.pointer none] W fun e w' => e = .returned (.int .i64 0) ∧ W = w' := by
  go_enter Try.func71, Try.ntmps71
  go_wp2
  go_ret
  exact ⟨rfl, rfl⟩
set_option maxRecDepth 8000 in
theorem add_nil (A : Option Addr) (n c : Nat) (l : List Int) (W : World) (hn : n ≤ 17592186044416) (hr : Rd W A n (ivs l)) :
    Calls Try.prog 57 #[.pointer none, .slice A n c] W fun e w' => e = .returned (.int .i64 (-1)) ∧ Below W.heap.size W w' := by
  have HN := hide (clause_Norm A n c l W hn hr)
  clear hn hr
  go_enter Try.func57, Try.ntmps57
  go_wp2_with fail
  refine HN.out.mono ?_
  rintro e w1 ⟨hb1, hcase⟩
  replace hb1 := hide hb1
  obtain ⟨A2, n2, c2, b2, rfl⟩ : ∃ A2 n2 c2 b2, e = .returned (.tuple #[.slice A2 n2 c2, .bool b2]) := by
    rcases hcase with ⟨_, rfl⟩ | ⟨_, A1, c1, rfl, _⟩ <;> exact ⟨_, _, _, _, rfl⟩
  clear hcase HN
  go_wp2
  refine wp_region_slots [13, 14, 15, 16, 17, 18, 19, 20, 21, 22, 23, 24, 25, 26, 27, 28, 29, 30, 31, 32, 33, 34, 35, 36, 37] (fun D g wz => g 0 = .pointer none ∧ Dr w1 wz ∧ (D 0 → g 13 = .pointer none) ∧ (D 1 → g 14 = .bool true) ∧ (D 2 → g 15 = .bool true) ∧ (D 3 → g 16 = undef) ∧ (D 4 → g 17 = undef) ∧ (D 5 → g 18 = .bool true) ∧ (D 6 → g 19 = .bool true) ∧ (D 7 → g 20 = undef) ∧ (D 8 → g 21 = undef) ∧ (D 9 → g 22 = undef) ∧ (D 10 → g 23 = undef) ∧ (D 11 → g 24 = undef) ∧ (D 12 → g 25 = undef) ∧ (D 13 → g 26 = undef) ∧ (D 14 → g 27 = undef) ∧ (D 15 → g 28 = undef) ∧ (D 16 → g 29 = undef) ∧ (D 17 → g 30 = undef) ∧ (D 18 → g 31 = undef) ∧ (D 19 → g 32 = undef) ∧ (D 20 → g 33 = undef) ∧ (D 21 → g 34 = undef) ∧ (D 22 → g 35 = undef) ∧ (D 23 → g 36 = undef) ∧ (D 24 → g 37 = .bool true)) (by kernel_rfl) (by kernel_rfl) 87 rfl (by kernel_rfl) ?h0 ?hstep ?hdone
  case h0 => exact ⟨rfl, (Dr.refl w1).drew, nt0, nt0, nt0, nt0, nt0, nt0, nt0, nt0, nt0, nt0, nt0, nt0, nt0, nt0, nt0, nt0, nt0, nt0, nt0, nt0, nt0, nt0, nt0, nt0, nt0⟩
  case hstep =>
    intro D g wz i hi' hn hd' hI2
    obtain ⟨r0, hbz, f0, f1, f2, f3, f4, f5, f6, f7, f8, f9, f10, f11, f12, f13, f14, f15, f16, f17, f18, f19, f20, f21, f22, f23, f24⟩ := hI2
    have hi' : i < 25 := hi'
    rcases (show i = 0 ∨ i = 1 ∨ i = 2 ∨ i = 3 ∨ i = 4 ∨ i = 5 ∨ i = 6 ∨ i = 7 ∨ i = 8 ∨ i = 9 ∨ i = 10 ∨ i = 11 ∨ i = 12 ∨ i = 13 ∨ i = 14 ∨ i = 15 ∨ i = 16 ∨ i = 17 ∨ i = 18 ∨ i = 19 ∨ i = 20 ∨ i = 21 ∨ i = 22 ∨ i = 23 ∨ i = 24 by omega) with rfl | rfl | rfl | rfl | rfl | rfl | rfl | rfl | rfl | rfl | rfl | rfl | rfl | rfl | rfl | rfl | rfl | rfl | rfl | rfl | rfl | rfl | rfl | rfl | rfl
    · -- 0
      refine slot_step rfl rfl (fun az hs K hK => ?_)
      have hK : Shut _ := hK
      have e0 := hs.get 0
      rw [r0] at e0
      go_simp
      exact hK.out _ _ ⟨r0, hbz, fun _ => rfl, kp f1, kp f2, kp f3, kp f4, kp f5, kp f6, kp f7, kp f8, kp f9, kp f10, kp f11, kp f12, kp f13, kp f14, kp f15, kp f16, kp f17, kp f18, kp f19, kp f20, kp f21, kp f22, kp f23, kp f24⟩
    · -- 1
      have d0 := f0 (hd' 0 (by kernel_rfl))
      refine slot_step rfl rfl (fun az hs K hK => ?_)
      have hK : Shut _ := hK
      have e13 := hs.get 13
      rw [d0] at e13
      go_simp
      exact hK.out _ _ ⟨r0, hbz, kp f0, fun _ => rfl, kp f2, kp f3, kp f4, kp f5, kp f6, kp f7, kp f8, kp f9, kp f10, kp f11, kp f12, kp f13, kp f14, kp f15, kp f16, kp f17, kp f18, kp f19, kp f20, kp f21, kp f22, kp f23, kp f24⟩
    · -- 2
      have d1 := f1 (hd' 1 (by kernel_rfl))
      refine slot_step rfl rfl (fun az hs K hK => ?_)
      have hK : Shut _ := hK
      have e14 := hs.get 14
      rw [d1] at e14
      go_simp
      exact hK.out _ _ ⟨r0, hbz, kp f0, kp f1, fun _ => rfl, kp f3, kp f4, kp f5, kp f6, kp f7, kp f8, kp f9, kp f10, kp f11, kp f12, kp f13, kp f14, kp f15, kp f16, kp f17, kp f18, kp f19, kp f20, kp f21, kp f22, kp f23, kp f24⟩
    · -- 3
      have d2 := f2 (hd' 2 (by kernel_rfl))
      exact slot_step_no (j := 2) (d := 15) rfl rfl rfl (by decide) (d2) ⟨r0, hbz, kp f0, kp f1, kp f2, fun _ => rfl, kp f4, kp f5, kp f6, kp f7, kp f8, kp f9, kp f10, kp f11, kp f12, kp f13, kp f14, kp f15, kp f16, kp f17, kp f18, kp f19, kp f20, kp f21, kp f22, kp f23, kp f24⟩
    · -- 4
      have d2 := f2 (hd' 2 (by kernel_rfl))
      exact slot_step_no (j := 2) (d := 15) rfl rfl rfl (by decide) (d2) ⟨r0, hbz, kp f0, kp f1, kp f2, kp f3, fun _ => rfl, kp f5, kp f6, kp f7, kp f8, kp f9, kp f10, kp f11, kp f12, kp f13, kp f14, kp f15, kp f16, kp f17, kp f18, kp f19, kp f20, kp f21, kp f22, kp f23, kp f24⟩
    · -- 5
      have d2 := f2 (hd' 2 (by kernel_rfl))
      refine slot_step rfl rfl (fun az hs K hK => ?_)
      have hK : Shut _ := hK
      have e15 := hs.get 15
      rw [d2] at e15
      go_simp
      exact hK.out _ _ ⟨r0, hbz, kp f0, kp f1, kp f2, kp f3, kp f4, fun _ => rfl, kp f6, kp f7, kp f8, kp f9, kp f10, kp f11, kp f12, kp f13, kp f14, kp f15, kp f16, kp f17, kp f18, kp f19, kp f20, kp f21, kp f22, kp f23, kp f24⟩
    · -- 6
      have d5 := f5 (hd' 5 (by kernel_rfl))
      refine slot_step rfl rfl (fun az hs K hK => ?_)
      have hK : Shut _ := hK
      have e18 := hs.get 18
      rw [d5] at e18
      go_simp
      exact hK.out _ _ ⟨r0, hbz, kp f0, kp f1, kp f2, kp f3, kp f4, kp f5, fun _ => rfl, kp f7, kp f8, kp f9, kp f10, kp f11, kp f12, kp f13, kp f14, kp f15, kp f16, kp f17, kp f18, kp f19, kp f20, kp f21, kp f22, kp f23, kp f24⟩
    · -- 7
      have d6 := f6 (hd' 6 (by kernel_rfl))
      exact slot_step_no (j := 6) (d := 19) rfl rfl rfl (by decide) (d6) ⟨r0, hbz, kp f0, kp f1, kp f2, kp f3, kp f4, kp f5, kp f6, fun _ => rfl, kp f8, kp f9, kp f10, kp f11, kp f12, kp f13, kp f14, kp f15, kp f16, kp f17, kp f18, kp f19, kp f20, kp f21, kp f22, kp f23, kp f24⟩
    · -- 8
      have d6 := f6 (hd' 6 (by kernel_rfl))
      exact slot_step_no (j := 6) (d := 19) rfl rfl rfl (by decide) (d6) ⟨r0, hbz, kp f0, kp f1, kp f2, kp f3, kp f4, kp f5, kp f6, kp f7, fun _ => rfl, kp f9, kp f10, kp f11, kp f12, kp f13, kp f14, kp f15, kp f16, kp f17, kp f18, kp f19, kp f20, kp f21, kp f22, kp f23, kp f24⟩
    · -- 9
      have d6 := f6 (hd' 6 (by kernel_rfl))
      exact slot_step_no (j := 6) (d := 19) rfl rfl rfl (by decide) (d6) ⟨r0, hbz, kp f0, kp f1, kp f2, kp f3, kp f4, kp f5, kp f6, kp f7, kp f8, fun _ => rfl, kp f10, kp f11, kp f12, kp f13, kp f14, kp f15, kp f16, kp f17, kp f18, kp f19, kp f20, kp f21, kp f22, kp f23, kp f24⟩
    · -- 10
      have d6 := f6 (hd' 6 (by kernel_rfl))
      exact slot_step_no (j := 6) (d := 19) rfl rfl rfl (by decide) (d6) ⟨r0, hbz, kp f0, kp f1, kp f2, kp f3, kp f4, kp f5, kp f6, kp f7, kp f8, kp f9, fun _ => rfl, kp f11, kp f12, kp f13, kp f14, kp f15, kp f16, kp f17, kp f18, kp f19, kp f20, kp f21, kp f22, kp f23, kp f24⟩
    · -- 11
      have d10 := f10 (hd' 10 (by kernel_rfl))
      exact slot_step_nou (j := 10) (d := 23) rfl rfl rfl (by decide) (d10) ⟨r0, hbz, kp f0, kp f1, kp f2, kp f3, kp f4, kp f5, kp f6, kp f7, kp f8, kp f9, kp f10, fun _ => rfl, kp f12, kp f13, kp f14, kp f15, kp f16, kp f17, kp f18, kp f19, kp f20, kp f21, kp f22, kp f23, kp f24⟩
    · -- 12
      have d10 := f10 (hd' 10 (by kernel_rfl))
      exact slot_step_nou (j := 10) (d := 23) rfl rfl rfl (by decide) (d10) ⟨r0, hbz, kp f0, kp f1, kp f2, kp f3, kp f4, kp f5, kp f6, kp f7, kp f8, kp f9, kp f10, kp f11, fun _ => rfl, kp f13, kp f14, kp f15, kp f16, kp f17, kp f18, kp f19, kp f20, kp f21, kp f22, kp f23, kp f24⟩
    · -- 13
      have d10 := f10 (hd' 10 (by kernel_rfl))
      exact slot_step_nou (j := 10) (d := 23) rfl rfl rfl (by decide) (d10) ⟨r0, hbz, kp f0, kp f1, kp f2, kp f3, kp f4, kp f5, kp f6, kp f7, kp f8, kp f9, kp f10, kp f11, kp f12, fun _ => rfl, kp f14, kp f15, kp f16, kp f17, kp f18, kp f19, kp f20, kp f21, kp f22, kp f23, kp f24⟩
    · -- 14
      have d10 := f10 (hd' 10 (by kernel_rfl))
      exact slot_step_nou (j := 10) (d := 23) rfl rfl rfl (by decide) (d10) ⟨r0, hbz, kp f0, kp f1, kp f2, kp f3, kp f4, kp f5, kp f6, kp f7, kp f8, kp f9, kp f10, kp f11, kp f12, kp f13, fun _ => rfl, kp f15, kp f16, kp f17, kp f18, kp f19, kp f20, kp f21, kp f22, kp f23, kp f24⟩
    · -- 15
      have d10 := f10 (hd' 10 (by kernel_rfl))
      exact slot_step_nou (j := 10) (d := 23) rfl rfl rfl (by decide) (d10) ⟨r0, hbz, kp f0, kp f1, kp f2, kp f3, kp f4, kp f5, kp f6, kp f7, kp f8, kp f9, kp f10, kp f11, kp f12, kp f13, kp f14, fun _ => rfl, kp f16, kp f17, kp f18, kp f19, kp f20, kp f21, kp f22, kp f23, kp f24⟩
    · -- 16
      have d10 := f10 (hd' 10 (by kernel_rfl))
      exact slot_step_nou (j := 10) (d := 23) rfl rfl rfl (by decide) (d10) ⟨r0, hbz, kp f0, kp f1, kp f2, kp f3, kp f4, kp f5, kp f6, kp f7, kp f8, kp f9, kp f10, kp f11, kp f12, kp f13, kp f14, kp f15, fun _ => rfl, kp f17, kp f18, kp f19, kp f20, kp f21, kp f22, kp f23, kp f24⟩
    · -- 17
      have d10 := f10 (hd' 10 (by kernel_rfl))
      exact slot_step_nou (j := 10) (d := 23) rfl rfl rfl (by decide) (d10) ⟨r0, hbz, kp f0, kp f1, kp f2, kp f3, kp f4, kp f5, kp f6, kp f7, kp f8, kp f9, kp f10, kp f11, kp f12, kp f13, kp f14, kp f15, kp f16, fun _ => rfl, kp f18, kp f19, kp f20, kp f21, kp f22, kp f23, kp f24⟩
    · -- 18
      have d10 := f10 (hd' 10 (by kernel_rfl))
      exact slot_step_nou (j := 10) (d := 23) rfl rfl rfl (by decide) (d10) ⟨r0, hbz, kp f0, kp f1, kp f2, kp f3, kp f4, kp f5, kp f6, kp f7, kp f8, kp f9, kp f10, kp f11, kp f12, kp f13, kp f14, kp f15, kp f16, kp f17, fun _ => rfl, kp f19, kp f20, kp f21, kp f22, kp f23, kp f24⟩
    · -- 19
      have d10 := f10 (hd' 10 (by kernel_rfl))
      exact slot_step_nou (j := 10) (d := 23) rfl rfl rfl (by decide) (d10) ⟨r0, hbz, kp f0, kp f1, kp f2, kp f3, kp f4, kp f5, kp f6, kp f7, kp f8, kp f9, kp f10, kp f11, kp f12, kp f13, kp f14, kp f15, kp f16, kp f17, kp f18, fun _ => rfl, kp f20, kp f21, kp f22, kp f23, kp f24⟩
    · -- 20
      have d10 := f10 (hd' 10 (by kernel_rfl))
      exact slot_step_nou (j := 10) (d := 23) rfl rfl rfl (by decide) (d10) ⟨r0, hbz, kp f0, kp f1, kp f2, kp f3, kp f4, kp f5, kp f6, kp f7, kp f8, kp f9, kp f10, kp f11, kp f12, kp f13, kp f14, kp f15, kp f16, kp f17, kp f18, kp f19, fun _ => rfl, kp f21, kp f22, kp f23, kp f24⟩
    · -- 21
      have d10 := f10 (hd' 10 (by kernel_rfl))
      exact slot_step_nou (j := 10) (d := 23) rfl rfl rfl (by decide) (d10) ⟨r0, hbz, kp f0, kp f1, kp f2, kp f3, kp f4, kp f5, kp f6, kp f7, kp f8, kp f9, kp f10, kp f11, kp f12, kp f13, kp f14, kp f15, kp f16, kp f17, kp f18, kp f19, kp f20, fun _ => rfl, kp f22, kp f23, kp f24⟩
    · -- 22
      have d10 := f10 (hd' 10 (by kernel_rfl))
      exact slot_step_nou (j := 10) (d := 23) rfl rfl rfl (by decide) (d10) ⟨r0, hbz, kp f0, kp f1, kp f2, kp f3, kp f4, kp f5, kp f6, kp f7, kp f8, kp f9, kp f10, kp f11, kp f12, kp f13, kp f14, kp f15, kp f16, kp f17, kp f18, kp f19, kp f20, kp f21, fun _ => rfl, kp f23, kp f24⟩
    · -- 23
      have d6 := f6 (hd' 6 (by kernel_rfl))
      exact slot_step_no (j := 6) (d := 19) rfl rfl rfl (by decide) (d6) ⟨r0, hbz, kp f0, kp f1, kp f2, kp f3, kp f4, kp f5, kp f6, kp f7, kp f8, kp f9, kp f10, kp f11, kp f12, kp f13, kp f14, kp f15, kp f16, kp f17, kp f18, kp f19, kp f20, kp f21, kp f22, fun _ => rfl, kp f24⟩
    · -- 24
      have d6 := f6 (hd' 6 (by kernel_rfl))
      refine slot_step rfl rfl (fun az hs K hK => ?_)
      have hK : Shut _ := hK
      have e19 := hs.get 19
      rw [d6] at e19
      go_simp
      exact hK.out _ _ ⟨r0, hbz, kp f0, kp f1, kp f2, kp f3, kp f4, kp f5, kp f6, kp f7, kp f8, kp f9, kp f10, kp f11, kp f12, kp f13, kp f14, kp f15, kp f16, kp f17, kp f18, kp f19, kp f20, kp f21, kp f22, kp f23, fun _ => rfl⟩
  case hdone =>
    rintro D g wz hD ⟨r0, hbz, f0, f1, f2, f3, f4, f5, f6, f7, f8, f9, f10, f11, f12, f13, f14, f15, f16, f17, f18, f19, f20, f21, f22, f23, f24⟩
    simp only [setAll, List.foldl_cons, List.foldl_nil, List.setIfInBounds_toArray, List.set_cons_succ, List.set_cons_zero]
    have e37 := f24 (hD 24)
    rw [e37]
    clear f0 f1 f2 f3 f4 f5 f6 f7 f8 f9 f10 f11 f12 f13 f14 f15 f16 f17 f18 f19 f20 f21 f22 f23 f24 hD r0 e37
    have hbF := hide (hb1.out.trans (hbz.below _))
    clear hbz
    go_wp2
    go_ret
    exact ⟨rfl, hbF.out⟩
set_option maxRecDepth 8000 in
theorem law_WatchNone (id : Int) (A : Option Addr) (n c : Nat) (l : List Int) (w : World) (hn : n ≤ 17592186044416) (hr : Rd w A n (ivs l)) :
    Calls Try.prog 12 #[.int .i64 id, .slice A n c] w fun e w' => e = .returned (.bool true) ∧ Below w.heap.size w w' := by
  have HT : ∀ w : World, Hid (Calls Try.prog 56 #[.int .i64 2] w fun e w' => ∃ p, e = .returned (.pointer (some p)) ∧ Below w.heap.size w w') := fun w => hide ((trail_New 2 (by decide) w).mono (by rintro e w' ⟨p, gv, gm, rfl, _, hb⟩; exact ⟨_, rfl, hb⟩))
  have HW : ∀ w : World, Hid (Calls Try.prog 55 #[.int .i64 2] w fun e w' => ∃ p, e = .returned (.pointer (some p)) ∧ Below w.heap.size w w') := fun w => hide ((watch_New 2 (by decide) w).mono (by rintro e w' ⟨p, mA, mN, mS, mB, rfl, _, hb⟩; exact ⟨_, rfl, hb⟩))
  replace hn := hide hn
  replace hr := hide hr
  go_enter Try.func12, Try.ntmps12
  go_wp2_with fail
  refine (HT w).out.mono ?_
  rintro e w1 ⟨pt, rfl, hb1⟩
  replace hb1 := hide hb1
  go_wp2_with (go_at_call 61; refine (run_nilS _ _ _).mono ?_; rintro e w2 ⟨rfl, rfl⟩)
  refine (HW w1).out.mono ?_
  rintro e w2 ⟨ps, rfl, hb2⟩
  have hb12 := hb1.out.trans (hb2.mono hb1.out.size)
  have hr2 := hide (hr.out.below hb12 (Nat.le_refl _))
  replace hb12 := hide hb12
  clear hb1 hb2 HT HW hr
  go_wp2_with (go_at_call 61; refine (run_nilT _ _ _).mono ?_; rintro e w3 ⟨rfl, rfl⟩)
  refine (add_nil A n c l _ hn.out hr2.out).mono ?_
  rintro e w3 ⟨rfl, hb3⟩
  replace hb3 := hide (hb12.out.trans (hb3.mono hb12.out.size))
  clear hr2 hn hb12
  go_wp2_with (first | (go_at_call 65; refine (drop_nil _ _).mono ?_; rintro e w4 ⟨rfl, rfl⟩) | (go_at_call 67; refine (clause_nil _ _).mono ?_; rintro e w4 ⟨rfl, rfl⟩) | (go_at_call 69; refine (list_nil _).mono ?_; rintro e w4 ⟨rfl, rfl⟩) | (go_at_call 71; refine (len_nil _).mono ?_; rintro e w4 ⟨rfl, rfl⟩) | (go_at_call 54; refine (lives25 _).mono ?_; rintro e w5 ⟨rfl, hb5⟩; replace hb5 := hide hb5))
  go_ret
  exact ⟨rfl, hb3.out.trans (hb5.out.mono hb3.out.size)⟩
end Go.Proofs.Ytcjoohaagdihlaa.Watch
