/- Texts behind a row, one behind the other: Sort2. -/
import Derived.Test.YtcjoohaagdihlaaWS11
section
/- slices.SortStableFunc of two numbers that stand the wrong way. -/
namespace Go.Proofs.Ytcjoohaagdihlaa.Watch
open Go.RowKit Go.Lt Go.Proofs.Ytcjoohaagdihlaa.Lit Go.Proofs.Ytcjoohaagdihlaa.Sorted Go.Proofs.Ytcjoohaagdihlaa.Learn Go.Instr
set_option linter.unusedVariables false
set_option linter.unusedSimpArgs false

/-- a closure's answer, that leaves all as it was -/
def CmpIs (d : Int) (W : World) (e : Ending) (w' : World) : Prop := e = .returned (.int .i64 d) ∧ Below W.heap.size W w'
set_option maxRecDepth 8000 in
set_option maxHeartbeats 4000000 in
theorem sort2_ins (gc cap : Nat) (x0 x1 d : Int) (rest : List Value) (cb : Value) (W : World) (hb : Blk W gc 3 (.int .i64 x0 :: .int .i64 x1 :: rest).toArray) (hd : d < 0)
    (hc : ∀ W', Below W.heap.size W W' → Calls Try.prog 147 #[.int .i64 x1, .int .i64 x0, cb] W' (CmpIs d W')) :
    Calls Try.prog 169 #[.slice (some ⟨gc, 0, none⟩) 2 cap, .int .i64 0, .int .i64 2, .func (.func 147) #[] #[cb]] W fun e w' => (∃ v, e = .returned v) ∧ Blk w' gc 3 (.int .i64 x1 :: .int .i64 x0 :: rest).toArray ∧ Fr (fun q => q = gc) W w' := by
  have dd : decide (d < 0) = true := decide_eq_true hd
  replace hc := hide hc
  replace hb := hide hb
  clear hd
  go_enter Try.func169, Try.ntmps169
  go_wp2
  go_loopw [8] (fun i wr => (i = .int .i64 1 ∧ wr = W) ∨ (i = .int .i64 2 ∧ Hid (Blk wr gc 3 (.int .i64 x1 :: .int .i64 x0 :: rest).toArray) ∧ Hid (Fr (fun q => q = gc) W wr))) (fun i _ => 2 - (intOf i).toNat)
  case atStart => exact .inl ⟨rfl, rfl⟩
  case round =>
    rcases hrel with ⟨rfl, hW⟩ | ⟨rfl, hb2, hf2⟩
    · subst hW
      go_wp2
      go_loopw [9] (fun j wr2 => (j = .int .i64 1 ∧ wr2 = wr) ∨ (j = .int .i64 0 ∧ Hid (Blk wr2 gc 3 (.int .i64 x1 :: .int .i64 x0 :: rest).toArray) ∧ Hid (Fr (fun q => q = gc) wr wr2))) (fun j _ => (intOf j).toNat)
      case atStart => exact .inl ⟨rfl, rfl⟩
      case round =>
        rcases hrel with ⟨rfl, hW⟩ | ⟨rfl, hb2, hf2⟩
        · subst hW
          have hlt := hb.out.lt
          have c0 : wr.cell? ⟨gc, 0, none⟩ = some (.int .i64 x0) := blk_list hb.out 0
          have c1 : wr.cell? ⟨gc, 1, none⟩ = some (.int .i64 x1) := blk_list hb.out 1
          go_wp2
          refine wp_region_slots [18, 19, 20, 21, 22, 23, 24, 25, 26, 27, 28, 29, 30, 31, 32, 33, 34] (fun D g wz => g 0 = .slice (some ⟨gc, 0, none⟩) 2 cap ∧ g 1 = .int .i64 0 ∧ g 3 = .func (.func 147) #[] #[cb] ∧ g 9 = .int .i64 1 ∧ Below wr.heap.size wr wz ∧ (D 0 → g 18 = .int .i64 1) ∧ (D 1 → g 19 = .int .i64 0) ∧ (D 2 → g 20 = .bool true) ∧ (D 3 → g 21 = .bool true) ∧ (D 4 → g 22 = .func (.func 147) #[] #[cb]) ∧ (D 5 → g 23 = .slice (some ⟨gc, 0, none⟩) 2 cap) ∧ (D 6 → g 24 = .int .i64 1) ∧ (D 7 → g 25 = .pointer (some ⟨gc, 1, none⟩)) ∧ (D 8 → g 26 = .int .i64 x1) ∧ (D 9 → g 27 = .slice (some ⟨gc, 0, none⟩) 2 cap) ∧ (D 10 → g 28 = .int .i64 1) ∧ (D 11 → g 29 = .int .i64 0) ∧ (D 12 → g 30 = .pointer (some ⟨gc, 0, none⟩)) ∧ (D 13 → g 31 = .int .i64 x0) ∧ (D 14 → g 32 = .int .i64 d) ∧ (D 15 → g 33 = .bool true) ∧ (D 16 → g 34 = .bool true)) (by kernel_rfl) (by kernel_rfl) 53 rfl (by kernel_rfl) ?h0 ?hstep ?hdone
          case h0 => exact ⟨rfl, rfl, rfl, rfl, (Dr.refl wr).drew.below _, nt0, nt0, nt0, nt0, nt0, nt0, nt0, nt0, nt0, nt0, nt0, nt0, nt0, nt0, nt0, nt0, nt0⟩
          case hstep =>
            intro D g wz i hi' hn hd' hI2
            obtain ⟨r0, r1, r3, r9, hbz, f0, f1, f2, f3, f4, f5, f6, f7, f8, f9, f10, f11, f12, f13, f14, f15, f16⟩ := hI2
            have hi' : i < 17 := hi'
            rcases (show i = 0 ∨ i = 1 ∨ i = 2 ∨ i = 3 ∨ i = 4 ∨ i = 5 ∨ i = 6 ∨ i = 7 ∨ i = 8 ∨ i = 9 ∨ i = 10 ∨ i = 11 ∨ i = 12 ∨ i = 13 ∨ i = 14 ∨ i = 15 ∨ i = 16 by omega) with rfl | rfl | rfl | rfl | rfl | rfl | rfl | rfl | rfl | rfl | rfl | rfl | rfl | rfl | rfl | rfl | rfl
            · -- 0
              refine slot_step rfl rfl (fun az hs K hK => ?_)
              have hK : Shut _ := hK
              have e9 := hs.get 9
              rw [r9] at e9
              go_simp
              exact hK.out _ _ ⟨r0, r1, r3, r9, hbz, fun _ => rfl, kp f1, kp f2, kp f3, kp f4, kp f5, kp f6, kp f7, kp f8, kp f9, kp f10, kp f11, kp f12, kp f13, kp f14, kp f15, kp f16⟩
            · -- 1
              refine slot_step rfl rfl (fun az hs K hK => ?_)
              have hK : Shut _ := hK
              have e1 := hs.get 1
              rw [r1] at e1
              go_simp
              exact hK.out _ _ ⟨r0, r1, r3, r9, hbz, kp f0, fun _ => rfl, kp f2, kp f3, kp f4, kp f5, kp f6, kp f7, kp f8, kp f9, kp f10, kp f11, kp f12, kp f13, kp f14, kp f15, kp f16⟩
            · -- 2
              have d0 := f0 (hd' 0 (by kernel_rfl))
              have d1 := f1 (hd' 1 (by kernel_rfl))
              refine slot_step rfl rfl (fun az hs K hK => ?_)
              have hK : Shut _ := hK
              have e18 := hs.get 18
              rw [d0] at e18
              have e19 := hs.get 19
              rw [d1] at e19
              go_simp
              exact hK.out _ _ ⟨r0, r1, r3, r9, hbz, kp f0, kp f1, fun _ => rfl, kp f3, kp f4, kp f5, kp f6, kp f7, kp f8, kp f9, kp f10, kp f11, kp f12, kp f13, kp f14, kp f15, kp f16⟩
            · -- 3
              have d2 := f2 (hd' 2 (by kernel_rfl))
              refine slot_step rfl rfl (fun az hs K hK => ?_)
              have hK : Shut _ := hK
              have e20 := hs.get 20
              rw [d2] at e20
              go_simp
              exact hK.out _ _ ⟨r0, r1, r3, r9, hbz, kp f0, kp f1, kp f2, fun _ => rfl, kp f4, kp f5, kp f6, kp f7, kp f8, kp f9, kp f10, kp f11, kp f12, kp f13, kp f14, kp f15, kp f16⟩
            · -- 4
              have d3 := f3 (hd' 3 (by kernel_rfl))
              refine slot_step_yes (j := 3) (d := 21) rfl rfl rfl (by decide) (d3) (fun az hs K hK => ?_)
              have hK : Shut _ := hK
              have e21 := hs.get 21
              rw [d3] at e21
              have e3 := hs.get 3
              rw [r3] at e3
              go_simp
              exact hK.out _ _ ⟨r0, r1, r3, r9, hbz, kp f0, kp f1, kp f2, kp f3, fun _ => rfl, kp f5, kp f6, kp f7, kp f8, kp f9, kp f10, kp f11, kp f12, kp f13, kp f14, kp f15, kp f16⟩
            · -- 5
              have d3 := f3 (hd' 3 (by kernel_rfl))
              refine slot_step_yes (j := 3) (d := 21) rfl rfl rfl (by decide) (d3) (fun az hs K hK => ?_)
              have hK : Shut _ := hK
              have e21 := hs.get 21
              rw [d3] at e21
              have e0 := hs.get 0
              rw [r0] at e0
              go_simp
              exact hK.out _ _ ⟨r0, r1, r3, r9, hbz, kp f0, kp f1, kp f2, kp f3, kp f4, fun _ => rfl, kp f6, kp f7, kp f8, kp f9, kp f10, kp f11, kp f12, kp f13, kp f14, kp f15, kp f16⟩
            · -- 6
              have d3 := f3 (hd' 3 (by kernel_rfl))
              refine slot_step_yes (j := 3) (d := 21) rfl rfl rfl (by decide) (d3) (fun az hs K hK => ?_)
              have hK : Shut _ := hK
              have e21 := hs.get 21
              rw [d3] at e21
              have e9 := hs.get 9
              rw [r9] at e9
              go_simp
              exact hK.out _ _ ⟨r0, r1, r3, r9, hbz, kp f0, kp f1, kp f2, kp f3, kp f4, kp f5, fun _ => rfl, kp f7, kp f8, kp f9, kp f10, kp f11, kp f12, kp f13, kp f14, kp f15, kp f16⟩
            · -- 7
              have d3 := f3 (hd' 3 (by kernel_rfl))
              have d5 := f5 (hd' 5 (by kernel_rfl))
              have d6 := f6 (hd' 6 (by kernel_rfl))
              refine slot_step_yes (j := 3) (d := 21) rfl rfl rfl (by decide) (d3) (fun az hs K hK => ?_)
              have hK : Shut _ := hK
              have e21 := hs.get 21
              rw [d3] at e21
              have e23 := hs.get 23
              rw [d5] at e23
              have e24 := hs.get 24
              rw [d6] at e24
              go_simp
              exact hK.out _ _ ⟨r0, r1, r3, r9, hbz, kp f0, kp f1, kp f2, kp f3, kp f4, kp f5, kp f6, fun _ => rfl, kp f8, kp f9, kp f10, kp f11, kp f12, kp f13, kp f14, kp f15, kp f16⟩
            · -- 8
              have d3 := f3 (hd' 3 (by kernel_rfl))
              have d7 := f7 (hd' 7 (by kernel_rfl))
              refine slot_step_yes (j := 3) (d := 21) rfl rfl rfl (by decide) (d3) (fun az hs K hK => ?_)
              have hK : Shut _ := hK
              have cz := (hbz.cell (p := ⟨gc, 1, none⟩) hlt).trans c1
              have e21 := hs.get 21
              rw [d3] at e21
              have e25 := hs.get 25
              rw [d7] at e25
              go_simp
              exact hK.out _ _ ⟨r0, r1, r3, r9, hbz, kp f0, kp f1, kp f2, kp f3, kp f4, kp f5, kp f6, kp f7, fun _ => rfl, kp f9, kp f10, kp f11, kp f12, kp f13, kp f14, kp f15, kp f16⟩
            · -- 9
              have d3 := f3 (hd' 3 (by kernel_rfl))
              refine slot_step_yes (j := 3) (d := 21) rfl rfl rfl (by decide) (d3) (fun az hs K hK => ?_)
              have hK : Shut _ := hK
              have e21 := hs.get 21
              rw [d3] at e21
              have e0 := hs.get 0
              rw [r0] at e0
              go_simp
              exact hK.out _ _ ⟨r0, r1, r3, r9, hbz, kp f0, kp f1, kp f2, kp f3, kp f4, kp f5, kp f6, kp f7, kp f8, fun _ => rfl, kp f10, kp f11, kp f12, kp f13, kp f14, kp f15, kp f16⟩
            · -- 10
              have d3 := f3 (hd' 3 (by kernel_rfl))
              refine slot_step_yes (j := 3) (d := 21) rfl rfl rfl (by decide) (d3) (fun az hs K hK => ?_)
              have hK : Shut _ := hK
              have e21 := hs.get 21
              rw [d3] at e21
              have e9 := hs.get 9
              rw [r9] at e9
              go_simp
              exact hK.out _ _ ⟨r0, r1, r3, r9, hbz, kp f0, kp f1, kp f2, kp f3, kp f4, kp f5, kp f6, kp f7, kp f8, kp f9, fun _ => rfl, kp f11, kp f12, kp f13, kp f14, kp f15, kp f16⟩
            · -- 11
              have d3 := f3 (hd' 3 (by kernel_rfl))
              have d10 := f10 (hd' 10 (by kernel_rfl))
              refine slot_step_yes (j := 3) (d := 21) rfl rfl rfl (by decide) (d3) (fun az hs K hK => ?_)
              have hK : Shut _ := hK
              have e21 := hs.get 21
              rw [d3] at e21
              have e28 := hs.get 28
              rw [d10] at e28
              go_simp
              exact hK.out _ _ ⟨r0, r1, r3, r9, hbz, kp f0, kp f1, kp f2, kp f3, kp f4, kp f5, kp f6, kp f7, kp f8, kp f9, kp f10, fun _ => rfl, kp f12, kp f13, kp f14, kp f15, kp f16⟩
            · -- 12
              have d3 := f3 (hd' 3 (by kernel_rfl))
              have d9 := f9 (hd' 9 (by kernel_rfl))
              have d11 := f11 (hd' 11 (by kernel_rfl))
              refine slot_step_yes (j := 3) (d := 21) rfl rfl rfl (by decide) (d3) (fun az hs K hK => ?_)
              have hK : Shut _ := hK
              have e21 := hs.get 21
              rw [d3] at e21
              have e27 := hs.get 27
              rw [d9] at e27
              have e29 := hs.get 29
              rw [d11] at e29
              go_simp
              exact hK.out _ _ ⟨r0, r1, r3, r9, hbz, kp f0, kp f1, kp f2, kp f3, kp f4, kp f5, kp f6, kp f7, kp f8, kp f9, kp f10, kp f11, fun _ => rfl, kp f13, kp f14, kp f15, kp f16⟩
            · -- 13
              have d3 := f3 (hd' 3 (by kernel_rfl))
              have d12 := f12 (hd' 12 (by kernel_rfl))
              refine slot_step_yes (j := 3) (d := 21) rfl rfl rfl (by decide) (d3) (fun az hs K hK => ?_)
              have hK : Shut _ := hK
              have cz := (hbz.cell (p := ⟨gc, 0, none⟩) hlt).trans c0
              have e21 := hs.get 21
              rw [d3] at e21
              have e30 := hs.get 30
              rw [d12] at e30
              go_simp
              exact hK.out _ _ ⟨r0, r1, r3, r9, hbz, kp f0, kp f1, kp f2, kp f3, kp f4, kp f5, kp f6, kp f7, kp f8, kp f9, kp f10, kp f11, kp f12, fun _ => rfl, kp f14, kp f15, kp f16⟩
            · -- 14
              have d3 := f3 (hd' 3 (by kernel_rfl))
              have d4 := f4 (hd' 4 (by kernel_rfl))
              have d8 := f8 (hd' 8 (by kernel_rfl))
              have d13 := f13 (hd' 13 (by kernel_rfl))
              refine slot_step_yes (j := 3) (d := 21) rfl rfl rfl (by decide) (d3) (fun az hs K hK => ?_)
              have hK : Shut _ := hK
              have e21 := hs.get 21
              rw [d3] at e21
              have e22 := hs.get 22
              rw [d4] at e22
              have e26 := hs.get 26
              rw [d8] at e26
              have e31 := hs.get 31
              rw [d13] at e31
              go_wp2_with (go_at_call 147; refine (hc.out wz hbz).mono ?_; rintro e wy ⟨rfl, hbw⟩)
              exact ⟨r0, r1, r3, r9, hbz.trans (hbw.mono hbz.size), kp f0, kp f1, kp f2, kp f3, kp f4, kp f5, kp f6, kp f7, kp f8, kp f9, kp f10, kp f11, kp f12, kp f13, fun _ => rfl, kp f15, kp f16⟩
            · -- 15
              have d3 := f3 (hd' 3 (by kernel_rfl))
              have d14 := f14 (hd' 14 (by kernel_rfl))
              refine slot_step_yes (j := 3) (d := 21) rfl rfl rfl (by decide) (d3) (fun az hs K hK => ?_)
              have hK : Shut _ := hK
              have e21 := hs.get 21
              rw [d3] at e21
              have e32 := hs.get 32
              rw [d14] at e32
              go_simp
              exact hK.out _ _ ⟨r0, r1, r3, r9, hbz, kp f0, kp f1, kp f2, kp f3, kp f4, kp f5, kp f6, kp f7, kp f8, kp f9, kp f10, kp f11, kp f12, kp f13, kp f14, fun _ => rfl, kp f16⟩
            · -- 16
              have d3 := f3 (hd' 3 (by kernel_rfl))
              have d15 := f15 (hd' 15 (by kernel_rfl))
              refine slot_step rfl rfl (fun az hs K hK => ?_)
              have hK : Shut _ := hK
              have e21 := hs.get 21
              rw [d3] at e21
              have e33 := hs.get 33
              rw [d15] at e33
              go_simp
              exact hK.out _ _ ⟨r0, r1, r3, r9, hbz, kp f0, kp f1, kp f2, kp f3, kp f4, kp f5, kp f6, kp f7, kp f8, kp f9, kp f10, kp f11, kp f12, kp f13, kp f14, kp f15, fun _ => rfl⟩
          case hdone =>
            rintro D g wz hD ⟨r0, r1, r3, r9, hbz, f0, f1, f2, f3, f4, f5, f6, f7, f8, f9, f10, f11, f12, f13, f14, f15, f16⟩
            simp only [setAll, List.foldl_cons, List.foldl_nil, List.setIfInBounds_toArray, List.set_cons_succ, List.set_cons_zero]
            have e34 := f16 (hD 16)
            rw [e34]
            clear f0 f1 f2 f3 f4 f5 f6 f7 f8 f9 f10 f11 f12 f13 f14 f15 f16 hD r0 r1 r3 r9 e34
            have bz := hb.out.below hbz hlt
            have hfz0 := hide (Fr.of_below (S := fun q => q = gc) hbz)
            obtain ⟨w5, hw5⟩ : ∃ w5, w5 = wz := ⟨_, rfl⟩
            subst hw5
            clear hbz c0 c1
            have c0 : w5.cell? ⟨gc, 0, none⟩ = some (.int .i64 x0) := blk_list bz 0
            have c1 : w5.cell? ⟨gc, 1, none⟩ = some (.int .i64 x1) := blk_list bz 1
            replace bz := hide bz
            go_wp2
            refine wp_region_slots [37, 38, 39, 40, 41, 42, 43, 44, 45, 46, 47, 48, 49, 50, 51, 52] (fun D g wz => g 0 = .slice (some ⟨gc, 0, none⟩) 2 cap ∧ g 9 = .int .i64 1 ∧ Fr (fun q => q = gc) w5 wz ∧ (D 15 → D 9 ∧ D 13) ∧ (D 17 → D 15) ∧ (¬ D 15 → Blk wz gc 3 (.int .i64 x0 :: .int .i64 x1 :: rest).toArray) ∧ (D 15 → ¬ D 17 → Blk wz gc 3 (.int .i64 x0 :: .int .i64 x0 :: rest).toArray) ∧ (D 0 → g 37 = .slice (some ⟨gc, 0, none⟩) 2 cap) ∧ (D 1 → g 38 = .int .i64 1) ∧ (D 2 → g 39 = .slice (some ⟨gc, 0, none⟩) 2 cap) ∧ (D 3 → g 40 = .int .i64 1) ∧ (D 4 → g 41 = .int .i64 0) ∧ (D 5 → g 42 = .slice (some ⟨gc, 0, none⟩) 2 cap) ∧ (D 6 → g 43 = .int .i64 1) ∧ (D 7 → g 44 = .int .i64 0) ∧ (D 8 → g 45 = .pointer (some ⟨gc, 0, none⟩)) ∧ (D 9 → g 46 = .int .i64 x0) ∧ (D 10 → g 47 = .slice (some ⟨gc, 0, none⟩) 2 cap) ∧ (D 11 → g 48 = .int .i64 1) ∧ (D 12 → g 49 = .pointer (some ⟨gc, 1, none⟩)) ∧ (D 13 → g 50 = .int .i64 x1) ∧ (D 14 → g 51 = .pointer (some ⟨gc, 1, none⟩)) ∧ (D 15 → True) ∧ (D 16 → g 52 = .pointer (some ⟨gc, 0, none⟩)) ∧ (D 17 → Blk wz gc 3 (.int .i64 x1 :: .int .i64 x0 :: rest).toArray)) (by kernel_rfl) (by kernel_rfl) 53 rfl (by kernel_rfl) ?h0 ?hstep ?hdone
            case h0 => exact ⟨rfl, rfl, Fr.of_below ((Dr.refl w5).drew.below _), nt0, nt0, (fun _ => bz.out.dr (Dr.refl w5).drew), nt0, nt0, nt0, nt0, nt0, nt0, nt0, nt0, nt0, nt0, nt0, nt0, nt0, nt0, nt0, nt0, nt0, nt0, nt0⟩
            case hstep =>
              intro D g wz i hi' hn hd' hI2
              obtain ⟨r0, r9, hfz, h15, h17, v0, v1, f0, f1, f2, f3, f4, f5, f6, f7, f8, f9, f10, f11, f12, f13, f14, f15, f16, f17⟩ := hI2
              have hi' : i < 18 := hi'
              rcases (show i = 0 ∨ i = 1 ∨ i = 2 ∨ i = 3 ∨ i = 4 ∨ i = 5 ∨ i = 6 ∨ i = 7 ∨ i = 8 ∨ i = 9 ∨ i = 10 ∨ i = 11 ∨ i = 12 ∨ i = 13 ∨ i = 14 ∨ i = 15 ∨ i = 16 ∨ i = 17 by omega) with rfl | rfl | rfl | rfl | rfl | rfl | rfl | rfl | rfl | rfl | rfl | rfl | rfl | rfl | rfl | rfl | rfl | rfl
              · -- 0
                refine slot_step rfl rfl (fun az hs K hK => ?_)
                have hK : Shut _ := hK
                have e0 := hs.get 0
                rw [r0] at e0
                go_simp
                exact hK.out _ _ ⟨r0, r9, hfz, (fun h => h.elim (fun e => absurd e (by decide)) (fun h => ⟨Or.inr (h15 h).1, Or.inr (h15 h).2⟩)), (fun h => h.elim (fun e => absurd e (by decide)) (fun h => Or.inr (h17 h))), (fun h => v0 (fun e => h (Or.inr e))), (fun h h' => v1 (h.resolve_left (by decide)) (fun e => h' (Or.inr e))), fun _ => rfl, kp f1, kp f2, kp f3, kp f4, kp f5, kp f6, kp f7, kp f8, kp f9, kp f10, kp f11, kp f12, kp f13, kp f14, kp f15, kp f16, kp f17⟩
              · -- 1
                refine slot_step rfl rfl (fun az hs K hK => ?_)
                have hK : Shut _ := hK
                have e9 := hs.get 9
                rw [r9] at e9
                go_simp
                exact hK.out _ _ ⟨r0, r9, hfz, (fun h => h.elim (fun e => absurd e (by decide)) (fun h => ⟨Or.inr (h15 h).1, Or.inr (h15 h).2⟩)), (fun h => h.elim (fun e => absurd e (by decide)) (fun h => Or.inr (h17 h))), (fun h => v0 (fun e => h (Or.inr e))), (fun h h' => v1 (h.resolve_left (by decide)) (fun e => h' (Or.inr e))), kp f0, fun _ => rfl, kp f2, kp f3, kp f4, kp f5, kp f6, kp f7, kp f8, kp f9, kp f10, kp f11, kp f12, kp f13, kp f14, kp f15, kp f16, kp f17⟩
              · -- 2
                refine slot_step rfl rfl (fun az hs K hK => ?_)
                have hK : Shut _ := hK
                have e0 := hs.get 0
                rw [r0] at e0
                go_simp
                exact hK.out _ _ ⟨r0, r9, hfz, (fun h => h.elim (fun e => absurd e (by decide)) (fun h => ⟨Or.inr (h15 h).1, Or.inr (h15 h).2⟩)), (fun h => h.elim (fun e => absurd e (by decide)) (fun h => Or.inr (h17 h))), (fun h => v0 (fun e => h (Or.inr e))), (fun h h' => v1 (h.resolve_left (by decide)) (fun e => h' (Or.inr e))), kp f0, kp f1, fun _ => rfl, kp f3, kp f4, kp f5, kp f6, kp f7, kp f8, kp f9, kp f10, kp f11, kp f12, kp f13, kp f14, kp f15, kp f16, kp f17⟩
              · -- 3
                refine slot_step rfl rfl (fun az hs K hK => ?_)
                have hK : Shut _ := hK
                have e9 := hs.get 9
                rw [r9] at e9
                go_simp
                exact hK.out _ _ ⟨r0, r9, hfz, (fun h => h.elim (fun e => absurd e (by decide)) (fun h => ⟨Or.inr (h15 h).1, Or.inr (h15 h).2⟩)), (fun h => h.elim (fun e => absurd e (by decide)) (fun h => Or.inr (h17 h))), (fun h => v0 (fun e => h (Or.inr e))), (fun h h' => v1 (h.resolve_left (by decide)) (fun e => h' (Or.inr e))), kp f0, kp f1, kp f2, fun _ => rfl, kp f4, kp f5, kp f6, kp f7, kp f8, kp f9, kp f10, kp f11, kp f12, kp f13, kp f14, kp f15, kp f16, kp f17⟩
              · -- 4
                have d3 := f3 (hd' 3 (by kernel_rfl))
                refine slot_step rfl rfl (fun az hs K hK => ?_)
                have hK : Shut _ := hK
                have e40 := hs.get 40
                rw [d3] at e40
                go_simp
                exact hK.out _ _ ⟨r0, r9, hfz, (fun h => h.elim (fun e => absurd e (by decide)) (fun h => ⟨Or.inr (h15 h).1, Or.inr (h15 h).2⟩)), (fun h => h.elim (fun e => absurd e (by decide)) (fun h => Or.inr (h17 h))), (fun h => v0 (fun e => h (Or.inr e))), (fun h h' => v1 (h.resolve_left (by decide)) (fun e => h' (Or.inr e))), kp f0, kp f1, kp f2, kp f3, fun _ => rfl, kp f5, kp f6, kp f7, kp f8, kp f9, kp f10, kp f11, kp f12, kp f13, kp f14, kp f15, kp f16, kp f17⟩
              · -- 5
                refine slot_step rfl rfl (fun az hs K hK => ?_)
                have hK : Shut _ := hK
                have e0 := hs.get 0
                rw [r0] at e0
                go_simp
                exact hK.out _ _ ⟨r0, r9, hfz, (fun h => h.elim (fun e => absurd e (by decide)) (fun h => ⟨Or.inr (h15 h).1, Or.inr (h15 h).2⟩)), (fun h => h.elim (fun e => absurd e (by decide)) (fun h => Or.inr (h17 h))), (fun h => v0 (fun e => h (Or.inr e))), (fun h h' => v1 (h.resolve_left (by decide)) (fun e => h' (Or.inr e))), kp f0, kp f1, kp f2, kp f3, kp f4, fun _ => rfl, kp f6, kp f7, kp f8, kp f9, kp f10, kp f11, kp f12, kp f13, kp f14, kp f15, kp f16, kp f17⟩
              · -- 6
                refine slot_step rfl rfl (fun az hs K hK => ?_)
                have hK : Shut _ := hK
                have e9 := hs.get 9
                rw [r9] at e9
                go_simp
                exact hK.out _ _ ⟨r0, r9, hfz, (fun h => h.elim (fun e => absurd e (by decide)) (fun h => ⟨Or.inr (h15 h).1, Or.inr (h15 h).2⟩)), (fun h => h.elim (fun e => absurd e (by decide)) (fun h => Or.inr (h17 h))), (fun h => v0 (fun e => h (Or.inr e))), (fun h h' => v1 (h.resolve_left (by decide)) (fun e => h' (Or.inr e))), kp f0, kp f1, kp f2, kp f3, kp f4, kp f5, fun _ => rfl, kp f7, kp f8, kp f9, kp f10, kp f11, kp f12, kp f13, kp f14, kp f15, kp f16, kp f17⟩
              · -- 7
                have d6 := f6 (hd' 6 (by kernel_rfl))
                refine slot_step rfl rfl (fun az hs K hK => ?_)
                have hK : Shut _ := hK
                have e43 := hs.get 43
                rw [d6] at e43
                go_simp
                exact hK.out _ _ ⟨r0, r9, hfz, (fun h => h.elim (fun e => absurd e (by decide)) (fun h => ⟨Or.inr (h15 h).1, Or.inr (h15 h).2⟩)), (fun h => h.elim (fun e => absurd e (by decide)) (fun h => Or.inr (h17 h))), (fun h => v0 (fun e => h (Or.inr e))), (fun h h' => v1 (h.resolve_left (by decide)) (fun e => h' (Or.inr e))), kp f0, kp f1, kp f2, kp f3, kp f4, kp f5, kp f6, fun _ => rfl, kp f8, kp f9, kp f10, kp f11, kp f12, kp f13, kp f14, kp f15, kp f16, kp f17⟩
              · -- 8
                have d5 := f5 (hd' 5 (by kernel_rfl))
                have d7 := f7 (hd' 7 (by kernel_rfl))
                refine slot_step rfl rfl (fun az hs K hK => ?_)
                have hK : Shut _ := hK
                have e42 := hs.get 42
                rw [d5] at e42
                have e44 := hs.get 44
                rw [d7] at e44
                go_simp
                exact hK.out _ _ ⟨r0, r9, hfz, (fun h => h.elim (fun e => absurd e (by decide)) (fun h => ⟨Or.inr (h15 h).1, Or.inr (h15 h).2⟩)), (fun h => h.elim (fun e => absurd e (by decide)) (fun h => Or.inr (h17 h))), (fun h => v0 (fun e => h (Or.inr e))), (fun h h' => v1 (h.resolve_left (by decide)) (fun e => h' (Or.inr e))), kp f0, kp f1, kp f2, kp f3, kp f4, kp f5, kp f6, kp f7, fun _ => rfl, kp f9, kp f10, kp f11, kp f12, kp f13, kp f14, kp f15, kp f16, kp f17⟩
              · -- 9
                have d8 := f8 (hd' 8 (by kernel_rfl))
                refine slot_step rfl rfl (fun az hs K hK => ?_)
                have hK : Shut _ := hK
                have bo := v0 (fun e => hn (h15 e).1)
                have cz : wz.cell? ⟨gc, 0, none⟩ = some (.int .i64 x0) := blk_list bo 0
                have e45 := hs.get 45
                rw [d8] at e45
                go_simp
                exact hK.out _ _ ⟨r0, r9, hfz, (fun h => h.elim (fun e => absurd e (by decide)) (fun h => ⟨Or.inr (h15 h).1, Or.inr (h15 h).2⟩)), (fun h => h.elim (fun e => absurd e (by decide)) (fun h => Or.inr (h17 h))), (fun h => v0 (fun e => h (Or.inr e))), (fun h h' => v1 (h.resolve_left (by decide)) (fun e => h' (Or.inr e))), kp f0, kp f1, kp f2, kp f3, kp f4, kp f5, kp f6, kp f7, kp f8, fun _ => rfl, kp f10, kp f11, kp f12, kp f13, kp f14, kp f15, kp f16, kp f17⟩
              · -- 10
                refine slot_step rfl rfl (fun az hs K hK => ?_)
                have hK : Shut _ := hK
                have e0 := hs.get 0
                rw [r0] at e0
                go_simp
                exact hK.out _ _ ⟨r0, r9, hfz, (fun h => h.elim (fun e => absurd e (by decide)) (fun h => ⟨Or.inr (h15 h).1, Or.inr (h15 h).2⟩)), (fun h => h.elim (fun e => absurd e (by decide)) (fun h => Or.inr (h17 h))), (fun h => v0 (fun e => h (Or.inr e))), (fun h h' => v1 (h.resolve_left (by decide)) (fun e => h' (Or.inr e))), kp f0, kp f1, kp f2, kp f3, kp f4, kp f5, kp f6, kp f7, kp f8, kp f9, fun _ => rfl, kp f11, kp f12, kp f13, kp f14, kp f15, kp f16, kp f17⟩
              · -- 11
                refine slot_step rfl rfl (fun az hs K hK => ?_)
                have hK : Shut _ := hK
                have e9 := hs.get 9
                rw [r9] at e9
                go_simp
                exact hK.out _ _ ⟨r0, r9, hfz, (fun h => h.elim (fun e => absurd e (by decide)) (fun h => ⟨Or.inr (h15 h).1, Or.inr (h15 h).2⟩)), (fun h => h.elim (fun e => absurd e (by decide)) (fun h => Or.inr (h17 h))), (fun h => v0 (fun e => h (Or.inr e))), (fun h h' => v1 (h.resolve_left (by decide)) (fun e => h' (Or.inr e))), kp f0, kp f1, kp f2, kp f3, kp f4, kp f5, kp f6, kp f7, kp f8, kp f9, kp f10, fun _ => rfl, kp f12, kp f13, kp f14, kp f15, kp f16, kp f17⟩
              · -- 12
                have d10 := f10 (hd' 10 (by kernel_rfl))
                have d11 := f11 (hd' 11 (by kernel_rfl))
                refine slot_step rfl rfl (fun az hs K hK => ?_)
                have hK : Shut _ := hK
                have e47 := hs.get 47
                rw [d10] at e47
                have e48 := hs.get 48
                rw [d11] at e48
                go_simp
                exact hK.out _ _ ⟨r0, r9, hfz, (fun h => h.elim (fun e => absurd e (by decide)) (fun h => ⟨Or.inr (h15 h).1, Or.inr (h15 h).2⟩)), (fun h => h.elim (fun e => absurd e (by decide)) (fun h => Or.inr (h17 h))), (fun h => v0 (fun e => h (Or.inr e))), (fun h h' => v1 (h.resolve_left (by decide)) (fun e => h' (Or.inr e))), kp f0, kp f1, kp f2, kp f3, kp f4, kp f5, kp f6, kp f7, kp f8, kp f9, kp f10, kp f11, fun _ => rfl, kp f13, kp f14, kp f15, kp f16, kp f17⟩
              · -- 13
                have d12 := f12 (hd' 12 (by kernel_rfl))
                refine slot_step rfl rfl (fun az hs K hK => ?_)
                have hK : Shut _ := hK
                have bo := v0 (fun e => hn (h15 e).2)
                have cz : wz.cell? ⟨gc, 1, none⟩ = some (.int .i64 x1) := blk_list bo 1
                have e49 := hs.get 49
                rw [d12] at e49
                go_simp
                exact hK.out _ _ ⟨r0, r9, hfz, (fun h => h.elim (fun e => absurd e (by decide)) (fun h => ⟨Or.inr (h15 h).1, Or.inr (h15 h).2⟩)), (fun h => h.elim (fun e => absurd e (by decide)) (fun h => Or.inr (h17 h))), (fun h => v0 (fun e => h (Or.inr e))), (fun h h' => v1 (h.resolve_left (by decide)) (fun e => h' (Or.inr e))), kp f0, kp f1, kp f2, kp f3, kp f4, kp f5, kp f6, kp f7, kp f8, kp f9, kp f10, kp f11, kp f12, fun _ => rfl, kp f14, kp f15, kp f16, kp f17⟩
              · -- 14
                have d0 := f0 (hd' 0 (by kernel_rfl))
                have d1 := f1 (hd' 1 (by kernel_rfl))
                refine slot_step rfl rfl (fun az hs K hK => ?_)
                have hK : Shut _ := hK
                have e37 := hs.get 37
                rw [d0] at e37
                have e38 := hs.get 38
                rw [d1] at e38
                go_simp
                exact hK.out _ _ ⟨r0, r9, hfz, (fun h => h.elim (fun e => absurd e (by decide)) (fun h => ⟨Or.inr (h15 h).1, Or.inr (h15 h).2⟩)), (fun h => h.elim (fun e => absurd e (by decide)) (fun h => Or.inr (h17 h))), (fun h => v0 (fun e => h (Or.inr e))), (fun h h' => v1 (h.resolve_left (by decide)) (fun e => h' (Or.inr e))), kp f0, kp f1, kp f2, kp f3, kp f4, kp f5, kp f6, kp f7, kp f8, kp f9, kp f10, kp f11, kp f12, kp f13, fun _ => rfl, kp f15, kp f16, kp f17⟩
              · -- 15
                have d14 := f14 (hd' 14 (by kernel_rfl))
                have d9 := f9 (hd' 9 (by kernel_rfl))
                refine slot_step rfl rfl (fun az hs K hK => ?_)
                have hK : Shut _ := hK
                have bo := v0 hn
                have cz : wz.cell? ⟨gc, 1, none⟩ = some (.int .i64 x1) := blk_list bo 1
                have fz := bo.frozen 1
                have bN : Blk (wz.setCell ⟨gc, 1, none⟩ (.int .i64 x0)) gc 3 (.int .i64 x0 :: .int .i64 x0 :: rest).toArray := blk_put bo 1 (.int .i64 x0)
                have e51 := hs.get 51
                rw [d14] at e51
                have e46 := hs.get 46
                rw [d9] at e46
                go_simp
                exact hK.out undef _ ⟨r0, r9, hfz.trans (fr_set (by exact rfl) _), (fun _ => ⟨Or.inr (hd' 9 (by kernel_rfl)), Or.inr (hd' 13 (by kernel_rfl))⟩), (fun h => h.elim (fun e => absurd e (by decide)) (fun h => Or.inr (h17 h))), (fun h => (h (by simp)).elim), (fun _ _ => bN), kp f0, kp f1, kp f2, kp f3, kp f4, kp f5, kp f6, kp f7, kp f8, kp f9, kp f10, kp f11, kp f12, kp f13, kp f14, fun _ => trivial, kp f16, fun h => h.elim (fun e => absurd e (by decide)) (fun h => absurd (h17 h) hn)⟩
              · -- 16
                have d2 := f2 (hd' 2 (by kernel_rfl))
                have d4 := f4 (hd' 4 (by kernel_rfl))
                refine slot_step rfl rfl (fun az hs K hK => ?_)
                have hK : Shut _ := hK
                have e39 := hs.get 39
                rw [d2] at e39
                have e41 := hs.get 41
                rw [d4] at e41
                go_simp
                exact hK.out _ _ ⟨r0, r9, hfz, (fun h => h.elim (fun e => absurd e (by decide)) (fun h => ⟨Or.inr (h15 h).1, Or.inr (h15 h).2⟩)), (fun h => h.elim (fun e => absurd e (by decide)) (fun h => Or.inr (h17 h))), (fun h => v0 (fun e => h (Or.inr e))), (fun h h' => v1 (h.resolve_left (by decide)) (fun e => h' (Or.inr e))), kp f0, kp f1, kp f2, kp f3, kp f4, kp f5, kp f6, kp f7, kp f8, kp f9, kp f10, kp f11, kp f12, kp f13, kp f14, kp f15, fun _ => rfl, kp f17⟩
              · -- 17
                have d16 := f16 (hd' 16 (by kernel_rfl))
                have d13 := f13 (hd' 13 (by kernel_rfl))
                have d15 := f15 (hd' 15 (by kernel_rfl))
                refine slot_step rfl rfl (fun az hs K hK => ?_)
                have hK : Shut _ := hK
                have bo := v1 (hd' 15 (by kernel_rfl)) hn
                have cz : wz.cell? ⟨gc, 0, none⟩ = some (.int .i64 x0) := blk_list bo 0
                have fz := bo.frozen 0
                have bN : Blk (wz.setCell ⟨gc, 0, none⟩ (.int .i64 x1)) gc 3 (.int .i64 x1 :: .int .i64 x0 :: rest).toArray := blk_put bo 0 (.int .i64 x1)
                have e52 := hs.get 52
                rw [d16] at e52
                have e50 := hs.get 50
                rw [d13] at e50
                go_simp
                exact hK.out undef _ ⟨r0, r9, hfz.trans (fr_set (by exact rfl) _), (fun h => h.elim (fun e => absurd e (by decide)) (fun h => ⟨Or.inr (h15 h).1, Or.inr (h15 h).2⟩)), (fun _ => Or.inr (hd' 15 (by kernel_rfl))), (fun h => (h (Or.inr (hd' 15 (by kernel_rfl)))).elim), (fun _ h' => (h' (by simp)).elim), kp f0, kp f1, kp f2, kp f3, kp f4, kp f5, kp f6, kp f7, kp f8, kp f9, kp f10, kp f11, kp f12, kp f13, kp f14, kp f15, kp f16, fun _ => bN⟩
            case hdone =>
              rintro D g wz hD ⟨r0, r9, hfz, h15, h17, v0, v1, f0, f1, f2, f3, f4, f5, f6, f7, f8, f9, f10, f11, f12, f13, f14, f15, f16, f17⟩
              simp only [setAll, List.foldl_cons, List.foldl_nil, List.setIfInBounds_toArray, List.set_cons_succ, List.set_cons_zero]
              have bN := hide (f17 (hD 17))
              have hfN := hide (hfz0.out.trans hfz)
              clear f0 f1 f2 f3 f4 f5 f6 f7 f8 f9 f10 f11 f12 f13 f14 f15 f16 f17 hD r0 r9 h15 h17 v0 v1 hfz
              go_wp2
              go_roundw
              case rel => exact .inr ⟨rfl, bN, hfN⟩
              case measure => simp [intOf]
        · obtain ⟨wB, hwB⟩ : ∃ wB, wB = wr := ⟨_, rfl⟩
          go_wp2
          refine wp_region_slots [18, 19, 20, 21, 22, 23, 24, 25, 26, 27, 28, 29, 30, 31, 32, 33, 34] (fun D g wz => g 0 = .slice (some ⟨gc, 0, none⟩) 2 cap ∧ g 1 = .int .i64 0 ∧ g 3 = .func (.func 147) #[] #[cb] ∧ g 9 = .int .i64 0 ∧ Below wr.heap.size wr wz ∧ (D 0 → g 18 = .int .i64 0) ∧ (D 1 → g 19 = .int .i64 0) ∧ (D 2 → g 20 = .bool false) ∧ (D 3 → g 21 = .bool false) ∧ (D 4 → g 22 = undef) ∧ (D 5 → g 23 = undef) ∧ (D 6 → g 24 = undef) ∧ (D 7 → g 25 = undef) ∧ (D 8 → g 26 = undef) ∧ (D 9 → g 27 = undef) ∧ (D 10 → g 28 = undef) ∧ (D 11 → g 29 = undef) ∧ (D 12 → g 30 = undef) ∧ (D 13 → g 31 = undef) ∧ (D 14 → g 32 = undef) ∧ (D 15 → g 33 = undef) ∧ (D 16 → g 34 = .bool false)) (by kernel_rfl) (by kernel_rfl) 53 rfl (by kernel_rfl) ?h0 ?hstep ?hdone
          case h0 => exact ⟨rfl, rfl, rfl, rfl, (Dr.refl wr).drew.below _, nt0, nt0, nt0, nt0, nt0, nt0, nt0, nt0, nt0, nt0, nt0, nt0, nt0, nt0, nt0, nt0, nt0⟩
          case hstep =>
            intro D g wz i hi' hn hd' hI2
            obtain ⟨r0, r1, r3, r9, hbz, f0, f1, f2, f3, f4, f5, f6, f7, f8, f9, f10, f11, f12, f13, f14, f15, f16⟩ := hI2
            have hi' : i < 17 := hi'
            rcases (show i = 0 ∨ i = 1 ∨ i = 2 ∨ i = 3 ∨ i = 4 ∨ i = 5 ∨ i = 6 ∨ i = 7 ∨ i = 8 ∨ i = 9 ∨ i = 10 ∨ i = 11 ∨ i = 12 ∨ i = 13 ∨ i = 14 ∨ i = 15 ∨ i = 16 by omega) with rfl | rfl | rfl | rfl | rfl | rfl | rfl | rfl | rfl | rfl | rfl | rfl | rfl | rfl | rfl | rfl | rfl
            · -- 0
              refine slot_step rfl rfl (fun az hs K hK => ?_)
              have hK : Shut _ := hK
              have e9 := hs.get 9
              rw [r9] at e9
              go_simp
              exact hK.out _ _ ⟨r0, r1, r3, r9, hbz, fun _ => rfl, kp f1, kp f2, kp f3, kp f4, kp f5, kp f6, kp f7, kp f8, kp f9, kp f10, kp f11, kp f12, kp f13, kp f14, kp f15, kp f16⟩
            · -- 1
              refine slot_step rfl rfl (fun az hs K hK => ?_)
              have hK : Shut _ := hK
              have e1 := hs.get 1
              rw [r1] at e1
              go_simp
              exact hK.out _ _ ⟨r0, r1, r3, r9, hbz, kp f0, fun _ => rfl, kp f2, kp f3, kp f4, kp f5, kp f6, kp f7, kp f8, kp f9, kp f10, kp f11, kp f12, kp f13, kp f14, kp f15, kp f16⟩
            · -- 2
              have d0 := f0 (hd' 0 (by kernel_rfl))
              have d1 := f1 (hd' 1 (by kernel_rfl))
              refine slot_step rfl rfl (fun az hs K hK => ?_)
              have hK : Shut _ := hK
              have e18 := hs.get 18
              rw [d0] at e18
              have e19 := hs.get 19
              rw [d1] at e19
              go_simp
              exact hK.out _ _ ⟨r0, r1, r3, r9, hbz, kp f0, kp f1, fun _ => rfl, kp f3, kp f4, kp f5, kp f6, kp f7, kp f8, kp f9, kp f10, kp f11, kp f12, kp f13, kp f14, kp f15, kp f16⟩
            · -- 3
              have d2 := f2 (hd' 2 (by kernel_rfl))
              refine slot_step rfl rfl (fun az hs K hK => ?_)
              have hK : Shut _ := hK
              have e20 := hs.get 20
              rw [d2] at e20
              go_simp
              exact hK.out _ _ ⟨r0, r1, r3, r9, hbz, kp f0, kp f1, kp f2, fun _ => rfl, kp f4, kp f5, kp f6, kp f7, kp f8, kp f9, kp f10, kp f11, kp f12, kp f13, kp f14, kp f15, kp f16⟩
            · -- 4
              have d3 := f3 (hd' 3 (by kernel_rfl))
              exact slot_step_no (j := 3) (d := 21) rfl rfl rfl (by decide) (d3) ⟨r0, r1, r3, r9, hbz, kp f0, kp f1, kp f2, kp f3, fun _ => rfl, kp f5, kp f6, kp f7, kp f8, kp f9, kp f10, kp f11, kp f12, kp f13, kp f14, kp f15, kp f16⟩
            · -- 5
              have d3 := f3 (hd' 3 (by kernel_rfl))
              exact slot_step_no (j := 3) (d := 21) rfl rfl rfl (by decide) (d3) ⟨r0, r1, r3, r9, hbz, kp f0, kp f1, kp f2, kp f3, kp f4, fun _ => rfl, kp f6, kp f7, kp f8, kp f9, kp f10, kp f11, kp f12, kp f13, kp f14, kp f15, kp f16⟩
            · -- 6
              have d3 := f3 (hd' 3 (by kernel_rfl))
              exact slot_step_no (j := 3) (d := 21) rfl rfl rfl (by decide) (d3) ⟨r0, r1, r3, r9, hbz, kp f0, kp f1, kp f2, kp f3, kp f4, kp f5, fun _ => rfl, kp f7, kp f8, kp f9, kp f10, kp f11, kp f12, kp f13, kp f14, kp f15, kp f16⟩
            · -- 7
              have d3 := f3 (hd' 3 (by kernel_rfl))
              exact slot_step_no (j := 3) (d := 21) rfl rfl rfl (by decide) (d3) ⟨r0, r1, r3, r9, hbz, kp f0, kp f1, kp f2, kp f3, kp f4, kp f5, kp f6, fun _ => rfl, kp f8, kp f9, kp f10, kp f11, kp f12, kp f13, kp f14, kp f15, kp f16⟩
            · -- 8
              have d3 := f3 (hd' 3 (by kernel_rfl))
              exact slot_step_no (j := 3) (d := 21) rfl rfl rfl (by decide) (d3) ⟨r0, r1, r3, r9, hbz, kp f0, kp f1, kp f2, kp f3, kp f4, kp f5, kp f6, kp f7, fun _ => rfl, kp f9, kp f10, kp f11, kp f12, kp f13, kp f14, kp f15, kp f16⟩
            · -- 9
              have d3 := f3 (hd' 3 (by kernel_rfl))
              exact slot_step_no (j := 3) (d := 21) rfl rfl rfl (by decide) (d3) ⟨r0, r1, r3, r9, hbz, kp f0, kp f1, kp f2, kp f3, kp f4, kp f5, kp f6, kp f7, kp f8, fun _ => rfl, kp f10, kp f11, kp f12, kp f13, kp f14, kp f15, kp f16⟩
            · -- 10
              have d3 := f3 (hd' 3 (by kernel_rfl))
              exact slot_step_no (j := 3) (d := 21) rfl rfl rfl (by decide) (d3) ⟨r0, r1, r3, r9, hbz, kp f0, kp f1, kp f2, kp f3, kp f4, kp f5, kp f6, kp f7, kp f8, kp f9, fun _ => rfl, kp f11, kp f12, kp f13, kp f14, kp f15, kp f16⟩
            · -- 11
              have d3 := f3 (hd' 3 (by kernel_rfl))
              exact slot_step_no (j := 3) (d := 21) rfl rfl rfl (by decide) (d3) ⟨r0, r1, r3, r9, hbz, kp f0, kp f1, kp f2, kp f3, kp f4, kp f5, kp f6, kp f7, kp f8, kp f9, kp f10, fun _ => rfl, kp f12, kp f13, kp f14, kp f15, kp f16⟩
            · -- 12
              have d3 := f3 (hd' 3 (by kernel_rfl))
              exact slot_step_no (j := 3) (d := 21) rfl rfl rfl (by decide) (d3) ⟨r0, r1, r3, r9, hbz, kp f0, kp f1, kp f2, kp f3, kp f4, kp f5, kp f6, kp f7, kp f8, kp f9, kp f10, kp f11, fun _ => rfl, kp f13, kp f14, kp f15, kp f16⟩
            · -- 13
              have d3 := f3 (hd' 3 (by kernel_rfl))
              exact slot_step_no (j := 3) (d := 21) rfl rfl rfl (by decide) (d3) ⟨r0, r1, r3, r9, hbz, kp f0, kp f1, kp f2, kp f3, kp f4, kp f5, kp f6, kp f7, kp f8, kp f9, kp f10, kp f11, kp f12, fun _ => rfl, kp f14, kp f15, kp f16⟩
            · -- 14
              have d3 := f3 (hd' 3 (by kernel_rfl))
              exact slot_step_no (j := 3) (d := 21) rfl rfl rfl (by decide) (d3) ⟨r0, r1, r3, r9, hbz, kp f0, kp f1, kp f2, kp f3, kp f4, kp f5, kp f6, kp f7, kp f8, kp f9, kp f10, kp f11, kp f12, kp f13, fun _ => rfl, kp f15, kp f16⟩
            · -- 15
              have d3 := f3 (hd' 3 (by kernel_rfl))
              exact slot_step_no (j := 3) (d := 21) rfl rfl rfl (by decide) (d3) ⟨r0, r1, r3, r9, hbz, kp f0, kp f1, kp f2, kp f3, kp f4, kp f5, kp f6, kp f7, kp f8, kp f9, kp f10, kp f11, kp f12, kp f13, kp f14, fun _ => rfl, kp f16⟩
            · -- 16
              have d3 := f3 (hd' 3 (by kernel_rfl))
              have d15 := f15 (hd' 15 (by kernel_rfl))
              refine slot_step rfl rfl (fun az hs K hK => ?_)
              have hK : Shut _ := hK
              have e21 := hs.get 21
              rw [d3] at e21
              have e33 := hs.get 33
              rw [d15] at e33
              go_simp
              exact hK.out _ _ ⟨r0, r1, r3, r9, hbz, kp f0, kp f1, kp f2, kp f3, kp f4, kp f5, kp f6, kp f7, kp f8, kp f9, kp f10, kp f11, kp f12, kp f13, kp f14, kp f15, fun _ => rfl⟩
          case hdone =>
            rintro D g wz hD ⟨r0, r1, r3, r9, hbz, f0, f1, f2, f3, f4, f5, f6, f7, f8, f9, f10, f11, f12, f13, f14, f15, f16⟩
            simp only [setAll, List.foldl_cons, List.foldl_nil, List.setIfInBounds_toArray, List.set_cons_succ, List.set_cons_zero]
            have e34 := f16 (hD 16)
            rw [e34]
            clear f0 f1 f2 f3 f4 f5 f6 f7 f8 f9 f10 f11 f12 f13 f14 f15 f16 hD r0 r1 r3 r9 e34
            have bN := hide (hb2.out.below hbz hb2.out.lt)
            have hfN := hide (hf2.out.trans (Fr.of_below hbz))
            go_wp2
            go_roundw
            case rel => exact .inr ⟨rfl, bN, hfN⟩
            case measure => simp [intOf]
    · go_wp2
      go_end0
      exact ⟨⟨_, rfl⟩, hb2.out, hf2.out⟩
set_option maxRecDepth 8000 in
theorem sort2_stable (gc cap : Nat) (x0 x1 d : Int) (rest : List Value) (cb : Value) (W : World) (hb : Blk W gc 3 (.int .i64 x0 :: .int .i64 x1 :: rest).toArray) (hd : d < 0)
    (hc : ∀ W', Below W.heap.size W W' → Calls Try.prog 147 #[.int .i64 x1, .int .i64 x0, cb] W' (CmpIs d W')) :
    Calls Try.prog 146 #[.slice (some ⟨gc, 0, none⟩) 2 cap, .func (.func 147) #[] #[cb]] W fun e w' => (∃ v, e = .returned v) ∧ Blk w' gc 3 (.int .i64 x1 :: .int .i64 x0 :: rest).toArray ∧ Fr (fun q => q = gc) W w' := by
  have HI := hide (sort2_ins gc cap x0 x1 d rest cb W hb hd hc)
  clear hb hd hc
  have HS : Hid (Calls Try.prog 157 #[.slice (some ⟨gc, 0, none⟩) 2 cap, .int .i64 2, .func (.func 147) #[] #[cb]] W fun e w' => (∃ v, e = .returned v) ∧ Blk w' gc 3 (.int .i64 x1 :: .int .i64 x0 :: rest).toArray ∧ Fr (fun q => q = gc) W w') := by
    apply hide
    go_enter Try.func157, Try.ntmps157
    go_wp2
    go_loopw [7, 8] (fun a b wr => a = .int .i64 0 ∧ b = .int .i64 20 ∧ wr = W) (fun _ _ _ => 0)
    case atStart => exact ⟨rfl, rfl, rfl⟩
    case round =>
      obtain ⟨rfl, rfl, rfl⟩ := hrel
      go_wp2_with fail
      refine HI.out.mono ?_
      rintro e w2 ⟨⟨v, rfl⟩, hb2, hf2⟩
      replace hb2 := hide hb2
      replace hf2 := hide hf2
      go_wp2
      go_loopw [6] (fun a wr => a = .int .i64 20 ∧ wr = w2) (fun _ _ => 0)
      case atStart => exact ⟨rfl, rfl⟩
      case round =>
        obtain ⟨rfl, rfl⟩ := hrel
        go_wp2
        go_end0
        exact ⟨⟨_, rfl⟩, hb2.out, hf2.out⟩
  go_enter Try.func146, Try.ntmps146
  go_wp2_with fail
  refine HS.out.mono ?_
  rintro e w2 ⟨⟨v, rfl⟩, hb2, hf2⟩
  replace hb2 := hide hb2
  replace hf2 := hide hf2
  go_wp2
  go_end0
  exact ⟨⟨_, rfl⟩, hb2.out, hf2.out⟩
end Go.Proofs.Ytcjoohaagdihlaa.Watch
end
