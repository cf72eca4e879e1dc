/- The two closures of (*Store).begin: how late a literal got its value. -/
import Derived.Test.YtcjoohaagdihlaaSort2
namespace Go.Proofs.Ytcjoohaagdihlaa.Watch
open Go.RowKit Go.Lt Go.Proofs.Ytcjoohaagdihlaa.Lit Go.Proofs.Ytcjoohaagdihlaa.Sorted Go.Proofs.Ytcjoohaagdihlaa.Learn Go.Instr
set_option linter.unusedVariables false
set_option linter.unusedSimpArgs false

section
variable {base : Nat} {W : World} {p gv gm N : Nat} {lv : Value} {vals : List Int} {mk : List Mk} {ls : List Int}
theorem late_free (h : TrM base W p gv gm N lv vals mk ls) (hN : N ≤ 10000000) {g4 : Nat} (hb : Blk W g4 83 #[.pointer (some ⟨p, 0, none⟩)]) {x v : Int} (hv : litV vals x = v) (h0 : v ≠ 0) :
    Calls Try.prog 144 #[.int .i64 x, .pointer (some ⟨g4, 0, none⟩)] W (CmpIs 1048577 W) := by
  have HV := hide (value_is h hN hv)
  have b0 := hb.cell 0
  have e0 : (v == 0) = false := by simp [h0]
  have e1 : (v != 0) = true := by simp [h0]
  clear h hv hb
  go_enter Try.func144, Try.ntmps144
  go_wp2_with (go_at_call 110; refine HV.out.mono ?_; rintro e w' ⟨rfl, rfl⟩)
  go_ret
  exact ⟨rfl, Below.refl _ _⟩
theorem late_zero (h : TrM base W p gv gm N lv vals mk ls) (hN : N ≤ 10000000) {g4 : Nat} (hb : Blk W g4 83 #[.pointer (some ⟨p, 0, none⟩)]) {x : Int} (hv : litV vals x = 0) {k : Nat} (hx0 : 0 ≤ x) (hk : x / 2 = (k : Int)) {a : Int} {m : Mk} (ha : vals[k]? = some a) (h2 : a ≠ 2) (hm : mk[k]? = some m) :
    Calls Try.prog 144 #[.int .i64 x, .pointer (some ⟨g4, 0, none⟩)] W (CmpIs m.place W) := by
  have HV := hide (value_is h hN hv)
  have HP := hide (trail_Place h hN ha h2 hm)
  have hkl := (List.getElem?_eq_some_iff.1 ha).1
  have hkN : k ≤ 10000000 := by rw [h.vl] at hkl; omega
  have hqt : x.tdiv 2 = (k : Int) := by rw [Int.tdiv_eq_ediv_of_nonneg hx0, hk]
  have hkw : IntKind.i64.wrap (k : Int) = (k : Int) := IntWalk.i64_in _ (by omega)
  have b0 := hb.cell 0
  clear h hv hb ha hm h2
  go_enter Try.func144, Try.ntmps144
  go_wp2_with (go_at_call 110; refine HV.out.mono ?_; rintro e w' ⟨rfl, rfl⟩)
  refine HP.out.mono ?_
  rintro e w2 ⟨rfl, hb2⟩
  replace hb2 := hide hb2
  go_wp2
  go_ret
  exact ⟨rfl, hb2.out⟩
end
set_option maxRecDepth 8000 in
theorem begin2_is {W : World} {g8 : Nat} {cb1 : Value} {x y Lx Ly : Int} (hb : Blk W g8 53 #[.func (.func 144) #[] #[cb1]])
    (hx : ∀ W', Below W.heap.size W W' → Calls Try.prog 144 #[.int .i64 x, cb1] W' (CmpIs Lx W'))
    (hy : ∀ W', Below W.heap.size W W' → Calls Try.prog 144 #[.int .i64 y, cb1] W' (CmpIs Ly W')) (hL : -100000000 ≤ Ly - Lx ∧ Ly - Lx ≤ 100000000) :
    Calls Try.prog 147 #[.int .i64 x, .int .i64 y, .pointer (some ⟨g8, 0, none⟩)] W (CmpIs (Ly - Lx) W) := by
  have b0 : W.cell? ⟨g8, 0, none⟩ = some (.func (.func 144) #[] #[cb1]) := hb.cell 0
  have hlt := hb.lt
  have hdw : IntKind.i64.wrap (Ly - Lx) = Ly - Lx := IntWalk.i64_in _ (by omega)
  obtain ⟨d, hd⟩ : ∃ d, Ly - Lx = d := ⟨_, rfl⟩
  rw [hd] at hdw ⊢
  replace hx := hide hx
  replace hy := hide hy
  clear hL hb
  go_enter Try.func147, Try.ntmps147
  go_wp2
  refine wp_region_slots [6, 7, 8, 9, 10, 11, 12, 5] (fun D g wz => g 0 = .int .i64 x ∧ g 1 = .int .i64 y ∧ g 2 = .pointer (some ⟨g8, 0, none⟩) ∧ Below W.heap.size W wz ∧ (D 0 → g 6 = .func (.func 144) #[] #[cb1]) ∧ (D 1 → g 7 = .int .i64 y) ∧ (D 2 → g 8 = .int .i64 Ly) ∧ (D 3 → g 9 = .func (.func 144) #[] #[cb1]) ∧ (D 4 → g 10 = .int .i64 x) ∧ (D 5 → g 11 = .int .i64 Lx) ∧ (D 6 → g 12 = .int .i64 d) ∧ (D 7 → g 5 = .int .i64 d)) (by kernel_rfl) (by kernel_rfl) 13 rfl (by kernel_rfl) ?h0 ?hstep ?hdone
  case h0 => exact ⟨rfl, rfl, rfl, (Dr.refl W).drew.below _, nt0, nt0, nt0, nt0, nt0, nt0, nt0, nt0⟩
  case hstep =>
    intro D g wz i hi' hn hd' hI2
    obtain ⟨r0, r1, r2, hbz, f0, f1, f2, f3, f4, f5, f6, f7⟩ := hI2
    have hi' : i < 8 := hi'
    rcases (show i = 0 ∨ i = 1 ∨ i = 2 ∨ i = 3 ∨ i = 4 ∨ i = 5 ∨ i = 6 ∨ i = 7 by omega) with rfl | rfl | rfl | rfl | rfl | rfl | rfl | rfl
    · -- 0
      refine slot_step rfl rfl (fun az hs K hK => ?_)
      have hK : Shut _ := hK
      have cz := (hbz.cell (p := ⟨g8, 0, none⟩) hlt).trans b0
      have e2 := hs.get 2
      rw [r2] at e2
      go_simp
      exact hK.out _ _ ⟨r0, r1, r2, hbz, fun _ => rfl, kp f1, kp f2, kp f3, kp f4, kp f5, kp f6, kp f7⟩
    · -- 1
      refine slot_step rfl rfl (fun az hs K hK => ?_)
      have hK : Shut _ := hK
      have e1 := hs.get 1
      rw [r1] at e1
      go_simp
      exact hK.out _ _ ⟨r0, r1, r2, hbz, kp f0, fun _ => rfl, kp f2, kp f3, kp f4, kp f5, kp f6, kp f7⟩
    · -- 2
      have d0 := f0 (hd' 0 (by kernel_rfl))
      have d1 := f1 (hd' 1 (by kernel_rfl))
      refine slot_step rfl rfl (fun az hs K hK => ?_)
      have hK : Shut _ := hK
      have e6 := hs.get 6
      rw [d0] at e6
      have e7 := hs.get 7
      rw [d1] at e7
      go_wp2_with (go_at_call 144; refine (hy.out wz hbz).mono ?_; rintro e wy ⟨rfl, hbw⟩)
      exact ⟨r0, r1, r2, hbz.trans (hbw.mono hbz.size), kp f0, kp f1, fun _ => rfl, kp f3, kp f4, kp f5, kp f6, kp f7⟩
    · -- 3
      refine slot_step rfl rfl (fun az hs K hK => ?_)
      have hK : Shut _ := hK
      have cz := (hbz.cell (p := ⟨g8, 0, none⟩) hlt).trans b0
      have e2 := hs.get 2
      rw [r2] at e2
      go_simp
      exact hK.out _ _ ⟨r0, r1, r2, hbz, kp f0, kp f1, kp f2, fun _ => rfl, kp f4, kp f5, kp f6, kp f7⟩
    · -- 4
      refine slot_step rfl rfl (fun az hs K hK => ?_)
      have hK : Shut _ := hK
      have e0 := hs.get 0
      rw [r0] at e0
      go_simp
      exact hK.out _ _ ⟨r0, r1, r2, hbz, kp f0, kp f1, kp f2, kp f3, fun _ => rfl, kp f5, kp f6, kp f7⟩
    · -- 5
      have d3 := f3 (hd' 3 (by kernel_rfl))
      have d4 := f4 (hd' 4 (by kernel_rfl))
      refine slot_step rfl rfl (fun az hs K hK => ?_)
      have hK : Shut _ := hK
      have e9 := hs.get 9
      rw [d3] at e9
      have e10 := hs.get 10
      rw [d4] at e10
      go_wp2_with (go_at_call 144; refine (hx.out wz hbz).mono ?_; rintro e wy ⟨rfl, hbw⟩)
      exact ⟨r0, r1, r2, hbz.trans (hbw.mono hbz.size), kp f0, kp f1, kp f2, kp f3, kp f4, fun _ => rfl, kp f6, kp f7⟩
    · -- 6
      have d2 := f2 (hd' 2 (by kernel_rfl))
      have d5 := f5 (hd' 5 (by kernel_rfl))
      refine slot_step rfl rfl (fun az hs K hK => ?_)
      have hK : Shut _ := hK
      have e8 := hs.get 8
      rw [d2] at e8
      have e11 := hs.get 11
      rw [d5] at e11
      go_simp
      exact hK.out _ _ ⟨r0, r1, r2, hbz, kp f0, kp f1, kp f2, kp f3, kp f4, kp f5, fun _ => rfl, kp f7⟩
    · -- 7
      have d6 := f6 (hd' 6 (by kernel_rfl))
      refine slot_step rfl rfl (fun az hs K hK => ?_)
      have hK : Shut _ := hK
      have e12 := hs.get 12
      rw [d6] at e12
      go_simp
      exact hK.out _ _ ⟨r0, r1, r2, hbz, kp f0, kp f1, kp f2, kp f3, kp f4, kp f5, kp f6, fun _ => rfl⟩
  case hdone =>
    rintro D g wz hD ⟨r0, r1, r2, hbz, f0, f1, f2, f3, f4, f5, f6, f7⟩
    simp only [setAll, List.foldl_cons, List.foldl_nil, List.setIfInBounds_toArray, List.set_cons_succ, List.set_cons_zero]
    have e5 := f7 (hD 7)
    rw [e5]
    clear f0 f1 f2 f3 f4 f5 f6 f7 hD r0 r1 r2
    replace hbz := hide hbz
    go_wp2
    go_ret
    exact ⟨rfl, hbz.out⟩
end Go.Proofs.Ytcjoohaagdihlaa.Watch
