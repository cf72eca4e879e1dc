/- The program's put: literals are put to the map of a clause. -/
import Derived.Test.YtcjoohaagdihlaaLearn8
import Derived.Test.YtcjoohaagdihlaaLearn5
namespace Go.Proofs.Ytcjoohaagdihlaa.Learn
open Go.RowKit Go.Lt Go.Proofs.Ytcjoohaagdihlaa.Lit Go.Proofs.Ytcjoohaagdihlaa.Sorted Go.Instr
open Go.Proofs.Ytcjoohaagdihlaa.Kept (Sl Sl.val addr_off)
set_option linter.unusedVariables false
set_option linter.unusedSimpArgs false

/-- the map's keys are these literals -/
structure InIs (C : List Int) (ml : List (Int × Value)) : Prop where
  get : ∀ x, mget ml x = if x ∈ C then some (.bool true) else none
theorem InIs.get_ {C : List Int} {ml : List (Int × Value)} (h : InIs C ml) (x : Int) : (mget ml x).getD (.bool false) = .bool (decide (x ∈ C)) := by
  rw [h.get]; by_cases hx : x ∈ C <;> simp [hx]
theorem InIs.vals {C : List Int} {ml : List (Int × Value)} (h : InIs C ml) (hk : (ml.map (·.1)).Nodup) : ∀ p ∈ ml, p.1 ∈ C ∧ p.2 = .bool true := fun p hp => by
  have h1 := mem_mget hk (show (p.1, p.2) ∈ ml from hp)
  rw [h.get] at h1
  by_cases hx : p.1 ∈ C
  · rw [if_pos hx] at h1; exact ⟨hx, (Option.some.inj h1).symm⟩
  · rw [if_neg hx] at h1; cases h1
theorem InIs.same {C D : List Int} {ml : List (Int × Value)} (h : InIs C ml) (hd : ∀ x, x ∈ C ↔ x ∈ D) : InIs D ml := ⟨fun x => by
  rw [h.get]; by_cases hx : x ∈ C
  · rw [if_pos hx, if_pos ((hd x).1 hx)]
  · rw [if_neg hx, if_neg (fun e => hx ((hd x).2 e))]⟩
theorem InIs.put {C : List Int} {ml : List (Int × Value)} (h : InIs C ml) (x : Int) : InIs (C ++ [x]) (mput ml x (.bool true)) := ⟨fun y => by
  rw [mget_mput, h.get]
  by_cases hy : x = y
  · subst hy; simp
  · have : ¬ y = x := fun e => hy e.symm
    simp [hy, this]⟩
theorem InIs.put1 {l : List St} {but : Int} {C : List Int} {ml : List (Int × Value)} (h : InIs C ml) {x : Int} (h1 : 1 < x) (h2 : x ≠ but) (h4 : 0 < levOf l x) : InIs (put1 l but C x) (mput ml x (.bool true)) := by
  cases hh : hasB C x with
  | false => rw [put1_yes h1 h2 hh h4]; exact h.put x
  | true =>
    rw [put1_no (.inr (.inr (.inl hh)))]
    refine (h.put x).same fun y => ?_
    rw [List.mem_append, List.mem_singleton]
    exact ⟨fun e => e.elim id (fun e => e ▸ has_iff.1 hh), .inl⟩
/-- where each step's variable is -/
def PlIs (l : List St) (pl : List (Int × Value)) : Prop := ∀ i, i < l.length → mget pl ((stAt l i).lit / 2) = some (.int .i64 i)
theorem pl_mem {l : List St} {pl : List (Int × Value)} (h : PlIs l pl) {x : Int} (hx : Mem l x) : (mget pl (litVar x)).getD (.int .i64 0) = .int .i64 (plN l x) := by
  have h1 := h _ hx.lt
  rw [hx.at_, not_half hx.good] at h1
  have : litVar x = x / 2 := by unfold litVar; rw [hx.good]; rfl
  rw [this, h1]; rfl
theorem zero_int2 (w : World) : (zeroValue 3).run Try.prog w = .ok (.int .i64 0) w := by simp
theorem mapI : Try.prog.underlying 107 = some (.map 3 3) := by kernel_rfl
/-- what the program's First keeps -/
structure Mp (w0 : World) (A : Option Addr) (n c : Nat) (l : List St) (c2 c7 c10 M1 M2 : Nat) (pl ml : List (Int × Value)) (C : List Int) (W : World) : Prop where
  bel : Below w0.heap.size w0 W
  b2 : Blk W c2 44 #[.slice A n c]
  b7 : Blk W c7 107 #[.map (some M1)]
  m1 : MapS W encI M1 pl
  b10 : Blk W c10 108 #[.map (some M2)]
  m2 : MapS W encI M2 ml
  hM2 : w0.heap.size ≤ M2
  n1 : M1 ≠ M2
  pl_ : PlIs l pl
  in_ : InIs C ml
section
variable {w0 : World} {A : Option Addr} {n c : Nat} {l : List St} {c2 c7 c10 M1 M2 : Nat} {pl ml ml' : List (Int × Value)} {C C' : List Int} {W W' : World}
theorem map_blk_ne {w : World} {B g : Nat} {m : List (Int × Value)} {t : TypeId} {cs : Array Value} (h : MapS w encI B m) (hb : Blk w g t cs) : ¬ g = B := fun e => by
  subst e
  obtain ⟨es, c, h1, _⟩ := h
  unfold Blk at hb
  rw [hb] at h1
  cases h1
theorem Mp.step (h : Mp w0 A n c l c2 c7 c10 M1 M2 pl ml C W) (hb : Below W.heap.size W W') : Mp w0 A n c l c2 c7 c10 M1 M2 pl ml C W' :=
  ⟨h.bel.trans (hb.mono h.bel.size), h.b2.below hb h.b2.lt, h.b7.below hb h.b7.lt, h.m1.below hb h.m1.lt, h.b10.below hb h.b10.lt, h.m2.below hb h.m2.lt, h.hM2, h.n1, h.pl_, h.in_⟩
theorem Mp.turn (h : Mp w0 A n c l c2 c7 c10 M1 M2 pl ml C W) (hm : MapS W' encI M2 ml') (hf : Fr (fun q => q = M2) W W') (hi : InIs C' ml') : Mp w0 A n c l c2 c7 c10 M1 M2 pl ml' C' W' :=
  ⟨h.bel.trans (hf.below h.bel.size (fun k e => by rw [e]; exact h.hM2)), hf.blk h.b2 (map_blk_ne h.m2 h.b2), hf.blk h.b7 (map_blk_ne h.m2 h.b7), h.m1.block (hf.block _ h.m1.lt h.n1), hf.blk h.b10 (map_blk_ne h.m2 h.b10), hm, h.hM2, h.n1, h.pl_, hi⟩
end
set_option maxRecDepth 8000 in
set_option maxHeartbeats 4000000 in
theorem first_put (w0 : World) (A : Option Addr) (n c : Nat) (l : List St) (c2 c7 c10 M1 M2 : Nat) (pl : List (Int × Value)) (B : Option Addr) (k cb : Nat) (more : List Int) (but : Int) (w : World) (out : List Int) (ml : List (Int × Value))
    (hn : n ≤ 1000) (hr : RdT w0 A n l) (hp : Mp w0 A n c l c2 c7 c10 M1 M2 pl ml out w) (hk : k ≤ 1000) (hmore : Rd w0 B k (ivs more)) (hM : ∀ x ∈ more, 1 < x → x ≠ but → Mem l x) :
    Calls Try.prog 85 #[.slice B k cb, .int .i64 but, .pointer (some ⟨c2, 0, none⟩), .pointer (some ⟨c7, 0, none⟩), .pointer (some ⟨c10, 0, none⟩)] w fun e w' => (∃ v, e = .returned v) ∧ ∃ ml', Mp w0 A n c l c2 c7 c10 M1 M2 pl ml' (putP l out more but) w' := by
  have hnI : (n : Int) ≤ 1000 := by omega
  have hkI : (k : Int) ≤ 1000 := by omega
  have hml := hide hmore.len
  have hll := hide hr.1
  replace hM := hide hM
  replace hp := hide hp
  go_enter Try.func85, Try.ntmps85
  go_wp2
  go_loopw [11] (fun i wr => ∃ q : Nat, q ≤ k ∧ i = .int .i64 q ∧ Hid (∃ ml', Mp w0 A n c l c2 c7 c10 M1 M2 pl ml' (putP l out (more.take q) but) wr)) (fun i _ => k - (intOf i).toNat)
  case atStart => exact ⟨0, Nat.zero_le _, rfl, hide ⟨_, hp.out⟩⟩
  case round =>
    obtain ⟨q, hq, rfl, hmp⟩ := hrel
    have hqI : (q : Int) ≤ 1000 := by omega
    by_cases hlt : q < k
    · obtain ⟨ml2, hmp⟩ := hmp.out
      replace hmp := hide hmp
      obtain ⟨ad, x, rfl, hB, hx, hcx⟩ := (hmore.below hmp.out.bel (Nat.le_refl _)).get hlt
      have hmx := hide (hM.out x (List.mem_of_getElem? hx))
      have hst := hide (put_take (l := l) (out := out) (but := but) hx)
      obtain ⟨cur, hcur⟩ : ∃ cur, putP l out (more.take q) but = cur := ⟨_, rfl⟩
      rw [hcur] at hst hmp
      clear hx hcur
      have k2 := hmp.out.b2.cell 0
      have k7 := hmp.out.b7.cell 0
      have k10 := hmp.out.b10.cell 0
      have hm1 := hide hmp.out.m1
      by_cases h1 : 1 < x
      · have d1 : decide (1 < x) = true := decide_eq_true h1
        by_cases h2 : x = but
        · have e2 : (x != but) = false := by simp [h2]
          have e3 : (x == but) = true := by simp [h2]
          have hF := hide (hst.out.trans (put1_no (.inr (.inl h2))))
          clear hst hmx h2
          go_wp2
          refine wp_region_slots [15, 16, 17, 18, 19, 20, 21, 22, 23, 24, 25, 26, 27, 28, 29, 30, 31, 32] (fun D g wz => g 8 = .int .i64 x ∧ g 1 = .int .i64 but ∧ g 2 = .pointer (some ⟨c2, 0, none⟩) ∧ g 3 = .pointer (some ⟨c7, 0, none⟩) ∧ Dr wr wz ∧ (D 0 → g 15 = .int .i64 x) ∧ (D 1 → g 16 = .bool true) ∧ (D 2 → g 17 = .bool true) ∧ (D 3 → g 18 = .int .i64 x) ∧ (D 4 → g 19 = .int .i64 but) ∧ (D 5 → g 20 = .bool false) ∧ (D 6 → g 21 = .bool false) ∧ (D 7 → g 22 = .bool false) ∧ (D 8 → g 23 = undef) ∧ (D 9 → g 24 = undef) ∧ (D 10 → g 25 = undef) ∧ (D 11 → g 26 = undef) ∧ (D 12 → g 27 = undef) ∧ (D 13 → g 28 = undef) ∧ (D 14 → g 29 = undef) ∧ (D 15 → g 30 = undef) ∧ (D 16 → g 31 = undef) ∧ (D 17 → g 32 = .bool false)) (by kernel_rfl) (by kernel_rfl) 36 rfl (by kernel_rfl) ?h0 ?hstep ?hdone
          case h0 => exact ⟨rfl, rfl, rfl, rfl, (Dr.refl wr).drew, nt0, nt0, nt0, nt0, nt0, nt0, nt0, nt0, nt0, nt0, nt0, nt0, nt0, nt0, nt0, nt0, nt0, nt0⟩
          case hstep =>
            intro D g wz i hi' hn hd' hI2
            obtain ⟨r8, r1, r2, r3, hbz, f0, f1, f2, f3, f4, f5, f6, f7, f8, f9, f10, f11, f12, f13, f14, f15, f16, f17⟩ := hI2
            have hi' : i < 18 := hi'
            rcases (show i = 0 ∨ i = 1 ∨ i = 2 ∨ i = 3 ∨ i = 4 ∨ i = 5 ∨ i = 6 ∨ i = 7 ∨ i = 8 ∨ i = 9 ∨ i = 10 ∨ i = 11 ∨ i = 12 ∨ i = 13 ∨ i = 14 ∨ i = 15 ∨ i = 16 ∨ i = 17 by omega) with rfl | rfl | rfl | rfl | rfl | rfl | rfl | rfl | rfl | rfl | rfl | rfl | rfl | rfl | rfl | rfl | rfl | rfl
            · -- 0
              refine slot_step rfl rfl (fun az hs K hK => ?_)
              have hK : Shut _ := hK
              have e8 := hs.get 8
              rw [r8] at e8
              go_simp
              exact hK.out _ _ ⟨r8, r1, r2, r3, hbz, fun _ => rfl, kp f1, kp f2, kp f3, kp f4, kp f5, kp f6, kp f7, kp f8, kp f9, kp f10, kp f11, kp f12, kp f13, kp f14, kp f15, kp f16, kp f17⟩
            · -- 1
              have d0 := f0 (hd' 0 (by kernel_rfl))
              refine slot_step rfl rfl (fun az hs K hK => ?_)
              have hK : Shut _ := hK
              have e15 := hs.get 15
              rw [d0] at e15
              go_simp
              exact hK.out _ _ ⟨r8, r1, r2, r3, hbz, kp f0, fun _ => rfl, kp f2, kp f3, kp f4, kp f5, kp f6, kp f7, kp f8, kp f9, kp f10, kp f11, kp f12, kp f13, kp f14, kp f15, kp f16, kp f17⟩
            · -- 2
              have d1 := f1 (hd' 1 (by kernel_rfl))
              refine slot_step rfl rfl (fun az hs K hK => ?_)
              have hK : Shut _ := hK
              have e16 := hs.get 16
              rw [d1] at e16
              go_simp
              exact hK.out _ _ ⟨r8, r1, r2, r3, hbz, kp f0, kp f1, fun _ => rfl, kp f3, kp f4, kp f5, kp f6, kp f7, kp f8, kp f9, kp f10, kp f11, kp f12, kp f13, kp f14, kp f15, kp f16, kp f17⟩
            · -- 3
              have d2 := f2 (hd' 2 (by kernel_rfl))
              refine slot_step_yes (j := 2) (d := 17) rfl rfl rfl (by decide) (d2) (fun az hs K hK => ?_)
              have hK : Shut _ := hK
              have e17 := hs.get 17
              rw [d2] at e17
              have e8 := hs.get 8
              rw [r8] at e8
              go_simp
              exact hK.out _ _ ⟨r8, r1, r2, r3, hbz, kp f0, kp f1, kp f2, fun _ => rfl, kp f4, kp f5, kp f6, kp f7, kp f8, kp f9, kp f10, kp f11, kp f12, kp f13, kp f14, kp f15, kp f16, kp f17⟩
            · -- 4
              have d2 := f2 (hd' 2 (by kernel_rfl))
              refine slot_step_yes (j := 2) (d := 17) rfl rfl rfl (by decide) (d2) (fun az hs K hK => ?_)
              have hK : Shut _ := hK
              have e17 := hs.get 17
              rw [d2] at e17
              have e1 := hs.get 1
              rw [r1] at e1
              go_simp
              exact hK.out _ _ ⟨r8, r1, r2, r3, hbz, kp f0, kp f1, kp f2, kp f3, fun _ => rfl, kp f5, kp f6, kp f7, kp f8, kp f9, kp f10, kp f11, kp f12, kp f13, kp f14, kp f15, kp f16, kp f17⟩
            · -- 5
              have d2 := f2 (hd' 2 (by kernel_rfl))
              have d3 := f3 (hd' 3 (by kernel_rfl))
              have d4 := f4 (hd' 4 (by kernel_rfl))
              refine slot_step_yes (j := 2) (d := 17) rfl rfl rfl (by decide) (d2) (fun az hs K hK => ?_)
              have hK : Shut _ := hK
              have e17 := hs.get 17
              rw [d2] at e17
              have e18 := hs.get 18
              rw [d3] at e18
              have e19 := hs.get 19
              rw [d4] at e19
              go_simp
              exact hK.out _ _ ⟨r8, r1, r2, r3, hbz, kp f0, kp f1, kp f2, kp f3, kp f4, fun _ => rfl, kp f6, kp f7, kp f8, kp f9, kp f10, kp f11, kp f12, kp f13, kp f14, kp f15, kp f16, kp f17⟩
            · -- 6
              have d2 := f2 (hd' 2 (by kernel_rfl))
              have d5 := f5 (hd' 5 (by kernel_rfl))
              refine slot_step rfl rfl (fun az hs K hK => ?_)
              have hK : Shut _ := hK
              have e17 := hs.get 17
              rw [d2] at e17
              have e20 := hs.get 20
              rw [d5] at e20
              go_simp
              exact hK.out _ _ ⟨r8, r1, r2, r3, hbz, kp f0, kp f1, kp f2, kp f3, kp f4, kp f5, fun _ => rfl, kp f7, kp f8, kp f9, kp f10, kp f11, kp f12, kp f13, kp f14, kp f15, kp f16, kp f17⟩
            · -- 7
              have d6 := f6 (hd' 6 (by kernel_rfl))
              refine slot_step rfl rfl (fun az hs K hK => ?_)
              have hK : Shut _ := hK
              have e21 := hs.get 21
              rw [d6] at e21
              go_simp
              exact hK.out _ _ ⟨r8, r1, r2, r3, hbz, kp f0, kp f1, kp f2, kp f3, kp f4, kp f5, kp f6, fun _ => rfl, kp f8, kp f9, kp f10, kp f11, kp f12, kp f13, kp f14, kp f15, kp f16, kp f17⟩
            · -- 8
              have d7 := f7 (hd' 7 (by kernel_rfl))
              exact slot_step_no (j := 7) (d := 22) rfl rfl rfl (by decide) (d7) ⟨r8, r1, r2, r3, hbz, kp f0, kp f1, kp f2, kp f3, kp f4, kp f5, kp f6, kp f7, fun _ => rfl, kp f9, kp f10, kp f11, kp f12, kp f13, kp f14, kp f15, kp f16, kp f17⟩
            · -- 9
              have d7 := f7 (hd' 7 (by kernel_rfl))
              exact slot_step_no (j := 7) (d := 22) rfl rfl rfl (by decide) (d7) ⟨r8, r1, r2, r3, hbz, kp f0, kp f1, kp f2, kp f3, kp f4, kp f5, kp f6, kp f7, kp f8, fun _ => rfl, kp f10, kp f11, kp f12, kp f13, kp f14, kp f15, kp f16, kp f17⟩
            · -- 10
              have d7 := f7 (hd' 7 (by kernel_rfl))
              exact slot_step_no (j := 7) (d := 22) rfl rfl rfl (by decide) (d7) ⟨r8, r1, r2, r3, hbz, kp f0, kp f1, kp f2, kp f3, kp f4, kp f5, kp f6, kp f7, kp f8, kp f9, fun _ => rfl, kp f11, kp f12, kp f13, kp f14, kp f15, kp f16, kp f17⟩
            · -- 11
              have d7 := f7 (hd' 7 (by kernel_rfl))
              exact slot_step_no (j := 7) (d := 22) rfl rfl rfl (by decide) (d7) ⟨r8, r1, r2, r3, hbz, kp f0, kp f1, kp f2, kp f3, kp f4, kp f5, kp f6, kp f7, kp f8, kp f9, kp f10, fun _ => rfl, kp f12, kp f13, kp f14, kp f15, kp f16, kp f17⟩
            · -- 12
              have d7 := f7 (hd' 7 (by kernel_rfl))
              exact slot_step_no (j := 7) (d := 22) rfl rfl rfl (by decide) (d7) ⟨r8, r1, r2, r3, hbz, kp f0, kp f1, kp f2, kp f3, kp f4, kp f5, kp f6, kp f7, kp f8, kp f9, kp f10, kp f11, fun _ => rfl, kp f13, kp f14, kp f15, kp f16, kp f17⟩
            · -- 13
              have d7 := f7 (hd' 7 (by kernel_rfl))
              exact slot_step_no (j := 7) (d := 22) rfl rfl rfl (by decide) (d7) ⟨r8, r1, r2, r3, hbz, kp f0, kp f1, kp f2, kp f3, kp f4, kp f5, kp f6, kp f7, kp f8, kp f9, kp f10, kp f11, kp f12, fun _ => rfl, kp f14, kp f15, kp f16, kp f17⟩
            · -- 14
              have d7 := f7 (hd' 7 (by kernel_rfl))
              exact slot_step_no (j := 7) (d := 22) rfl rfl rfl (by decide) (d7) ⟨r8, r1, r2, r3, hbz, kp f0, kp f1, kp f2, kp f3, kp f4, kp f5, kp f6, kp f7, kp f8, kp f9, kp f10, kp f11, kp f12, kp f13, fun _ => rfl, kp f15, kp f16, kp f17⟩
            · -- 15
              have d7 := f7 (hd' 7 (by kernel_rfl))
              exact slot_step_no (j := 7) (d := 22) rfl rfl rfl (by decide) (d7) ⟨r8, r1, r2, r3, hbz, kp f0, kp f1, kp f2, kp f3, kp f4, kp f5, kp f6, kp f7, kp f8, kp f9, kp f10, kp f11, kp f12, kp f13, kp f14, fun _ => rfl, kp f16, kp f17⟩
            · -- 16
              have d7 := f7 (hd' 7 (by kernel_rfl))
              exact slot_step_no (j := 7) (d := 22) rfl rfl rfl (by decide) (d7) ⟨r8, r1, r2, r3, hbz, kp f0, kp f1, kp f2, kp f3, kp f4, kp f5, kp f6, kp f7, kp f8, kp f9, kp f10, kp f11, kp f12, kp f13, kp f14, kp f15, fun _ => rfl, kp f17⟩
            · -- 17
              have d7 := f7 (hd' 7 (by kernel_rfl))
              have d16 := f16 (hd' 16 (by kernel_rfl))
              refine slot_step rfl rfl (fun az hs K hK => ?_)
              have hK : Shut _ := hK
              have e22 := hs.get 22
              rw [d7] at e22
              have e31 := hs.get 31
              rw [d16] at e31
              go_simp
              exact hK.out _ _ ⟨r8, r1, r2, r3, hbz, kp f0, kp f1, kp f2, kp f3, kp f4, kp f5, kp f6, kp f7, kp f8, kp f9, kp f10, kp f11, kp f12, kp f13, kp f14, kp f15, kp f16, fun _ => rfl⟩
          case hdone =>
            rintro D g wz hD ⟨r8, r1, r2, r3, hbz, f0, f1, f2, f3, f4, f5, f6, f7, f8, f9, f10, f11, f12, f13, f14, f15, f16, f17⟩
            simp only [setAll, List.foldl_cons, List.foldl_nil, List.setIfInBounds_toArray, List.set_cons_succ, List.set_cons_zero]
            have e32 := f17 (hD 17)
            rw [e32]
            clear f0 f1 f2 f3 f4 f5 f6 f7 f8 f9 f10 f11 f12 f13 f14 f15 f16 f17 e32 hD r8 r1 r2 r3
            obtain ⟨w8, hw8⟩ : ∃ w8, w8 = wz := ⟨_, rfl⟩
            subst hw8
            go_wp2
            go_roundw
            case rel => exact ⟨q + 1, hlt, by go_num, hide ⟨ml2, by rw [hF.out]; exact hmp.out.step (hbz.below _)⟩⟩
            case measure => simp [intOf]; omega
        · have e2 : (x != but) = true := by simp [h2]
          have e3 : (x == but) = false := by simp [h2]
          have hM2 := hmx.out h1 h2
          have hget := pl_mem hmp.out.pl_ hM2
          obtain ⟨V, hV⟩ : ∃ V, litVar x = V := ⟨_, rfl⟩
          have HV := lit_Var x
          rw [hV] at hget HV
          replace HV := hide HV
          have hpl := hM2.lt
          have hlev : levOf l x = (stAt l (plN l x)).lev := rfl
          obtain ⟨P, hpe⟩ : ∃ P, plN l x = P := ⟨_, rfl⟩
          rw [hpe] at hpl hlev hget
          replace hget := hide hget
          have hpn : P < n := by rw [← hll.out]; exact hpl
          have hpI : (P : Int) < n := by omega
          obtain ⟨ad0, s, z, rfl, hB2, hs, c0, c1, c3, hwy⟩ := (hr.below hmp.out.bel (Nat.le_refl _)).get hpn
          rw [stAt_is hs] at hlev
          obtain ⟨lt, lv, wy⟩ := s
          simp only at c1 hlev
          clear hs c0 c3 hwy hV hpl hpe hM2 hmx
          by_cases h4 : 0 < lv
          · have d4 : decide (0 < lv) = true := decide_eq_true h4
            have hI := hide (hmp.out.in_.put1 h1 h2 (by rw [hlev]; exact h4))
            clear hlev
            go_wp2
            refine wp_region_slots [15, 16, 17, 18, 19, 20, 21, 22, 23, 24, 25, 26, 27, 28, 29, 30, 31, 32] (fun D g wz => g 8 = .int .i64 x ∧ g 1 = .int .i64 but ∧ g 2 = .pointer (some ⟨c2, 0, none⟩) ∧ g 3 = .pointer (some ⟨c7, 0, none⟩) ∧ Dr wr wz ∧ (D 0 → g 15 = .int .i64 x) ∧ (D 1 → g 16 = .bool true) ∧ (D 2 → g 17 = .bool true) ∧ (D 3 → g 18 = .int .i64 x) ∧ (D 4 → g 19 = .int .i64 but) ∧ (D 5 → g 20 = .bool true) ∧ (D 6 → g 21 = .bool true) ∧ (D 7 → g 22 = .bool true) ∧ (D 8 → g 23 = .slice (some ad0) n c) ∧ (D 9 → g 24 = .map (some M1)) ∧ (D 10 → g 25 = .int .i64 x) ∧ (D 11 → g 26 = .int .i64 V) ∧ (D 12 → g 27 = .int .i64 P) ∧ (D 13 → g 28 = .pointer (some (ad0.add (P * 3)))) ∧ (D 14 → g 29 = .pointer (some ⟨(ad0.add (P * 3)).block, (ad0.add (P * 3)).off + 1, none⟩)) ∧ (D 15 → g 30 = .int .i64 lv) ∧ (D 16 → g 31 = .bool true) ∧ (D 17 → g 32 = .bool true)) (by kernel_rfl) (by kernel_rfl) 36 rfl (by kernel_rfl) ?h0 ?hstep ?hdone
            case h0 => exact ⟨rfl, rfl, rfl, rfl, (Dr.refl wr).drew, nt0, nt0, nt0, nt0, nt0, nt0, nt0, nt0, nt0, nt0, nt0, nt0, nt0, nt0, nt0, nt0, nt0, nt0⟩
            case hstep =>
              intro D g wz i hi' hn hd' hI2
              obtain ⟨r8, r1, r2, r3, hbz, f0, f1, f2, f3, f4, f5, f6, f7, f8, f9, f10, f11, f12, f13, f14, f15, f16, f17⟩ := hI2
              have hi' : i < 18 := hi'
              rcases (show i = 0 ∨ i = 1 ∨ i = 2 ∨ i = 3 ∨ i = 4 ∨ i = 5 ∨ i = 6 ∨ i = 7 ∨ i = 8 ∨ i = 9 ∨ i = 10 ∨ i = 11 ∨ i = 12 ∨ i = 13 ∨ i = 14 ∨ i = 15 ∨ i = 16 ∨ i = 17 by omega) with rfl | rfl | rfl | rfl | rfl | rfl | rfl | rfl | rfl | rfl | rfl | rfl | rfl | rfl | rfl | rfl | rfl | rfl
              · -- 0
                refine slot_step rfl rfl (fun az hs K hK => ?_)
                have hK : Shut _ := hK
                have e8 := hs.get 8
                rw [r8] at e8
                go_simp
                exact hK.out _ _ ⟨r8, r1, r2, r3, hbz, fun _ => rfl, kp f1, kp f2, kp f3, kp f4, kp f5, kp f6, kp f7, kp f8, kp f9, kp f10, kp f11, kp f12, kp f13, kp f14, kp f15, kp f16, kp f17⟩
              · -- 1
                have d0 := f0 (hd' 0 (by kernel_rfl))
                refine slot_step rfl rfl (fun az hs K hK => ?_)
                have hK : Shut _ := hK
                have e15 := hs.get 15
                rw [d0] at e15
                go_simp
                exact hK.out _ _ ⟨r8, r1, r2, r3, hbz, kp f0, fun _ => rfl, kp f2, kp f3, kp f4, kp f5, kp f6, kp f7, kp f8, kp f9, kp f10, kp f11, kp f12, kp f13, kp f14, kp f15, kp f16, kp f17⟩
              · -- 2
                have d1 := f1 (hd' 1 (by kernel_rfl))
                refine slot_step rfl rfl (fun az hs K hK => ?_)
                have hK : Shut _ := hK
                have e16 := hs.get 16
                rw [d1] at e16
                go_simp
                exact hK.out _ _ ⟨r8, r1, r2, r3, hbz, kp f0, kp f1, fun _ => rfl, kp f3, kp f4, kp f5, kp f6, kp f7, kp f8, kp f9, kp f10, kp f11, kp f12, kp f13, kp f14, kp f15, kp f16, kp f17⟩
              · -- 3
                have d2 := f2 (hd' 2 (by kernel_rfl))
                refine slot_step_yes (j := 2) (d := 17) rfl rfl rfl (by decide) (d2) (fun az hs K hK => ?_)
                have hK : Shut _ := hK
                have e17 := hs.get 17
                rw [d2] at e17
                have e8 := hs.get 8
                rw [r8] at e8
                go_simp
                exact hK.out _ _ ⟨r8, r1, r2, r3, hbz, kp f0, kp f1, kp f2, fun _ => rfl, kp f4, kp f5, kp f6, kp f7, kp f8, kp f9, kp f10, kp f11, kp f12, kp f13, kp f14, kp f15, kp f16, kp f17⟩
              · -- 4
                have d2 := f2 (hd' 2 (by kernel_rfl))
                refine slot_step_yes (j := 2) (d := 17) rfl rfl rfl (by decide) (d2) (fun az hs K hK => ?_)
                have hK : Shut _ := hK
                have e17 := hs.get 17
                rw [d2] at e17
                have e1 := hs.get 1
                rw [r1] at e1
                go_simp
                exact hK.out _ _ ⟨r8, r1, r2, r3, hbz, kp f0, kp f1, kp f2, kp f3, fun _ => rfl, kp f5, kp f6, kp f7, kp f8, kp f9, kp f10, kp f11, kp f12, kp f13, kp f14, kp f15, kp f16, kp f17⟩
              · -- 5
                have d2 := f2 (hd' 2 (by kernel_rfl))
                have d3 := f3 (hd' 3 (by kernel_rfl))
                have d4 := f4 (hd' 4 (by kernel_rfl))
                refine slot_step_yes (j := 2) (d := 17) rfl rfl rfl (by decide) (d2) (fun az hs K hK => ?_)
                have hK : Shut _ := hK
                have e17 := hs.get 17
                rw [d2] at e17
                have e18 := hs.get 18
                rw [d3] at e18
                have e19 := hs.get 19
                rw [d4] at e19
                go_simp
                exact hK.out _ _ ⟨r8, r1, r2, r3, hbz, kp f0, kp f1, kp f2, kp f3, kp f4, fun _ => rfl, kp f6, kp f7, kp f8, kp f9, kp f10, kp f11, kp f12, kp f13, kp f14, kp f15, kp f16, kp f17⟩
              · -- 6
                have d2 := f2 (hd' 2 (by kernel_rfl))
                have d5 := f5 (hd' 5 (by kernel_rfl))
                refine slot_step rfl rfl (fun az hs K hK => ?_)
                have hK : Shut _ := hK
                have e17 := hs.get 17
                rw [d2] at e17
                have e20 := hs.get 20
                rw [d5] at e20
                go_simp
                exact hK.out _ _ ⟨r8, r1, r2, r3, hbz, kp f0, kp f1, kp f2, kp f3, kp f4, kp f5, fun _ => rfl, kp f7, kp f8, kp f9, kp f10, kp f11, kp f12, kp f13, kp f14, kp f15, kp f16, kp f17⟩
              · -- 7
                have d6 := f6 (hd' 6 (by kernel_rfl))
                refine slot_step rfl rfl (fun az hs K hK => ?_)
                have hK : Shut _ := hK
                have e21 := hs.get 21
                rw [d6] at e21
                go_simp
                exact hK.out _ _ ⟨r8, r1, r2, r3, hbz, kp f0, kp f1, kp f2, kp f3, kp f4, kp f5, kp f6, fun _ => rfl, kp f8, kp f9, kp f10, kp f11, kp f12, kp f13, kp f14, kp f15, kp f16, kp f17⟩
              · -- 8
                have d7 := f7 (hd' 7 (by kernel_rfl))
                refine slot_step_yes (j := 7) (d := 22) rfl rfl rfl (by decide) (d7) (fun az hs K hK => ?_)
                have hK : Shut _ := hK
                have cz := (hbz.cell _).trans k2
                have e22 := hs.get 22
                rw [d7] at e22
                have e2 := hs.get 2
                rw [r2] at e2
                go_simp
                exact hK.out _ _ ⟨r8, r1, r2, r3, hbz, kp f0, kp f1, kp f2, kp f3, kp f4, kp f5, kp f6, kp f7, fun _ => rfl, kp f9, kp f10, kp f11, kp f12, kp f13, kp f14, kp f15, kp f16, kp f17⟩
              · -- 9
                have d7 := f7 (hd' 7 (by kernel_rfl))
                refine slot_step_yes (j := 7) (d := 22) rfl rfl rfl (by decide) (d7) (fun az hs K hK => ?_)
                have hK : Shut _ := hK
                have cz := (hbz.cell _).trans k7
                have e22 := hs.get 22
                rw [d7] at e22
                have e3 := hs.get 3
                rw [r3] at e3
                go_simp
                exact hK.out _ _ ⟨r8, r1, r2, r3, hbz, kp f0, kp f1, kp f2, kp f3, kp f4, kp f5, kp f6, kp f7, kp f8, fun _ => rfl, kp f10, kp f11, kp f12, kp f13, kp f14, kp f15, kp f16, kp f17⟩
              · -- 10
                have d7 := f7 (hd' 7 (by kernel_rfl))
                refine slot_step_yes (j := 7) (d := 22) rfl rfl rfl (by decide) (d7) (fun az hs K hK => ?_)
                have hK : Shut _ := hK
                have e22 := hs.get 22
                rw [d7] at e22
                have e8 := hs.get 8
                rw [r8] at e8
                go_simp
                exact hK.out _ _ ⟨r8, r1, r2, r3, hbz, kp f0, kp f1, kp f2, kp f3, kp f4, kp f5, kp f6, kp f7, kp f8, kp f9, fun _ => rfl, kp f11, kp f12, kp f13, kp f14, kp f15, kp f16, kp f17⟩
              · -- 11
                have d7 := f7 (hd' 7 (by kernel_rfl))
                have d10 := f10 (hd' 10 (by kernel_rfl))
                refine slot_step_yes (j := 7) (d := 22) rfl rfl rfl (by decide) (d7) (fun az hs K hK => ?_)
                have hK : Shut _ := hK
                have e22 := hs.get 22
                rw [d7] at e22
                have e25 := hs.get 25
                rw [d10] at e25
                go_wp2_with (go_at_call 84; refine (HV.out wz).mono ?_; rintro e wy ⟨rfl, rfl⟩; have hdr := Dr.refl wz)
                exact ⟨r8, r1, r2, r3, hbz.trans hdr, kp f0, kp f1, kp f2, kp f3, kp f4, kp f5, kp f6, kp f7, kp f8, kp f9, kp f10, fun _ => rfl, kp f12, kp f13, kp f14, kp f15, kp f16, kp f17⟩
              · -- 12
                have d7 := f7 (hd' 7 (by kernel_rfl))
                have d9 := f9 (hd' 9 (by kernel_rfl))
                have d11 := f11 (hd' 11 (by kernel_rfl))
                refine slot_step_yes (j := 7) (d := 22) rfl rfl rfl (by decide) (d7) (fun az hs K hK => ?_)
                have hK : Shut _ := hK
                have e22 := hs.get 22
                rw [d7] at e22
                have e24 := hs.get 24
                rw [d9] at e24
                have e26 := hs.get 26
                rw [d11] at e26
                refine oper_lookupO (keyLaw_int Try.underlying3) mapI zero_int2 (.tmp 24) (.tmp 26) rfl (hm1.out.toO.dr hbz) V (hs.eval d9) (hs.eval d11) ?_
                rw [hget.out]
                exact hK.out _ _ ⟨r8, r1, r2, r3, hbz, kp f0, kp f1, kp f2, kp f3, kp f4, kp f5, kp f6, kp f7, kp f8, kp f9, kp f10, kp f11, fun _ => rfl, kp f13, kp f14, kp f15, kp f16, kp f17⟩
              · -- 13
                have d7 := f7 (hd' 7 (by kernel_rfl))
                have d8 := f8 (hd' 8 (by kernel_rfl))
                have d12 := f12 (hd' 12 (by kernel_rfl))
                refine slot_step_yes (j := 7) (d := 22) rfl rfl rfl (by decide) (d7) (fun az hs K hK => ?_)
                have hK : Shut _ := hK
                have e22 := hs.get 22
                rw [d7] at e22
                have e23 := hs.get 23
                rw [d8] at e23
                have e27 := hs.get 27
                rw [d12] at e27
                go_simp
                exact hK.out _ _ ⟨r8, r1, r2, r3, hbz, kp f0, kp f1, kp f2, kp f3, kp f4, kp f5, kp f6, kp f7, kp f8, kp f9, kp f10, kp f11, kp f12, fun _ => rfl, kp f14, kp f15, kp f16, kp f17⟩
              · -- 14
                have d7 := f7 (hd' 7 (by kernel_rfl))
                have d13 := f13 (hd' 13 (by kernel_rfl))
                refine slot_step_yes (j := 7) (d := 22) rfl rfl rfl (by decide) (d7) (fun az hs K hK => ?_)
                have hK : Shut _ := hK
                have e22 := hs.get 22
                rw [d7] at e22
                have e28 := hs.get 28
                rw [d13] at e28
                go_simp
                exact hK.out _ _ ⟨r8, r1, r2, r3, hbz, kp f0, kp f1, kp f2, kp f3, kp f4, kp f5, kp f6, kp f7, kp f8, kp f9, kp f10, kp f11, kp f12, kp f13, fun _ => rfl, kp f15, kp f16, kp f17⟩
              · -- 15
                have d7 := f7 (hd' 7 (by kernel_rfl))
                have d14 := f14 (hd' 14 (by kernel_rfl))
                refine slot_step_yes (j := 7) (d := 22) rfl rfl rfl (by decide) (d7) (fun az hs K hK => ?_)
                have hK : Shut _ := hK
                have cz := (hbz.cell _).trans c1
                have e22 := hs.get 22
                rw [d7] at e22
                have e29 := hs.get 29
                rw [d14] at e29
                go_simp
                exact hK.out _ _ ⟨r8, r1, r2, r3, hbz, kp f0, kp f1, kp f2, kp f3, kp f4, kp f5, kp f6, kp f7, kp f8, kp f9, kp f10, kp f11, kp f12, kp f13, kp f14, fun _ => rfl, kp f16, kp f17⟩
              · -- 16
                have d7 := f7 (hd' 7 (by kernel_rfl))
                have d15 := f15 (hd' 15 (by kernel_rfl))
                refine slot_step_yes (j := 7) (d := 22) rfl rfl rfl (by decide) (d7) (fun az hs K hK => ?_)
                have hK : Shut _ := hK
                have e22 := hs.get 22
                rw [d7] at e22
                have e30 := hs.get 30
                rw [d15] at e30
                go_simp
                exact hK.out _ _ ⟨r8, r1, r2, r3, hbz, kp f0, kp f1, kp f2, kp f3, kp f4, kp f5, kp f6, kp f7, kp f8, kp f9, kp f10, kp f11, kp f12, kp f13, kp f14, kp f15, fun _ => rfl, kp f17⟩
              · -- 17
                have d7 := f7 (hd' 7 (by kernel_rfl))
                have d16 := f16 (hd' 16 (by kernel_rfl))
                refine slot_step rfl rfl (fun az hs K hK => ?_)
                have hK : Shut _ := hK
                have e22 := hs.get 22
                rw [d7] at e22
                have e31 := hs.get 31
                rw [d16] at e31
                go_simp
                exact hK.out _ _ ⟨r8, r1, r2, r3, hbz, kp f0, kp f1, kp f2, kp f3, kp f4, kp f5, kp f6, kp f7, kp f8, kp f9, kp f10, kp f11, kp f12, kp f13, kp f14, kp f15, kp f16, fun _ => rfl⟩
            case hdone =>
              rintro D g wz hD ⟨r8, r1, r2, r3, hbz, f0, f1, f2, f3, f4, f5, f6, f7, f8, f9, f10, f11, f12, f13, f14, f15, f16, f17⟩
              simp only [setAll, List.foldl_cons, List.foldl_nil, List.setIfInBounds_toArray, List.set_cons_succ, List.set_cons_zero]
              have e32 := f17 (hD 17)
              rw [e32]
              clear f0 f1 f2 f3 f4 f5 f6 f7 f8 f9 f10 f11 f12 f13 f14 f15 f16 f17 e32 hD r8 r1 r2 r3
              obtain ⟨w8, hw8⟩ : ∃ w8, w8 = wz := ⟨_, rfl⟩
              subst hw8
              have hmp2 := hide (hmp.out.step (hbz.below _))
              have k10 := hmp2.out.b10.cell 0
              clear k2 k7 hm1 hmp
              go_wp2_with (at_mapUpdate; refine wpList_updateS (keyLaw_int Try.underlying3) mapB rfl _ _ _ rfl hmp2.out.m2 x (.bool true) (by rfl) (by rfl) (by rfl) ?_; intro w9 hm9 hg9 hz9)
              have hR := hide (hmp2.out.turn hm9 (Fr.of_grown hg9 (fun q e => .inl (by cases e; rfl))) hI.out)
              go_roundw
              case rel => exact ⟨q + 1, hlt, by go_num, hide ⟨_, by rw [hst.out]; exact hR.out⟩⟩
              case measure => simp [intOf]; omega
          · have d4 : decide (0 < lv) = false := decide_eq_false h4
            have hF := hide (hst.out.trans (put1_no (.inr (.inr (.inr (by rw [hlev]; exact h4))))))
            clear hlev hst h4
            go_wp2
            refine wp_region_slots [15, 16, 17, 18, 19, 20, 21, 22, 23, 24, 25, 26, 27, 28, 29, 30, 31, 32] (fun D g wz => g 8 = .int .i64 x ∧ g 1 = .int .i64 but ∧ g 2 = .pointer (some ⟨c2, 0, none⟩) ∧ g 3 = .pointer (some ⟨c7, 0, none⟩) ∧ Dr wr wz ∧ (D 0 → g 15 = .int .i64 x) ∧ (D 1 → g 16 = .bool true) ∧ (D 2 → g 17 = .bool true) ∧ (D 3 → g 18 = .int .i64 x) ∧ (D 4 → g 19 = .int .i64 but) ∧ (D 5 → g 20 = .bool true) ∧ (D 6 → g 21 = .bool true) ∧ (D 7 → g 22 = .bool true) ∧ (D 8 → g 23 = .slice (some ad0) n c) ∧ (D 9 → g 24 = .map (some M1)) ∧ (D 10 → g 25 = .int .i64 x) ∧ (D 11 → g 26 = .int .i64 V) ∧ (D 12 → g 27 = .int .i64 P) ∧ (D 13 → g 28 = .pointer (some (ad0.add (P * 3)))) ∧ (D 14 → g 29 = .pointer (some ⟨(ad0.add (P * 3)).block, (ad0.add (P * 3)).off + 1, none⟩)) ∧ (D 15 → g 30 = .int .i64 lv) ∧ (D 16 → g 31 = .bool false) ∧ (D 17 → g 32 = .bool false)) (by kernel_rfl) (by kernel_rfl) 36 rfl (by kernel_rfl) ?h0 ?hstep ?hdone
            case h0 => exact ⟨rfl, rfl, rfl, rfl, (Dr.refl wr).drew, nt0, nt0, nt0, nt0, nt0, nt0, nt0, nt0, nt0, nt0, nt0, nt0, nt0, nt0, nt0, nt0, nt0, nt0⟩
            case hstep =>
              intro D g wz i hi' hn hd' hI2
              obtain ⟨r8, r1, r2, r3, hbz, f0, f1, f2, f3, f4, f5, f6, f7, f8, f9, f10, f11, f12, f13, f14, f15, f16, f17⟩ := hI2
              have hi' : i < 18 := hi'
              rcases (show i = 0 ∨ i = 1 ∨ i = 2 ∨ i = 3 ∨ i = 4 ∨ i = 5 ∨ i = 6 ∨ i = 7 ∨ i = 8 ∨ i = 9 ∨ i = 10 ∨ i = 11 ∨ i = 12 ∨ i = 13 ∨ i = 14 ∨ i = 15 ∨ i = 16 ∨ i = 17 by omega) with rfl | rfl | rfl | rfl | rfl | rfl | rfl | rfl | rfl | rfl | rfl | rfl | rfl | rfl | rfl | rfl | rfl | rfl
              · -- 0
                refine slot_step rfl rfl (fun az hs K hK => ?_)
                have hK : Shut _ := hK
                have e8 := hs.get 8
                rw [r8] at e8
                go_simp
                exact hK.out _ _ ⟨r8, r1, r2, r3, hbz, fun _ => rfl, kp f1, kp f2, kp f3, kp f4, kp f5, kp f6, kp f7, kp f8, kp f9, kp f10, kp f11, kp f12, kp f13, kp f14, kp f15, kp f16, kp f17⟩
              · -- 1
                have d0 := f0 (hd' 0 (by kernel_rfl))
                refine slot_step rfl rfl (fun az hs K hK => ?_)
                have hK : Shut _ := hK
                have e15 := hs.get 15
                rw [d0] at e15
                go_simp
                exact hK.out _ _ ⟨r8, r1, r2, r3, hbz, kp f0, fun _ => rfl, kp f2, kp f3, kp f4, kp f5, kp f6, kp f7, kp f8, kp f9, kp f10, kp f11, kp f12, kp f13, kp f14, kp f15, kp f16, kp f17⟩
              · -- 2
                have d1 := f1 (hd' 1 (by kernel_rfl))
                refine slot_step rfl rfl (fun az hs K hK => ?_)
                have hK : Shut _ := hK
                have e16 := hs.get 16
                rw [d1] at e16
                go_simp
                exact hK.out _ _ ⟨r8, r1, r2, r3, hbz, kp f0, kp f1, fun _ => rfl, kp f3, kp f4, kp f5, kp f6, kp f7, kp f8, kp f9, kp f10, kp f11, kp f12, kp f13, kp f14, kp f15, kp f16, kp f17⟩
              · -- 3
                have d2 := f2 (hd' 2 (by kernel_rfl))
                refine slot_step_yes (j := 2) (d := 17) rfl rfl rfl (by decide) (d2) (fun az hs K hK => ?_)
                have hK : Shut _ := hK
                have e17 := hs.get 17
                rw [d2] at e17
                have e8 := hs.get 8
                rw [r8] at e8
                go_simp
                exact hK.out _ _ ⟨r8, r1, r2, r3, hbz, kp f0, kp f1, kp f2, fun _ => rfl, kp f4, kp f5, kp f6, kp f7, kp f8, kp f9, kp f10, kp f11, kp f12, kp f13, kp f14, kp f15, kp f16, kp f17⟩
              · -- 4
                have d2 := f2 (hd' 2 (by kernel_rfl))
                refine slot_step_yes (j := 2) (d := 17) rfl rfl rfl (by decide) (d2) (fun az hs K hK => ?_)
                have hK : Shut _ := hK
                have e17 := hs.get 17
                rw [d2] at e17
                have e1 := hs.get 1
                rw [r1] at e1
                go_simp
                exact hK.out _ _ ⟨r8, r1, r2, r3, hbz, kp f0, kp f1, kp f2, kp f3, fun _ => rfl, kp f5, kp f6, kp f7, kp f8, kp f9, kp f10, kp f11, kp f12, kp f13, kp f14, kp f15, kp f16, kp f17⟩
              · -- 5
                have d2 := f2 (hd' 2 (by kernel_rfl))
                have d3 := f3 (hd' 3 (by kernel_rfl))
                have d4 := f4 (hd' 4 (by kernel_rfl))
                refine slot_step_yes (j := 2) (d := 17) rfl rfl rfl (by decide) (d2) (fun az hs K hK => ?_)
                have hK : Shut _ := hK
                have e17 := hs.get 17
                rw [d2] at e17
                have e18 := hs.get 18
                rw [d3] at e18
                have e19 := hs.get 19
                rw [d4] at e19
                go_simp
                exact hK.out _ _ ⟨r8, r1, r2, r3, hbz, kp f0, kp f1, kp f2, kp f3, kp f4, fun _ => rfl, kp f6, kp f7, kp f8, kp f9, kp f10, kp f11, kp f12, kp f13, kp f14, kp f15, kp f16, kp f17⟩
              · -- 6
                have d2 := f2 (hd' 2 (by kernel_rfl))
                have d5 := f5 (hd' 5 (by kernel_rfl))
                refine slot_step rfl rfl (fun az hs K hK => ?_)
                have hK : Shut _ := hK
                have e17 := hs.get 17
                rw [d2] at e17
                have e20 := hs.get 20
                rw [d5] at e20
                go_simp
                exact hK.out _ _ ⟨r8, r1, r2, r3, hbz, kp f0, kp f1, kp f2, kp f3, kp f4, kp f5, fun _ => rfl, kp f7, kp f8, kp f9, kp f10, kp f11, kp f12, kp f13, kp f14, kp f15, kp f16, kp f17⟩
              · -- 7
                have d6 := f6 (hd' 6 (by kernel_rfl))
                refine slot_step rfl rfl (fun az hs K hK => ?_)
                have hK : Shut _ := hK
                have e21 := hs.get 21
                rw [d6] at e21
                go_simp
                exact hK.out _ _ ⟨r8, r1, r2, r3, hbz, kp f0, kp f1, kp f2, kp f3, kp f4, kp f5, kp f6, fun _ => rfl, kp f8, kp f9, kp f10, kp f11, kp f12, kp f13, kp f14, kp f15, kp f16, kp f17⟩
              · -- 8
                have d7 := f7 (hd' 7 (by kernel_rfl))
                refine slot_step_yes (j := 7) (d := 22) rfl rfl rfl (by decide) (d7) (fun az hs K hK => ?_)
                have hK : Shut _ := hK
                have cz := (hbz.cell _).trans k2
                have e22 := hs.get 22
                rw [d7] at e22
                have e2 := hs.get 2
                rw [r2] at e2
                go_simp
                exact hK.out _ _ ⟨r8, r1, r2, r3, hbz, kp f0, kp f1, kp f2, kp f3, kp f4, kp f5, kp f6, kp f7, fun _ => rfl, kp f9, kp f10, kp f11, kp f12, kp f13, kp f14, kp f15, kp f16, kp f17⟩
              · -- 9
                have d7 := f7 (hd' 7 (by kernel_rfl))
                refine slot_step_yes (j := 7) (d := 22) rfl rfl rfl (by decide) (d7) (fun az hs K hK => ?_)
                have hK : Shut _ := hK
                have cz := (hbz.cell _).trans k7
                have e22 := hs.get 22
                rw [d7] at e22
                have e3 := hs.get 3
                rw [r3] at e3
                go_simp
                exact hK.out _ _ ⟨r8, r1, r2, r3, hbz, kp f0, kp f1, kp f2, kp f3, kp f4, kp f5, kp f6, kp f7, kp f8, fun _ => rfl, kp f10, kp f11, kp f12, kp f13, kp f14, kp f15, kp f16, kp f17⟩
              · -- 10
                have d7 := f7 (hd' 7 (by kernel_rfl))
                refine slot_step_yes (j := 7) (d := 22) rfl rfl rfl (by decide) (d7) (fun az hs K hK => ?_)
                have hK : Shut _ := hK
                have e22 := hs.get 22
                rw [d7] at e22
                have e8 := hs.get 8
                rw [r8] at e8
                go_simp
                exact hK.out _ _ ⟨r8, r1, r2, r3, hbz, kp f0, kp f1, kp f2, kp f3, kp f4, kp f5, kp f6, kp f7, kp f8, kp f9, fun _ => rfl, kp f11, kp f12, kp f13, kp f14, kp f15, kp f16, kp f17⟩
              · -- 11
                have d7 := f7 (hd' 7 (by kernel_rfl))
                have d10 := f10 (hd' 10 (by kernel_rfl))
                refine slot_step_yes (j := 7) (d := 22) rfl rfl rfl (by decide) (d7) (fun az hs K hK => ?_)
                have hK : Shut _ := hK
                have e22 := hs.get 22
                rw [d7] at e22
                have e25 := hs.get 25
                rw [d10] at e25
                go_wp2_with (go_at_call 84; refine (HV.out wz).mono ?_; rintro e wy ⟨rfl, rfl⟩; have hdr := Dr.refl wz)
                exact ⟨r8, r1, r2, r3, hbz.trans hdr, kp f0, kp f1, kp f2, kp f3, kp f4, kp f5, kp f6, kp f7, kp f8, kp f9, kp f10, fun _ => rfl, kp f12, kp f13, kp f14, kp f15, kp f16, kp f17⟩
              · -- 12
                have d7 := f7 (hd' 7 (by kernel_rfl))
                have d9 := f9 (hd' 9 (by kernel_rfl))
                have d11 := f11 (hd' 11 (by kernel_rfl))
                refine slot_step_yes (j := 7) (d := 22) rfl rfl rfl (by decide) (d7) (fun az hs K hK => ?_)
                have hK : Shut _ := hK
                have e22 := hs.get 22
                rw [d7] at e22
                have e24 := hs.get 24
                rw [d9] at e24
                have e26 := hs.get 26
                rw [d11] at e26
                refine oper_lookupO (keyLaw_int Try.underlying3) mapI zero_int2 (.tmp 24) (.tmp 26) rfl (hm1.out.toO.dr hbz) V (hs.eval d9) (hs.eval d11) ?_
                rw [hget.out]
                exact hK.out _ _ ⟨r8, r1, r2, r3, hbz, kp f0, kp f1, kp f2, kp f3, kp f4, kp f5, kp f6, kp f7, kp f8, kp f9, kp f10, kp f11, fun _ => rfl, kp f13, kp f14, kp f15, kp f16, kp f17⟩
              · -- 13
                have d7 := f7 (hd' 7 (by kernel_rfl))
                have d8 := f8 (hd' 8 (by kernel_rfl))
                have d12 := f12 (hd' 12 (by kernel_rfl))
                refine slot_step_yes (j := 7) (d := 22) rfl rfl rfl (by decide) (d7) (fun az hs K hK => ?_)
                have hK : Shut _ := hK
                have e22 := hs.get 22
                rw [d7] at e22
                have e23 := hs.get 23
                rw [d8] at e23
                have e27 := hs.get 27
                rw [d12] at e27
                go_simp
                exact hK.out _ _ ⟨r8, r1, r2, r3, hbz, kp f0, kp f1, kp f2, kp f3, kp f4, kp f5, kp f6, kp f7, kp f8, kp f9, kp f10, kp f11, kp f12, fun _ => rfl, kp f14, kp f15, kp f16, kp f17⟩
              · -- 14
                have d7 := f7 (hd' 7 (by kernel_rfl))
                have d13 := f13 (hd' 13 (by kernel_rfl))
                refine slot_step_yes (j := 7) (d := 22) rfl rfl rfl (by decide) (d7) (fun az hs K hK => ?_)
                have hK : Shut _ := hK
                have e22 := hs.get 22
                rw [d7] at e22
                have e28 := hs.get 28
                rw [d13] at e28
                go_simp
                exact hK.out _ _ ⟨r8, r1, r2, r3, hbz, kp f0, kp f1, kp f2, kp f3, kp f4, kp f5, kp f6, kp f7, kp f8, kp f9, kp f10, kp f11, kp f12, kp f13, fun _ => rfl, kp f15, kp f16, kp f17⟩
              · -- 15
                have d7 := f7 (hd' 7 (by kernel_rfl))
                have d14 := f14 (hd' 14 (by kernel_rfl))
                refine slot_step_yes (j := 7) (d := 22) rfl rfl rfl (by decide) (d7) (fun az hs K hK => ?_)
                have hK : Shut _ := hK
                have cz := (hbz.cell _).trans c1
                have e22 := hs.get 22
                rw [d7] at e22
                have e29 := hs.get 29
                rw [d14] at e29
                go_simp
                exact hK.out _ _ ⟨r8, r1, r2, r3, hbz, kp f0, kp f1, kp f2, kp f3, kp f4, kp f5, kp f6, kp f7, kp f8, kp f9, kp f10, kp f11, kp f12, kp f13, kp f14, fun _ => rfl, kp f16, kp f17⟩
              · -- 16
                have d7 := f7 (hd' 7 (by kernel_rfl))
                have d15 := f15 (hd' 15 (by kernel_rfl))
                refine slot_step_yes (j := 7) (d := 22) rfl rfl rfl (by decide) (d7) (fun az hs K hK => ?_)
                have hK : Shut _ := hK
                have e22 := hs.get 22
                rw [d7] at e22
                have e30 := hs.get 30
                rw [d15] at e30
                go_simp
                exact hK.out _ _ ⟨r8, r1, r2, r3, hbz, kp f0, kp f1, kp f2, kp f3, kp f4, kp f5, kp f6, kp f7, kp f8, kp f9, kp f10, kp f11, kp f12, kp f13, kp f14, kp f15, fun _ => rfl, kp f17⟩
              · -- 17
                have d7 := f7 (hd' 7 (by kernel_rfl))
                have d16 := f16 (hd' 16 (by kernel_rfl))
                refine slot_step rfl rfl (fun az hs K hK => ?_)
                have hK : Shut _ := hK
                have e22 := hs.get 22
                rw [d7] at e22
                have e31 := hs.get 31
                rw [d16] at e31
                go_simp
                exact hK.out _ _ ⟨r8, r1, r2, r3, hbz, kp f0, kp f1, kp f2, kp f3, kp f4, kp f5, kp f6, kp f7, kp f8, kp f9, kp f10, kp f11, kp f12, kp f13, kp f14, kp f15, kp f16, fun _ => rfl⟩
            case hdone =>
              rintro D g wz hD ⟨r8, r1, r2, r3, hbz, f0, f1, f2, f3, f4, f5, f6, f7, f8, f9, f10, f11, f12, f13, f14, f15, f16, f17⟩
              simp only [setAll, List.foldl_cons, List.foldl_nil, List.setIfInBounds_toArray, List.set_cons_succ, List.set_cons_zero]
              have e32 := f17 (hD 17)
              rw [e32]
              clear f0 f1 f2 f3 f4 f5 f6 f7 f8 f9 f10 f11 f12 f13 f14 f15 f16 f17 e32 hD r8 r1 r2 r3
              obtain ⟨w8, hw8⟩ : ∃ w8, w8 = wz := ⟨_, rfl⟩
              subst hw8
              go_wp2
              go_roundw
              case rel => exact ⟨q + 1, hlt, by go_num, hide ⟨ml2, by rw [hF.out]; exact hmp.out.step (hbz.below _)⟩⟩
              case measure => simp [intOf]; omega
      · have d1 : decide (1 < x) = false := decide_eq_false h1
        have hF := hide (hst.out.trans (put1_no (.inl h1)))
        clear hst hmx
        go_wp2
        refine wp_region_slots [15, 16, 17, 18, 19, 20, 21, 22, 23, 24, 25, 26, 27, 28, 29, 30, 31, 32] (fun D g wz => g 8 = .int .i64 x ∧ g 1 = .int .i64 but ∧ g 2 = .pointer (some ⟨c2, 0, none⟩) ∧ g 3 = .pointer (some ⟨c7, 0, none⟩) ∧ Dr wr wz ∧ (D 0 → g 15 = .int .i64 x) ∧ (D 1 → g 16 = .bool false) ∧ (D 2 → g 17 = .bool false) ∧ (D 3 → g 18 = undef) ∧ (D 4 → g 19 = undef) ∧ (D 5 → g 20 = undef) ∧ (D 6 → g 21 = .bool false) ∧ (D 7 → g 22 = .bool false) ∧ (D 8 → g 23 = undef) ∧ (D 9 → g 24 = undef) ∧ (D 10 → g 25 = undef) ∧ (D 11 → g 26 = undef) ∧ (D 12 → g 27 = undef) ∧ (D 13 → g 28 = undef) ∧ (D 14 → g 29 = undef) ∧ (D 15 → g 30 = undef) ∧ (D 16 → g 31 = undef) ∧ (D 17 → g 32 = .bool false)) (by kernel_rfl) (by kernel_rfl) 36 rfl (by kernel_rfl) ?h0 ?hstep ?hdone
        case h0 => exact ⟨rfl, rfl, rfl, rfl, (Dr.refl wr).drew, nt0, nt0, nt0, nt0, nt0, nt0, nt0, nt0, nt0, nt0, nt0, nt0, nt0, nt0, nt0, nt0, nt0, nt0⟩
        case hstep =>
          intro D g wz i hi' hn hd' hI2
          obtain ⟨r8, r1, r2, r3, hbz, f0, f1, f2, f3, f4, f5, f6, f7, f8, f9, f10, f11, f12, f13, f14, f15, f16, f17⟩ := hI2
          have hi' : i < 18 := hi'
          rcases (show i = 0 ∨ i = 1 ∨ i = 2 ∨ i = 3 ∨ i = 4 ∨ i = 5 ∨ i = 6 ∨ i = 7 ∨ i = 8 ∨ i = 9 ∨ i = 10 ∨ i = 11 ∨ i = 12 ∨ i = 13 ∨ i = 14 ∨ i = 15 ∨ i = 16 ∨ i = 17 by omega) with rfl | rfl | rfl | rfl | rfl | rfl | rfl | rfl | rfl | rfl | rfl | rfl | rfl | rfl | rfl | rfl | rfl | rfl
          · -- 0
            refine slot_step rfl rfl (fun az hs K hK => ?_)
            have hK : Shut _ := hK
            have e8 := hs.get 8
            rw [r8] at e8
            go_simp
            exact hK.out _ _ ⟨r8, r1, r2, r3, hbz, fun _ => rfl, kp f1, kp f2, kp f3, kp f4, kp f5, kp f6, kp f7, kp f8, kp f9, kp f10, kp f11, kp f12, kp f13, kp f14, kp f15, kp f16, kp f17⟩
          · -- 1
            have d0 := f0 (hd' 0 (by kernel_rfl))
            refine slot_step rfl rfl (fun az hs K hK => ?_)
            have hK : Shut _ := hK
            have e15 := hs.get 15
            rw [d0] at e15
            go_simp
            exact hK.out _ _ ⟨r8, r1, r2, r3, hbz, kp f0, fun _ => rfl, kp f2, kp f3, kp f4, kp f5, kp f6, kp f7, kp f8, kp f9, kp f10, kp f11, kp f12, kp f13, kp f14, kp f15, kp f16, kp f17⟩
          · -- 2
            have d1 := f1 (hd' 1 (by kernel_rfl))
            refine slot_step rfl rfl (fun az hs K hK => ?_)
            have hK : Shut _ := hK
            have e16 := hs.get 16
            rw [d1] at e16
            go_simp
            exact hK.out _ _ ⟨r8, r1, r2, r3, hbz, kp f0, kp f1, fun _ => rfl, kp f3, kp f4, kp f5, kp f6, kp f7, kp f8, kp f9, kp f10, kp f11, kp f12, kp f13, kp f14, kp f15, kp f16, kp f17⟩
          · -- 3
            have d2 := f2 (hd' 2 (by kernel_rfl))
            exact slot_step_no (j := 2) (d := 17) rfl rfl rfl (by decide) (d2) ⟨r8, r1, r2, r3, hbz, kp f0, kp f1, kp f2, fun _ => rfl, kp f4, kp f5, kp f6, kp f7, kp f8, kp f9, kp f10, kp f11, kp f12, kp f13, kp f14, kp f15, kp f16, kp f17⟩
          · -- 4
            have d2 := f2 (hd' 2 (by kernel_rfl))
            exact slot_step_no (j := 2) (d := 17) rfl rfl rfl (by decide) (d2) ⟨r8, r1, r2, r3, hbz, kp f0, kp f1, kp f2, kp f3, fun _ => rfl, kp f5, kp f6, kp f7, kp f8, kp f9, kp f10, kp f11, kp f12, kp f13, kp f14, kp f15, kp f16, kp f17⟩
          · -- 5
            have d2 := f2 (hd' 2 (by kernel_rfl))
            exact slot_step_no (j := 2) (d := 17) rfl rfl rfl (by decide) (d2) ⟨r8, r1, r2, r3, hbz, kp f0, kp f1, kp f2, kp f3, kp f4, fun _ => rfl, kp f6, kp f7, kp f8, kp f9, kp f10, kp f11, kp f12, kp f13, kp f14, kp f15, kp f16, kp f17⟩
          · -- 6
            have d2 := f2 (hd' 2 (by kernel_rfl))
            have d5 := f5 (hd' 5 (by kernel_rfl))
            refine slot_step rfl rfl (fun az hs K hK => ?_)
            have hK : Shut _ := hK
            have e17 := hs.get 17
            rw [d2] at e17
            have e20 := hs.get 20
            rw [d5] at e20
            go_simp
            exact hK.out _ _ ⟨r8, r1, r2, r3, hbz, kp f0, kp f1, kp f2, kp f3, kp f4, kp f5, fun _ => rfl, kp f7, kp f8, kp f9, kp f10, kp f11, kp f12, kp f13, kp f14, kp f15, kp f16, kp f17⟩
          · -- 7
            have d6 := f6 (hd' 6 (by kernel_rfl))
            refine slot_step rfl rfl (fun az hs K hK => ?_)
            have hK : Shut _ := hK
            have e21 := hs.get 21
            rw [d6] at e21
            go_simp
            exact hK.out _ _ ⟨r8, r1, r2, r3, hbz, kp f0, kp f1, kp f2, kp f3, kp f4, kp f5, kp f6, fun _ => rfl, kp f8, kp f9, kp f10, kp f11, kp f12, kp f13, kp f14, kp f15, kp f16, kp f17⟩
          · -- 8
            have d7 := f7 (hd' 7 (by kernel_rfl))
            exact slot_step_no (j := 7) (d := 22) rfl rfl rfl (by decide) (d7) ⟨r8, r1, r2, r3, hbz, kp f0, kp f1, kp f2, kp f3, kp f4, kp f5, kp f6, kp f7, fun _ => rfl, kp f9, kp f10, kp f11, kp f12, kp f13, kp f14, kp f15, kp f16, kp f17⟩
          · -- 9
            have d7 := f7 (hd' 7 (by kernel_rfl))
            exact slot_step_no (j := 7) (d := 22) rfl rfl rfl (by decide) (d7) ⟨r8, r1, r2, r3, hbz, kp f0, kp f1, kp f2, kp f3, kp f4, kp f5, kp f6, kp f7, kp f8, fun _ => rfl, kp f10, kp f11, kp f12, kp f13, kp f14, kp f15, kp f16, kp f17⟩
          · -- 10
            have d7 := f7 (hd' 7 (by kernel_rfl))
            exact slot_step_no (j := 7) (d := 22) rfl rfl rfl (by decide) (d7) ⟨r8, r1, r2, r3, hbz, kp f0, kp f1, kp f2, kp f3, kp f4, kp f5, kp f6, kp f7, kp f8, kp f9, fun _ => rfl, kp f11, kp f12, kp f13, kp f14, kp f15, kp f16, kp f17⟩
          · -- 11
            have d7 := f7 (hd' 7 (by kernel_rfl))
            exact slot_step_no (j := 7) (d := 22) rfl rfl rfl (by decide) (d7) ⟨r8, r1, r2, r3, hbz, kp f0, kp f1, kp f2, kp f3, kp f4, kp f5, kp f6, kp f7, kp f8, kp f9, kp f10, fun _ => rfl, kp f12, kp f13, kp f14, kp f15, kp f16, kp f17⟩
          · -- 12
            have d7 := f7 (hd' 7 (by kernel_rfl))
            exact slot_step_no (j := 7) (d := 22) rfl rfl rfl (by decide) (d7) ⟨r8, r1, r2, r3, hbz, kp f0, kp f1, kp f2, kp f3, kp f4, kp f5, kp f6, kp f7, kp f8, kp f9, kp f10, kp f11, fun _ => rfl, kp f13, kp f14, kp f15, kp f16, kp f17⟩
          · -- 13
            have d7 := f7 (hd' 7 (by kernel_rfl))
            exact slot_step_no (j := 7) (d := 22) rfl rfl rfl (by decide) (d7) ⟨r8, r1, r2, r3, hbz, kp f0, kp f1, kp f2, kp f3, kp f4, kp f5, kp f6, kp f7, kp f8, kp f9, kp f10, kp f11, kp f12, fun _ => rfl, kp f14, kp f15, kp f16, kp f17⟩
          · -- 14
            have d7 := f7 (hd' 7 (by kernel_rfl))
            exact slot_step_no (j := 7) (d := 22) rfl rfl rfl (by decide) (d7) ⟨r8, r1, r2, r3, hbz, kp f0, kp f1, kp f2, kp f3, kp f4, kp f5, kp f6, kp f7, kp f8, kp f9, kp f10, kp f11, kp f12, kp f13, fun _ => rfl, kp f15, kp f16, kp f17⟩
          · -- 15
            have d7 := f7 (hd' 7 (by kernel_rfl))
            exact slot_step_no (j := 7) (d := 22) rfl rfl rfl (by decide) (d7) ⟨r8, r1, r2, r3, hbz, kp f0, kp f1, kp f2, kp f3, kp f4, kp f5, kp f6, kp f7, kp f8, kp f9, kp f10, kp f11, kp f12, kp f13, kp f14, fun _ => rfl, kp f16, kp f17⟩
          · -- 16
            have d7 := f7 (hd' 7 (by kernel_rfl))
            exact slot_step_no (j := 7) (d := 22) rfl rfl rfl (by decide) (d7) ⟨r8, r1, r2, r3, hbz, kp f0, kp f1, kp f2, kp f3, kp f4, kp f5, kp f6, kp f7, kp f8, kp f9, kp f10, kp f11, kp f12, kp f13, kp f14, kp f15, fun _ => rfl, kp f17⟩
          · -- 17
            have d7 := f7 (hd' 7 (by kernel_rfl))
            have d16 := f16 (hd' 16 (by kernel_rfl))
            refine slot_step rfl rfl (fun az hs K hK => ?_)
            have hK : Shut _ := hK
            have e22 := hs.get 22
            rw [d7] at e22
            have e31 := hs.get 31
            rw [d16] at e31
            go_simp
            exact hK.out _ _ ⟨r8, r1, r2, r3, hbz, kp f0, kp f1, kp f2, kp f3, kp f4, kp f5, kp f6, kp f7, kp f8, kp f9, kp f10, kp f11, kp f12, kp f13, kp f14, kp f15, kp f16, fun _ => rfl⟩
        case hdone =>
          rintro D g wz hD ⟨r8, r1, r2, r3, hbz, f0, f1, f2, f3, f4, f5, f6, f7, f8, f9, f10, f11, f12, f13, f14, f15, f16, f17⟩
          simp only [setAll, List.foldl_cons, List.foldl_nil, List.setIfInBounds_toArray, List.set_cons_succ, List.set_cons_zero]
          have e32 := f17 (hD 17)
          rw [e32]
          clear f0 f1 f2 f3 f4 f5 f6 f7 f8 f9 f10 f11 f12 f13 f14 f15 f16 f17 e32 hD r8 r1 r2 r3
          obtain ⟨w8, hw8⟩ : ∃ w8, w8 = wz := ⟨_, rfl⟩
          subst hw8
          go_wp2
          go_roundw
          case rel => exact ⟨q + 1, hlt, by go_num, hide ⟨ml2, by rw [hF.out]; exact hmp.out.step (hbz.below _)⟩⟩
          case measure => simp [intOf]; omega
    · have hkq : k = q := by omega
      subst hkq
      have hfull : more.take k = more := by rw [← hml.out, List.take_length]
      rw [hfull] at hmp
      clear hfull
      go_wp2
      go_end0
      exact ⟨⟨_, rfl⟩, hmp.out⟩
end Go.Proofs.Ytcjoohaagdihlaa.Learn
