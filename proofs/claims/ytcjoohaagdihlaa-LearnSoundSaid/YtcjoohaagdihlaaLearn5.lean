/- The program's Good of steps. -/
import Derived.Test.YtcjoohaagdihlaaLearn4
import Derived.Test.YtcjoohaagdihlaaStore8
namespace Go.Proofs.Ytcjoohaagdihlaa.Learn
open Go.RowKit Go.Lt Go.Proofs.Ytcjoohaagdihlaa.Lit Go.Proofs.Ytcjoohaagdihlaa.Sorted Go.Instr
open Go.Proofs.Ytcjoohaagdihlaa.Kept (Sl Sl.val addr_off)
set_option linter.unusedVariables false
set_option linter.unusedSimpArgs false

theorem store_func (P : Program) (w : World) (a : Addr) (m : Mode) (f : Fn) (s c : Array Value) : (store a (.func f s c) m).run P w = stored P w a (.func f s c) m := run_store P w a _ m rfl
abbrev wrongF (N : Nat) : Value := .func (.func 91) #[] #[.pointer (some ⟨N + 1, 0, none⟩)]
/-- what is known between the rounds -/
structure Gd (w : World) (pre : List St) (ml : List (Int × Value)) (W : World) : Prop where
  bel : Below w.heap.size w W
  map : MapS W encI w.heap.size ml
  so : SoIs pre ml
  c5 : Blk W (w.heap.size + 1) 108 #[.map (some w.heap.size)]
  c6 : Blk W (w.heap.size + 2) 52 #[wrongF w.heap.size]
theorem Gd.step {w W W' : World} {pre : List St} {ml : List (Int × Value)} (h : Gd w pre ml W) (hb : Below W.heap.size W W') : Gd w pre ml W' :=
  ⟨h.bel.trans (hb.mono h.bel.size), h.map.below hb h.map.lt, h.so, h.c5.below hb h.c5.lt, h.c6.below hb h.c6.lt⟩
theorem Gd.put {w W W' : World} {pre pre' : List St} {ml ml' : List (Int × Value)} {s : St} (h : Gd w pre ml W) (hm : MapS W' encI w.heap.size ml') (hf : Fr (fun q => q = w.heap.size) W W') (hs : SoIs (pre ++ [s]) ml') (he : pre' = pre ++ [s]) : Gd w pre' ml' W' :=
  ⟨h.bel.trans (hf.below h.bel.size (fun k h => by rw [h]; exact Nat.le_refl _)), hm, he ▸ hs, hf.blk h.c5 (by omega), hf.blk h.c6 (by omega)⟩
theorem lvar_lt {lt : Int} : litVar lt < 1 ↔ ¬ (2 ≤ lt ∧ lt ≤ 33554433) := by
  unfold litVar
  cases hg : litGood lt with
  | false => have := bad_iff.1 hg; simp; omega
  | true => have := good_iff.1 hg; simp; omega
theorem any_zero {pre : List St} (hl : ∀ s ∈ pre, 2 ≤ s.lit ∧ s.lit ≤ 33554433) (bad : List Int) : (bad.any fun x => !soB pre (litNot x)) = false ↔ ∀ x ∈ bad, zeroB pre x = true := by
  rw [List.any_eq_false]
  constructor
  · intro h x hx; have := h x hx; rw [so_zero hl] at this; simpa using this
  · intro h x hx; rw [so_zero hl, h x hx]; simp
theorem any_why {pre : List St} (hl : ∀ s ∈ pre, 2 ≤ s.lit ∧ s.lit ≤ 33554433) (s : St) (why : List Int) : (why.any fun x => decide (x ≠ s.lit) && !soB pre (litNot x)) = false ↔ ∀ x ∈ why, whyB pre s x = true := by
  rw [List.any_eq_false]
  constructor
  · intro h x hx
    have := h x hx
    rw [so_zero hl] at this
    unfold whyB
    by_cases hxl : x = s.lit <;> simp [hxl] at this ⊢; exact this
  · intro h x hx
    have := h x hx
    rw [so_zero hl]
    unfold whyB at this
    by_cases hxl : x = s.lit <;> simp [hxl] at this ⊢; exact this
theorem bad_of {l : List St} {bad : List Int} (hk : OkTo l l.length) (h : (bad.any fun x => !soB l (litNot x)) = true) : goodB l bad = false := goodB_no fun hg => by
  have hl : ∀ s ∈ l, 2 ≤ s.lit ∧ s.lit ≤ 33554433 := fun s hs => hk.lits (Nat.le_refl _) s (by rw [List.take_length]; exact hs)
  have := (any_zero hl bad).2 hg.2
  rw [h] at this; cases this
theorem good_of2 {l : List St} {bad : List Int} (hk : OkTo l l.length) (h : (bad.any fun x => !soB l (litNot x)) = false) : goodB l bad = true := goodB_yes ⟨hk, by
  have hl : ∀ s ∈ l, 2 ≤ s.lit ∧ s.lit ≤ 33554433 := fun s hs => hk.lits (Nat.le_refl _) s (by rw [List.take_length]; exact hs)
  exact (any_zero hl bad).1 h⟩
theorem has_isL {A : Option Addr} {n c : Nat} {l : List Int} {x : Int} {b : Bool} (h : hasB l x = b) (hn : n ≤ 1000000) (W : World) (hr : Rd W A n (ivs l)) :
    Calls Try.prog 92 #[.slice A n c, .int .i64 x] W fun e w' => e = .returned (.bool b) ∧ W = w' := by
  subst h; exact lit_Has A n c l x W hn hr
set_option maxRecDepth 20000 in
set_option maxHeartbeats 4000000 in
theorem learn_Good (A : Option Addr) (n c : Nat) (l : List St) (B : Option Addr) (m cb : Nat) (bad : List Int) (w : World) (hn : n ≤ 1000) (hr : RdT w A n l) (hw : ∀ s ∈ l, s.why.length ≤ 1000) (hm : m ≤ 1000) (hrb : Rd w B m (ivs bad)) :
    Calls Try.prog 30 #[.slice A n c, .slice B m cb] w fun e w' => e = .returned (.bool (goodB l bad)) ∧ Below w.heap.size w w' := by
  have hnI : (n : Int) ≤ 1000 := by omega
  have hmI : (m : Int) ≤ 1000 := by omega
  have hll := hide hr.1
  replace hw := hide hw
  have hmm := @run_makeMap Try.prog
  have hsf := store_func Try.prog
  go_enter Try.func30, Try.ntmps30
  go_wp2_with (first | (refine wpList_insertS (keyLaw_int Try.underlying3) mapB rfl _ _ _ rfl (MapS.made w encI) 1 (.bool true) (by rfl) (by rfl) (by rfl) ?_; intro w1 hm1 hg1 hz1))
  have hz2 : w1.heap.size = w.heap.size + 1 := by rw [hz1]; simp
  have hb1 : Below w.heap.size w w1 := ((Below.refl w.heap.size w).alloc (Nat.le_refl _) _).grown hg1 (by simp) (fun k e => by cases e; exact Nat.le_refl _)
  have hG0 := hide (show Gd w [] (mput [] 1 (.bool true)) ((w1.alloc (.cells #[.map (some w.heap.size)] 108)).alloc (.cells #[wrongF w.heap.size] 52)) from
    ⟨(hb1.alloc hb1.size _).alloc (by have := hb1.size; simp; omega) _, (hm1.alloc _).alloc _, so_nil, by have := (Blk.new w1 108 #[.map (some w.heap.size)]).alloc (.cells #[wrongF w.heap.size] 52); rw [hz2] at this; exact this, by have := Blk.new (w1.alloc (.cells #[.map (some w.heap.size)] 108)) 52 #[wrongF w.heap.size]; simp only [World.size_alloc, hz2] at this; exact this⟩)
  clear hm1 hg1 hb1 hmm
  go_loopw [7, 16] (fun v i wr => ∃ (k : Nat) (ml : List (Int × Value)), k ≤ n ∧ i = .int .i64 k ∧ v = .int .i64 (lvl l k) ∧ Hid (OkTo l k) ∧ Hid (Gd w (l.take k) ml wr)) (fun _ i _ => n - (intOf i).toNat)
  case atStart => exact ⟨0, _, Nat.zero_le _, rfl, rfl, hide (fun i hi => absurd hi (Nat.not_lt_zero _)), hG0⟩
  case round =>
    obtain ⟨k, ml, hk, rfl, rfl, hok, hG⟩ := hrel
    clear hz1 hz2
    have hkI : (k : Int) ≤ 1000 := by omega
    by_cases hlt : k < n
    · have hltI : (k : Int) < n := by omega
      obtain ⟨ad, s, z, rfl, hB, hs, c0, c1, c2, hwy⟩ := hr.get hlt
      have c0 := keepCell hG.out.bel c0
      have c1 := keepCell hG.out.bel c1
      have c2 := keepCell hG.out.bel c2
      have hkl : k < l.length := by rw [hll.out]; exact hlt
      have hst := hide (stAt_is hs)
      have hbad := hide (fun h => bad_step (bad := bad) hkl h)
      have hnext := hide (fun h => OkTo.succ hok.out h)
      have hlev := hide (show lvl l (k + 1) = s.lev by show (stAt l k).lev = _; rw [hst.out])
      rw [hst.out] at hbad hnext
      have hwl : z.n ≤ 1000 := by have := hw.out s (List.mem_of_getElem? hs); have h2 := hwy.len; omega
      have hlits := hide (hok.out.lits (Nat.le_of_lt hkl))
      obtain ⟨pre, hpre⟩ : ∃ pre, l.take k = pre := ⟨_, rfl⟩
      rw [hpre] at hbad hnext hlits hG
      replace hpre := hide hpre
      obtain ⟨LV, hLV⟩ : ∃ LV, lvl l k = LV := ⟨_, rfl⟩
      rw [hLV] at hbad hnext ⊢
      obtain ⟨lt, lv, wy⟩ := s
      obtain ⟨zA, zn, zc⟩ := z
      simp only [Sl.val] at c0 c1 c2 hwy hlev hwl
      have hwz : Hid (zn = 0 ↔ wy = []) := hide (by rw [← hwy.len]; exact List.length_eq_zero_iff)
      have hbs := (Below.refl wr.heap.size wr).alloc (Nat.le_refl _) (.cells #[.int .i64 lt, .int .i64 lv, .slice zA zn zc] 106)
      have bX := Blk.new wr 106 #[.int .i64 lt, .int .i64 lv, .slice zA zn zc]
      obtain ⟨W1, hW1⟩ : ∃ W1, wr.alloc (.cells #[.int .i64 lt, .int .i64 lv, .slice zA zn zc] 106) = W1 := ⟨_, rfl⟩
      rw [hW1] at hbs bX
      have hG1 := hide (hG.out.step hbs)
      have hc9w : w.heap.size + 3 ≤ wr.heap.size := by have := hG.out.c6.lt; omega
      obtain ⟨c9, hc9⟩ : ∃ c9, wr.heap.size = c9 := ⟨_, rfl⟩
      rw [hc9] at bX hc9w
      have b0 : W1.cell? ⟨c9, 0, none⟩ = some (.int .i64 lt) := bX.cell 0
      have b1 : W1.cell? ⟨c9, 1, none⟩ = some (.int .i64 lv) := bX.cell 1
      have b2 : W1.cell? ⟨c9, 2, none⟩ = some (.slice zA zn zc) := bX.cell 2
      have k5 : W1.cell? ⟨w.heap.size + 1, 0, none⟩ = some (.map (some w.heap.size)) := hG1.out.c5.cell 0
      have hmap := hide hG1.out.map
      have hbx := hide hG1.out.bel
      have hwy1 := hide (hwy.below hbx.out (Nat.le_refl _))
      obtain ⟨V, hV⟩ : ∃ V, litVar lt = V := ⟨_, rfl⟩
      have HV := hide (fun W => lit_Var lt W)
      rw [hV] at HV
      clear hs hLV bX hbs hG hwy
      by_cases h1 : 2 ≤ lt ∧ lt ≤ 33554433
      · have hV1 : ¬ V < 1 := by rw [← hV, lvar_lt]; exact fun h => h h1
        have hVd : decide (V < 1) = false := decide_eq_false hV1
        have hh2 := hide h1.1
        have hh3 := hide h1.2
        have hnew := hide (so_new hlits.out h1.1 h1.2)
        obtain ⟨b2', hb2⟩ : ∃ b, soB pre lt = b := ⟨_, rfl⟩
        have hlk1 := hide (hG1.out.so lt)
        rw [hb2] at hlk1 hnew
        clear h1 hV
        cases b2' with
        | true =>
          have hF := hide (hbad.out (fun h => by have := (hnew.out.1 h.new).1; cases this))
          clear hbad hnext hnew hb2
          go_wp2
          refine wp_region_slots [25, 26, 27, 28, 29, 30, 31, 32, 33, 34, 35, 36, 37, 38, 39, 40, 41, 24] (fun D g wz => g 9 = .pointer (some ⟨c9, 0, none⟩) ∧ g 5 = .pointer (some ⟨w.heap.size + 1, 0, none⟩) ∧ Dr W1 wz ∧ (D 0 → g 25 = .pointer (some ⟨c9, 0, none⟩)) ∧ (D 1 → g 26 = .int .i64 lt) ∧ (D 2 → g 27 = .int .i64 V) ∧ (D 3 → g 28 = .bool false) ∧ (D 4 → g 29 = .bool false) ∧ (D 5 → g 30 = .map (some w.heap.size)) ∧ (D 6 → g 31 = .pointer (some ⟨c9, 0, none⟩)) ∧ (D 7 → g 32 = .int .i64 lt) ∧ (D 8 → g 33 = .bool true) ∧ (D 9 → g 34 = .bool true) ∧ (D 10 → g 35 = .bool true) ∧ (D 11 → g 36 = undef) ∧ (D 12 → g 37 = undef) ∧ (D 13 → g 38 = undef) ∧ (D 14 → g 39 = undef) ∧ (D 15 → g 40 = undef) ∧ (D 16 → g 41 = .bool true) ∧ (D 17 → g 24 = .bool true)) (by kernel_rfl) (by kernel_rfl) 82 rfl (by kernel_rfl) ?h0 ?hstep ?hdone
          case h0 => exact ⟨rfl, rfl, (Dr.refl W1).drew, nt0, nt0, nt0, nt0, nt0, nt0, nt0, nt0, nt0, nt0, nt0, nt0, nt0, nt0, nt0, nt0, nt0, nt0⟩
          case hstep =>
            intro D g wz i hi' hn hd' hI2
            obtain ⟨r9, r5, hbz, f0, f1, f2, f3, f4, f5, f6, f7, f8, f9, f10, f11, f12, f13, f14, f15, f16, f17⟩ := hI2
            have hi' : i < 18 := hi'
            rcases (show i = 0 ∨ i = 1 ∨ i = 2 ∨ i = 3 ∨ i = 4 ∨ i = 5 ∨ i = 6 ∨ i = 7 ∨ i = 8 ∨ i = 9 ∨ i = 10 ∨ i = 11 ∨ i = 12 ∨ i = 13 ∨ i = 14 ∨ i = 15 ∨ i = 16 ∨ i = 17 by omega) with rfl | rfl | rfl | rfl | rfl | rfl | rfl | rfl | rfl | rfl | rfl | rfl | rfl | rfl | rfl | rfl | rfl | rfl
            · -- 0
              refine slot_step rfl rfl (fun az hs K hK => ?_)
              have hK : Shut _ := hK
              have e9 := hs.get 9
              rw [r9] at e9
              go_simp
              exact hK.out _ _ ⟨r9, r5, hbz, fun _ => rfl, kp f1, kp f2, kp f3, kp f4, kp f5, kp f6, kp f7, kp f8, kp f9, kp f10, kp f11, kp f12, kp f13, kp f14, kp f15, kp f16, kp f17⟩
            · -- 1
              have d0 := f0 (hd' 0 (by kernel_rfl))
              refine slot_step rfl rfl (fun az hs K hK => ?_)
              have hK : Shut _ := hK
              have cz := (hbz.cell _).trans b0
              have e25 := hs.get 25
              rw [d0] at e25
              go_simp
              exact hK.out _ _ ⟨r9, r5, hbz, kp f0, fun _ => rfl, kp f2, kp f3, kp f4, kp f5, kp f6, kp f7, kp f8, kp f9, kp f10, kp f11, kp f12, kp f13, kp f14, kp f15, kp f16, kp f17⟩
            · -- 2
              have d1 := f1 (hd' 1 (by kernel_rfl))
              refine slot_step rfl rfl (fun az hs K hK => ?_)
              have hK : Shut _ := hK
              have e26 := hs.get 26
              rw [d1] at e26
              go_wp2_with (go_at_call 84; refine (HV.out wz).mono ?_; rintro e wy ⟨rfl, rfl⟩; have hdr := Dr.refl wz)
              exact ⟨r9, r5, hbz.trans hdr, kp f0, kp f1, fun _ => rfl, kp f3, kp f4, kp f5, kp f6, kp f7, kp f8, kp f9, kp f10, kp f11, kp f12, kp f13, kp f14, kp f15, kp f16, kp f17⟩
            · -- 3
              have d2 := f2 (hd' 2 (by kernel_rfl))
              refine slot_step rfl rfl (fun az hs K hK => ?_)
              have hK : Shut _ := hK
              have e27 := hs.get 27
              rw [d2] at e27
              go_simp
              exact hK.out _ _ ⟨r9, r5, hbz, kp f0, kp f1, kp f2, fun _ => rfl, kp f4, kp f5, kp f6, kp f7, kp f8, kp f9, kp f10, kp f11, kp f12, kp f13, kp f14, kp f15, kp f16, kp f17⟩
            · -- 4
              have d3 := f3 (hd' 3 (by kernel_rfl))
              refine slot_step rfl rfl (fun az hs K hK => ?_)
              have hK : Shut _ := hK
              have e28 := hs.get 28
              rw [d3] at e28
              go_simp
              exact hK.out _ _ ⟨r9, r5, hbz, kp f0, kp f1, kp f2, kp f3, fun _ => rfl, kp f5, kp f6, kp f7, kp f8, kp f9, kp f10, kp f11, kp f12, kp f13, kp f14, kp f15, kp f16, kp f17⟩
            · -- 5
              have d4 := f4 (hd' 4 (by kernel_rfl))
              refine slot_step_yes (j := 4) (d := 29) rfl rfl rfl (by decide) (d4) (fun az hs K hK => ?_)
              have hK : Shut _ := hK
              have cz := (hbz.cell _).trans k5
              have e29 := hs.get 29
              rw [d4] at e29
              have e5 := hs.get 5
              rw [r5] at e5
              go_simp
              exact hK.out _ _ ⟨r9, r5, hbz, kp f0, kp f1, kp f2, kp f3, kp f4, fun _ => rfl, kp f6, kp f7, kp f8, kp f9, kp f10, kp f11, kp f12, kp f13, kp f14, kp f15, kp f16, kp f17⟩
            · -- 6
              have d4 := f4 (hd' 4 (by kernel_rfl))
              refine slot_step_yes (j := 4) (d := 29) rfl rfl rfl (by decide) (d4) (fun az hs K hK => ?_)
              have hK : Shut _ := hK
              have e29 := hs.get 29
              rw [d4] at e29
              have e9 := hs.get 9
              rw [r9] at e9
              go_simp
              exact hK.out _ _ ⟨r9, r5, hbz, kp f0, kp f1, kp f2, kp f3, kp f4, kp f5, fun _ => rfl, kp f7, kp f8, kp f9, kp f10, kp f11, kp f12, kp f13, kp f14, kp f15, kp f16, kp f17⟩
            · -- 7
              have d4 := f4 (hd' 4 (by kernel_rfl))
              have d6 := f6 (hd' 6 (by kernel_rfl))
              refine slot_step_yes (j := 4) (d := 29) rfl rfl rfl (by decide) (d4) (fun az hs K hK => ?_)
              have hK : Shut _ := hK
              have cz := (hbz.cell _).trans b0
              have e29 := hs.get 29
              rw [d4] at e29
              have e31 := hs.get 31
              rw [d6] at e31
              go_simp
              exact hK.out _ _ ⟨r9, r5, hbz, kp f0, kp f1, kp f2, kp f3, kp f4, kp f5, kp f6, fun _ => rfl, kp f8, kp f9, kp f10, kp f11, kp f12, kp f13, kp f14, kp f15, kp f16, kp f17⟩
            · -- 8
              have d4 := f4 (hd' 4 (by kernel_rfl))
              have d5 := f5 (hd' 5 (by kernel_rfl))
              have d7 := f7 (hd' 7 (by kernel_rfl))
              refine slot_step_yes (j := 4) (d := 29) rfl rfl rfl (by decide) (d4) (fun az hs K hK => ?_)
              have hK : Shut _ := hK
              have e29 := hs.get 29
              rw [d4] at e29
              have e30 := hs.get 30
              rw [d5] at e30
              have e32 := hs.get 32
              rw [d7] at e32
              refine oper_lookupO (keyLaw_int Try.underlying3) mapB zero_bool (.tmp 30) (.tmp 32) rfl (hmap.out.toO.dr hbz) lt (hs.eval d5) (hs.eval d7) ?_
              rw [hlk1.out]
              exact hK.out _ _ ⟨r9, r5, hbz, kp f0, kp f1, kp f2, kp f3, kp f4, kp f5, kp f6, kp f7, fun _ => rfl, kp f9, kp f10, kp f11, kp f12, kp f13, kp f14, kp f15, kp f16, kp f17⟩
            · -- 9
              have d4 := f4 (hd' 4 (by kernel_rfl))
              have d8 := f8 (hd' 8 (by kernel_rfl))
              refine slot_step rfl rfl (fun az hs K hK => ?_)
              have hK : Shut _ := hK
              have e29 := hs.get 29
              rw [d4] at e29
              have e33 := hs.get 33
              rw [d8] at e33
              go_simp
              exact hK.out _ _ ⟨r9, r5, hbz, kp f0, kp f1, kp f2, kp f3, kp f4, kp f5, kp f6, kp f7, kp f8, fun _ => rfl, kp f10, kp f11, kp f12, kp f13, kp f14, kp f15, kp f16, kp f17⟩
            · -- 10
              have d9 := f9 (hd' 9 (by kernel_rfl))
              refine slot_step rfl rfl (fun az hs K hK => ?_)
              have hK : Shut _ := hK
              have e34 := hs.get 34
              rw [d9] at e34
              go_simp
              exact hK.out _ _ ⟨r9, r5, hbz, kp f0, kp f1, kp f2, kp f3, kp f4, kp f5, kp f6, kp f7, kp f8, kp f9, fun _ => rfl, kp f11, kp f12, kp f13, kp f14, kp f15, kp f16, kp f17⟩
            · -- 11
              have d10 := f10 (hd' 10 (by kernel_rfl))
              exact slot_step_no (j := 10) (d := 35) rfl rfl rfl (by decide) (d10) ⟨r9, r5, hbz, kp f0, kp f1, kp f2, kp f3, kp f4, kp f5, kp f6, kp f7, kp f8, kp f9, kp f10, fun _ => rfl, kp f12, kp f13, kp f14, kp f15, kp f16, kp f17⟩
            · -- 12
              have d10 := f10 (hd' 10 (by kernel_rfl))
              exact slot_step_no (j := 10) (d := 35) rfl rfl rfl (by decide) (d10) ⟨r9, r5, hbz, kp f0, kp f1, kp f2, kp f3, kp f4, kp f5, kp f6, kp f7, kp f8, kp f9, kp f10, kp f11, fun _ => rfl, kp f13, kp f14, kp f15, kp f16, kp f17⟩
            · -- 13
              have d10 := f10 (hd' 10 (by kernel_rfl))
              exact slot_step_no (j := 10) (d := 35) rfl rfl rfl (by decide) (d10) ⟨r9, r5, hbz, kp f0, kp f1, kp f2, kp f3, kp f4, kp f5, kp f6, kp f7, kp f8, kp f9, kp f10, kp f11, kp f12, fun _ => rfl, kp f14, kp f15, kp f16, kp f17⟩
            · -- 14
              have d10 := f10 (hd' 10 (by kernel_rfl))
              exact slot_step_no (j := 10) (d := 35) rfl rfl rfl (by decide) (d10) ⟨r9, r5, hbz, kp f0, kp f1, kp f2, kp f3, kp f4, kp f5, kp f6, kp f7, kp f8, kp f9, kp f10, kp f11, kp f12, kp f13, fun _ => rfl, kp f15, kp f16, kp f17⟩
            · -- 15
              have d10 := f10 (hd' 10 (by kernel_rfl))
              exact slot_step_no (j := 10) (d := 35) rfl rfl rfl (by decide) (d10) ⟨r9, r5, hbz, kp f0, kp f1, kp f2, kp f3, kp f4, kp f5, kp f6, kp f7, kp f8, kp f9, kp f10, kp f11, kp f12, kp f13, kp f14, fun _ => rfl, kp f16, kp f17⟩
            · -- 16
              have d10 := f10 (hd' 10 (by kernel_rfl))
              have d15 := f15 (hd' 15 (by kernel_rfl))
              refine slot_step rfl rfl (fun az hs K hK => ?_)
              have hK : Shut _ := hK
              have e35 := hs.get 35
              rw [d10] at e35
              have e40 := hs.get 40
              rw [d15] at e40
              go_simp
              exact hK.out _ _ ⟨r9, r5, hbz, kp f0, kp f1, kp f2, kp f3, kp f4, kp f5, kp f6, kp f7, kp f8, kp f9, kp f10, kp f11, kp f12, kp f13, kp f14, kp f15, fun _ => rfl, kp f17⟩
            · -- 17
              have d16 := f16 (hd' 16 (by kernel_rfl))
              refine slot_step rfl rfl (fun az hs K hK => ?_)
              have hK : Shut _ := hK
              have e41 := hs.get 41
              rw [d16] at e41
              go_simp
              exact hK.out _ _ ⟨r9, r5, hbz, kp f0, kp f1, kp f2, kp f3, kp f4, kp f5, kp f6, kp f7, kp f8, kp f9, kp f10, kp f11, kp f12, kp f13, kp f14, kp f15, kp f16, fun _ => rfl⟩
          case hdone =>
            rintro D g wz hD ⟨r9, r5, hbz, f0, f1, f2, f3, f4, f5, f6, f7, f8, f9, f10, f11, f12, f13, f14, f15, f16, f17⟩
            simp only [setAll, List.foldl_cons, List.foldl_nil, List.setIfInBounds_toArray, List.set_cons_succ, List.set_cons_zero]
            have e24 := f17 (hD 17)
            rw [e24]
            clear f0 f1 f2 f3 f4 f5 f6 f7 f8 f9 f10 f11 f12 f13 f14 f15 f16 f17 e24 hD r9 r5
            go_wp2
            go_ret
            exact ⟨ret_bool hF.out.symm, hbx.out.trans ((hbz.below _).mono hbx.out.size)⟩
        | false =>
          obtain ⟨LN, hLN⟩ : ∃ LN, litNot lt = LN := ⟨_, rfl⟩
          have HNt := hide (fun W => lit_Not lt W)
          rw [hLN] at HNt hnew
          obtain ⟨b3, hb3⟩ : ∃ b, soB pre LN = b := ⟨_, rfl⟩
          have hlk2 := hide (hG1.out.so LN)
          rw [hb3] at hlk2 hnew
          clear hLN hb2
          go_wp2
          refine wp_region_slots [25, 26, 27, 28, 29, 30, 31, 32, 33, 34, 35, 36, 37, 38, 39, 40, 41, 24] (fun D g wz => g 9 = .pointer (some ⟨c9, 0, none⟩) ∧ g 5 = .pointer (some ⟨w.heap.size + 1, 0, none⟩) ∧ Dr W1 wz ∧ (D 0 → g 25 = .pointer (some ⟨c9, 0, none⟩)) ∧ (D 1 → g 26 = .int .i64 lt) ∧ (D 2 → g 27 = .int .i64 V) ∧ (D 3 → g 28 = .bool false) ∧ (D 4 → g 29 = .bool false) ∧ (D 5 → g 30 = .map (some w.heap.size)) ∧ (D 6 → g 31 = .pointer (some ⟨c9, 0, none⟩)) ∧ (D 7 → g 32 = .int .i64 lt) ∧ (D 8 → g 33 = .bool false) ∧ (D 9 → g 34 = .bool false) ∧ (D 10 → g 35 = .bool false) ∧ (D 11 → g 36 = .map (some w.heap.size)) ∧ (D 12 → g 37 = .pointer (some ⟨c9, 0, none⟩)) ∧ (D 13 → g 38 = .int .i64 lt) ∧ (D 14 → g 39 = .int .i64 LN) ∧ (D 15 → g 40 = .bool b3) ∧ (D 16 → g 41 = .bool b3) ∧ (D 17 → g 24 = .bool b3)) (by kernel_rfl) (by kernel_rfl) 82 rfl (by kernel_rfl) ?h0 ?hstep ?hdone
          case h0 => exact ⟨rfl, rfl, (Dr.refl W1).drew, nt0, nt0, nt0, nt0, nt0, nt0, nt0, nt0, nt0, nt0, nt0, nt0, nt0, nt0, nt0, nt0, nt0, nt0⟩
          case hstep =>
            intro D g wz i hi' hn hd' hI2
            obtain ⟨r9, r5, hbz, f0, f1, f2, f3, f4, f5, f6, f7, f8, f9, f10, f11, f12, f13, f14, f15, f16, f17⟩ := hI2
            have hi' : i < 18 := hi'
            rcases (show i = 0 ∨ i = 1 ∨ i = 2 ∨ i = 3 ∨ i = 4 ∨ i = 5 ∨ i = 6 ∨ i = 7 ∨ i = 8 ∨ i = 9 ∨ i = 10 ∨ i = 11 ∨ i = 12 ∨ i = 13 ∨ i = 14 ∨ i = 15 ∨ i = 16 ∨ i = 17 by omega) with rfl | rfl | rfl | rfl | rfl | rfl | rfl | rfl | rfl | rfl | rfl | rfl | rfl | rfl | rfl | rfl | rfl | rfl
            · -- 0
              refine slot_step rfl rfl (fun az hs K hK => ?_)
              have hK : Shut _ := hK
              have e9 := hs.get 9
              rw [r9] at e9
              go_simp
              exact hK.out _ _ ⟨r9, r5, hbz, fun _ => rfl, kp f1, kp f2, kp f3, kp f4, kp f5, kp f6, kp f7, kp f8, kp f9, kp f10, kp f11, kp f12, kp f13, kp f14, kp f15, kp f16, kp f17⟩
            · -- 1
              have d0 := f0 (hd' 0 (by kernel_rfl))
              refine slot_step rfl rfl (fun az hs K hK => ?_)
              have hK : Shut _ := hK
              have cz := (hbz.cell _).trans b0
              have e25 := hs.get 25
              rw [d0] at e25
              go_simp
              exact hK.out _ _ ⟨r9, r5, hbz, kp f0, fun _ => rfl, kp f2, kp f3, kp f4, kp f5, kp f6, kp f7, kp f8, kp f9, kp f10, kp f11, kp f12, kp f13, kp f14, kp f15, kp f16, kp f17⟩
            · -- 2
              have d1 := f1 (hd' 1 (by kernel_rfl))
              refine slot_step rfl rfl (fun az hs K hK => ?_)
              have hK : Shut _ := hK
              have e26 := hs.get 26
              rw [d1] at e26
              go_wp2_with (go_at_call 84; refine (HV.out wz).mono ?_; rintro e wy ⟨rfl, rfl⟩; have hdr := Dr.refl wz)
              exact ⟨r9, r5, hbz.trans hdr, kp f0, kp f1, fun _ => rfl, kp f3, kp f4, kp f5, kp f6, kp f7, kp f8, kp f9, kp f10, kp f11, kp f12, kp f13, kp f14, kp f15, kp f16, kp f17⟩
            · -- 3
              have d2 := f2 (hd' 2 (by kernel_rfl))
              refine slot_step rfl rfl (fun az hs K hK => ?_)
              have hK : Shut _ := hK
              have e27 := hs.get 27
              rw [d2] at e27
              go_simp
              exact hK.out _ _ ⟨r9, r5, hbz, kp f0, kp f1, kp f2, fun _ => rfl, kp f4, kp f5, kp f6, kp f7, kp f8, kp f9, kp f10, kp f11, kp f12, kp f13, kp f14, kp f15, kp f16, kp f17⟩
            · -- 4
              have d3 := f3 (hd' 3 (by kernel_rfl))
              refine slot_step rfl rfl (fun az hs K hK => ?_)
              have hK : Shut _ := hK
              have e28 := hs.get 28
              rw [d3] at e28
              go_simp
              exact hK.out _ _ ⟨r9, r5, hbz, kp f0, kp f1, kp f2, kp f3, fun _ => rfl, kp f5, kp f6, kp f7, kp f8, kp f9, kp f10, kp f11, kp f12, kp f13, kp f14, kp f15, kp f16, kp f17⟩
            · -- 5
              have d4 := f4 (hd' 4 (by kernel_rfl))
              refine slot_step_yes (j := 4) (d := 29) rfl rfl rfl (by decide) (d4) (fun az hs K hK => ?_)
              have hK : Shut _ := hK
              have cz := (hbz.cell _).trans k5
              have e29 := hs.get 29
              rw [d4] at e29
              have e5 := hs.get 5
              rw [r5] at e5
              go_simp
              exact hK.out _ _ ⟨r9, r5, hbz, kp f0, kp f1, kp f2, kp f3, kp f4, fun _ => rfl, kp f6, kp f7, kp f8, kp f9, kp f10, kp f11, kp f12, kp f13, kp f14, kp f15, kp f16, kp f17⟩
            · -- 6
              have d4 := f4 (hd' 4 (by kernel_rfl))
              refine slot_step_yes (j := 4) (d := 29) rfl rfl rfl (by decide) (d4) (fun az hs K hK => ?_)
              have hK : Shut _ := hK
              have e29 := hs.get 29
              rw [d4] at e29
              have e9 := hs.get 9
              rw [r9] at e9
              go_simp
              exact hK.out _ _ ⟨r9, r5, hbz, kp f0, kp f1, kp f2, kp f3, kp f4, kp f5, fun _ => rfl, kp f7, kp f8, kp f9, kp f10, kp f11, kp f12, kp f13, kp f14, kp f15, kp f16, kp f17⟩
            · -- 7
              have d4 := f4 (hd' 4 (by kernel_rfl))
              have d6 := f6 (hd' 6 (by kernel_rfl))
              refine slot_step_yes (j := 4) (d := 29) rfl rfl rfl (by decide) (d4) (fun az hs K hK => ?_)
              have hK : Shut _ := hK
              have cz := (hbz.cell _).trans b0
              have e29 := hs.get 29
              rw [d4] at e29
              have e31 := hs.get 31
              rw [d6] at e31
              go_simp
              exact hK.out _ _ ⟨r9, r5, hbz, kp f0, kp f1, kp f2, kp f3, kp f4, kp f5, kp f6, fun _ => rfl, kp f8, kp f9, kp f10, kp f11, kp f12, kp f13, kp f14, kp f15, kp f16, kp f17⟩
            · -- 8
              have d4 := f4 (hd' 4 (by kernel_rfl))
              have d5 := f5 (hd' 5 (by kernel_rfl))
              have d7 := f7 (hd' 7 (by kernel_rfl))
              refine slot_step_yes (j := 4) (d := 29) rfl rfl rfl (by decide) (d4) (fun az hs K hK => ?_)
              have hK : Shut _ := hK
              have e29 := hs.get 29
              rw [d4] at e29
              have e30 := hs.get 30
              rw [d5] at e30
              have e32 := hs.get 32
              rw [d7] at e32
              refine oper_lookupO (keyLaw_int Try.underlying3) mapB zero_bool (.tmp 30) (.tmp 32) rfl (hmap.out.toO.dr hbz) lt (hs.eval d5) (hs.eval d7) ?_
              rw [hlk1.out]
              exact hK.out _ _ ⟨r9, r5, hbz, kp f0, kp f1, kp f2, kp f3, kp f4, kp f5, kp f6, kp f7, fun _ => rfl, kp f9, kp f10, kp f11, kp f12, kp f13, kp f14, kp f15, kp f16, kp f17⟩
            · -- 9
              have d4 := f4 (hd' 4 (by kernel_rfl))
              have d8 := f8 (hd' 8 (by kernel_rfl))
              refine slot_step rfl rfl (fun az hs K hK => ?_)
              have hK : Shut _ := hK
              have e29 := hs.get 29
              rw [d4] at e29
              have e33 := hs.get 33
              rw [d8] at e33
              go_simp
              exact hK.out _ _ ⟨r9, r5, hbz, kp f0, kp f1, kp f2, kp f3, kp f4, kp f5, kp f6, kp f7, kp f8, fun _ => rfl, kp f10, kp f11, kp f12, kp f13, kp f14, kp f15, kp f16, kp f17⟩
            · -- 10
              have d9 := f9 (hd' 9 (by kernel_rfl))
              refine slot_step rfl rfl (fun az hs K hK => ?_)
              have hK : Shut _ := hK
              have e34 := hs.get 34
              rw [d9] at e34
              go_simp
              exact hK.out _ _ ⟨r9, r5, hbz, kp f0, kp f1, kp f2, kp f3, kp f4, kp f5, kp f6, kp f7, kp f8, kp f9, fun _ => rfl, kp f11, kp f12, kp f13, kp f14, kp f15, kp f16, kp f17⟩
            · -- 11
              have d10 := f10 (hd' 10 (by kernel_rfl))
              refine slot_step_yes (j := 10) (d := 35) rfl rfl rfl (by decide) (d10) (fun az hs K hK => ?_)
              have hK : Shut _ := hK
              have cz := (hbz.cell _).trans k5
              have e35 := hs.get 35
              rw [d10] at e35
              have e5 := hs.get 5
              rw [r5] at e5
              go_simp
              exact hK.out _ _ ⟨r9, r5, hbz, kp f0, kp f1, kp f2, kp f3, kp f4, kp f5, kp f6, kp f7, kp f8, kp f9, kp f10, fun _ => rfl, kp f12, kp f13, kp f14, kp f15, kp f16, kp f17⟩
            · -- 12
              have d10 := f10 (hd' 10 (by kernel_rfl))
              refine slot_step_yes (j := 10) (d := 35) rfl rfl rfl (by decide) (d10) (fun az hs K hK => ?_)
              have hK : Shut _ := hK
              have e35 := hs.get 35
              rw [d10] at e35
              have e9 := hs.get 9
              rw [r9] at e9
              go_simp
              exact hK.out _ _ ⟨r9, r5, hbz, kp f0, kp f1, kp f2, kp f3, kp f4, kp f5, kp f6, kp f7, kp f8, kp f9, kp f10, kp f11, fun _ => rfl, kp f13, kp f14, kp f15, kp f16, kp f17⟩
            · -- 13
              have d10 := f10 (hd' 10 (by kernel_rfl))
              have d12 := f12 (hd' 12 (by kernel_rfl))
              refine slot_step_yes (j := 10) (d := 35) rfl rfl rfl (by decide) (d10) (fun az hs K hK => ?_)
              have hK : Shut _ := hK
              have cz := (hbz.cell _).trans b0
              have e35 := hs.get 35
              rw [d10] at e35
              have e37 := hs.get 37
              rw [d12] at e37
              go_simp
              exact hK.out _ _ ⟨r9, r5, hbz, kp f0, kp f1, kp f2, kp f3, kp f4, kp f5, kp f6, kp f7, kp f8, kp f9, kp f10, kp f11, kp f12, fun _ => rfl, kp f14, kp f15, kp f16, kp f17⟩
            · -- 14
              have d10 := f10 (hd' 10 (by kernel_rfl))
              have d13 := f13 (hd' 13 (by kernel_rfl))
              refine slot_step_yes (j := 10) (d := 35) rfl rfl rfl (by decide) (d10) (fun az hs K hK => ?_)
              have hK : Shut _ := hK
              have e35 := hs.get 35
              rw [d10] at e35
              have e38 := hs.get 38
              rw [d13] at e38
              go_wp2_with (go_at_call 86; refine (HNt.out wz).mono ?_; rintro e wy ⟨rfl, rfl⟩; have hdr := Dr.refl wz)
              exact ⟨r9, r5, hbz.trans hdr, kp f0, kp f1, kp f2, kp f3, kp f4, kp f5, kp f6, kp f7, kp f8, kp f9, kp f10, kp f11, kp f12, kp f13, fun _ => rfl, kp f15, kp f16, kp f17⟩
            · -- 15
              have d10 := f10 (hd' 10 (by kernel_rfl))
              have d11 := f11 (hd' 11 (by kernel_rfl))
              have d14 := f14 (hd' 14 (by kernel_rfl))
              refine slot_step_yes (j := 10) (d := 35) rfl rfl rfl (by decide) (d10) (fun az hs K hK => ?_)
              have hK : Shut _ := hK
              have e35 := hs.get 35
              rw [d10] at e35
              have e36 := hs.get 36
              rw [d11] at e36
              have e39 := hs.get 39
              rw [d14] at e39
              refine oper_lookupO (keyLaw_int Try.underlying3) mapB zero_bool (.tmp 36) (.tmp 39) rfl (hmap.out.toO.dr hbz) LN (hs.eval d11) (hs.eval d14) ?_
              rw [hlk2.out]
              exact hK.out _ _ ⟨r9, r5, hbz, kp f0, kp f1, kp f2, kp f3, kp f4, kp f5, kp f6, kp f7, kp f8, kp f9, kp f10, kp f11, kp f12, kp f13, kp f14, fun _ => rfl, kp f16, kp f17⟩
            · -- 16
              have d10 := f10 (hd' 10 (by kernel_rfl))
              have d15 := f15 (hd' 15 (by kernel_rfl))
              refine slot_step rfl rfl (fun az hs K hK => ?_)
              have hK : Shut _ := hK
              have e35 := hs.get 35
              rw [d10] at e35
              have e40 := hs.get 40
              rw [d15] at e40
              go_simp
              exact hK.out _ _ ⟨r9, r5, hbz, kp f0, kp f1, kp f2, kp f3, kp f4, kp f5, kp f6, kp f7, kp f8, kp f9, kp f10, kp f11, kp f12, kp f13, kp f14, kp f15, fun _ => rfl, kp f17⟩
            · -- 17
              have d16 := f16 (hd' 16 (by kernel_rfl))
              refine slot_step rfl rfl (fun az hs K hK => ?_)
              have hK : Shut _ := hK
              have e41 := hs.get 41
              rw [d16] at e41
              go_simp
              exact hK.out _ _ ⟨r9, r5, hbz, kp f0, kp f1, kp f2, kp f3, kp f4, kp f5, kp f6, kp f7, kp f8, kp f9, kp f10, kp f11, kp f12, kp f13, kp f14, kp f15, kp f16, fun _ => rfl⟩
          case hdone =>
            rintro D g wz hD ⟨r9, r5, hbz, f0, f1, f2, f3, f4, f5, f6, f7, f8, f9, f10, f11, f12, f13, f14, f15, f16, f17⟩
            simp only [setAll, List.foldl_cons, List.foldl_nil, List.setIfInBounds_toArray, List.set_cons_succ, List.set_cons_zero]
            have e24 := f17 (hD 17)
            rw [e24]
            clear f0 f1 f2 f3 f4 f5 f6 f7 f8 f9 f10 f11 f12 f13 f14 f15 f16 f17 e24 hD r9 r5
            cases b3 with
            | true =>
              have hF := hide (hbad.out (fun h => by have := (hnew.out.1 h.new).2; cases this))
              go_wp2
              go_ret
              exact ⟨ret_bool hF.out.symm, hbx.out.trans ((hbz.below _).mono hbx.out.size)⟩
            | false =>
              have hnw := hide (hnew.out.2 (by simp))
              obtain ⟨w8, hw8⟩ : ∃ w8, w8 = wz := ⟨_, rfl⟩
              subst hw8
              obtain ⟨g8, hg8⟩ : ∃ g8, g8 = g := ⟨_, rfl⟩
              subst hg8
              have hG8 := hide (hG1.out.step (hbz.below _))
              have b0W := (hbz.cell _).trans b0
              have b1W := (hbz.cell _).trans b1
              have b2W := (hbz.cell _).trans b2
              have k5W := (hbz.cell _).trans k5
              have hwy8 := hide (Dr.rd hbz hwy1.out)
              clear hG1 b0 b1 b2 k5 hmap hbx hwy1 hnew hlk1 hlk2 hbz hV1 hVd HV HNt c0 c1 c2 hb3
              by_cases hup : lv < LV
              · have hF := hide (hbad.out (fun h => by have := h.up; simp only at this; omega))
                clear hbad hnext
                go_wp2
                go_ret
                exact ⟨ret_bool hF.out.symm, hG8.out.bel⟩
              · by_cases hw0 : zn = 0
                · subst hw0
                  by_cases hlv : LV < lv
                  · have hwe : wy = [] := hwz.out.1 rfl
                    have hO := hide (hnext.out ⟨hh2.out, hh3.out, hnw.out, by show LV ≤ lv; omega, ⟨fun _ => hlv, fun _ => hwe⟩, fun h => absurd hwe h, fun y hy => by rw [show (⟨lt, lv, wy⟩ : St).why = [] from hwe] at hy; cases hy⟩)
                    have hG2 := hG8
                    have hmapW := hG8.out.map
                    clear hbad hnext hwe hwz
                    go_wp2
                    refine wp_region_slots [72, 73, 74, 75, 76, 7] (fun D g wz => g 9 = .pointer (some ⟨c9, 0, none⟩) ∧ g 5 = .pointer (some ⟨w.heap.size + 1, 0, none⟩) ∧ Fr (fun q => q = w.heap.size) w8 wz ∧ (¬ D 5 → MapS wz encI w.heap.size ml) ∧ (D 0 → g 72 = .map (some w.heap.size)) ∧ (D 1 → g 73 = .pointer (some ⟨c9, 0, none⟩)) ∧ (D 2 → g 74 = .int .i64 lt) ∧ (D 3 → g 75 = .pointer (some ⟨c9, 1, none⟩)) ∧ (D 4 → g 76 = .int .i64 lv) ∧ (D 5 → MapS wz encI w.heap.size (mput ml lt (.bool true))) ∧ (D 6 → g 7 = .int .i64 lv)) (by kernel_rfl) (by kernel_rfl) 82 rfl (by kernel_rfl) ?h0 ?hstep ?hdone
                    case h0 => exact ⟨rfl, rfl, Fr.of_below (Dr.below (Dr.refl w8).drew _), (fun _ => hmapW.dr (Dr.refl w8).drew), nt0, nt0, nt0, nt0, nt0, nt0, nt0⟩
                    case hstep =>
                      intro D g wz i hi' hn hd' hI2
                      obtain ⟨r9, r5, hfz, g5, f0, f1, f2, f3, f4, f5, f6⟩ := hI2
                      have hi' : i < 7 := hi'
                      rcases (show i = 0 ∨ i = 1 ∨ i = 2 ∨ i = 3 ∨ i = 4 ∨ i = 5 ∨ i = 6 by omega) with rfl | rfl | rfl | rfl | rfl | rfl | rfl
                      · -- 0
                        refine slot_step rfl rfl (fun az hs K hK => ?_)
                        have hK : Shut _ := hK
                        have cz := hfz.cell k5W (by show ¬ w.heap.size + 1 = w.heap.size; omega)
                        have e5 := hs.get 5
                        rw [r5] at e5
                        go_simp
                        exact hK.out _ _ ⟨r9, r5, hfz, (fun h => g5 (fun e => h (Or.inr e))), fun _ => rfl, kp f1, kp f2, kp f3, kp f4, kp f5, kp f6⟩
                      · -- 1
                        refine slot_step rfl rfl (fun az hs K hK => ?_)
                        have hK : Shut _ := hK
                        have e9 := hs.get 9
                        rw [r9] at e9
                        go_simp
                        exact hK.out _ _ ⟨r9, r5, hfz, (fun h => g5 (fun e => h (Or.inr e))), kp f0, fun _ => rfl, kp f2, kp f3, kp f4, kp f5, kp f6⟩
                      · -- 2
                        have d1 := f1 (hd' 1 (by kernel_rfl))
                        refine slot_step rfl rfl (fun az hs K hK => ?_)
                        have hK : Shut _ := hK
                        have cz := hfz.cell b0W (by show ¬ c9 = w.heap.size; omega)
                        have e73 := hs.get 73
                        rw [d1] at e73
                        go_simp
                        exact hK.out _ _ ⟨r9, r5, hfz, (fun h => g5 (fun e => h (Or.inr e))), kp f0, kp f1, fun _ => rfl, kp f3, kp f4, kp f5, kp f6⟩
                      · -- 3
                        refine slot_step rfl rfl (fun az hs K hK => ?_)
                        have hK : Shut _ := hK
                        have e9 := hs.get 9
                        rw [r9] at e9
                        go_simp
                        exact hK.out _ _ ⟨r9, r5, hfz, (fun h => g5 (fun e => h (Or.inr e))), kp f0, kp f1, kp f2, fun _ => rfl, kp f4, kp f5, kp f6⟩
                      · -- 4
                        have d3 := f3 (hd' 3 (by kernel_rfl))
                        refine slot_step rfl rfl (fun az hs K hK => ?_)
                        have hK : Shut _ := hK
                        have cz := hfz.cell b1W (by show ¬ c9 = w.heap.size; omega)
                        have e75 := hs.get 75
                        rw [d3] at e75
                        go_simp
                        exact hK.out _ _ ⟨r9, r5, hfz, (fun h => g5 (fun e => h (Or.inr e))), kp f0, kp f1, kp f2, kp f3, fun _ => rfl, kp f5, kp f6⟩
                      · -- 5
                        have d0 := f0 (hd' 0 (by kernel_rfl))
                        have d2 := f2 (hd' 2 (by kernel_rfl))
                        refine slot_step rfl rfl (fun az hs K hK => ?_)
                        have hK : Shut _ := hK
                        have e72 := hs.get 72
                        rw [d0] at e72
                        have e74 := hs.get 74
                        rw [d2] at e74
                        refine oper_updateS (keyLaw_int Try.underlying3) mapB (.tmp 72) (.tmp 74) (.const (.bool true)) rfl (g5 hn) lt (.bool true) (hs.eval d0) (hs.eval d2) rfl ?_
                        intro w2 hm2 hgr2 hsz2
                        exact hK.out _ _ ⟨r9, r5, hfz.trans (Fr.of_grown hgr2 (fun q e => .inl (by cases e; rfl))), (fun h => (h (by simp)).elim), kp f0, kp f1, kp f2, kp f3, kp f4, fun _ => hm2, kp f6⟩
                      · -- 6
                        have d4 := f4 (hd' 4 (by kernel_rfl))
                        refine slot_step rfl rfl (fun az hs K hK => ?_)
                        have hK : Shut _ := hK
                        have e76 := hs.get 76
                        rw [d4] at e76
                        go_simp
                        exact hK.out _ _ ⟨r9, r5, hfz, (fun h => g5 (fun e => h (Or.inr e))), kp f0, kp f1, kp f2, kp f3, kp f4, kp f5, fun _ => rfl⟩
                    case hdone =>
                      rintro D g wz hD ⟨r9, r5, hfz, g5, f0, f1, f2, f3, f4, f5, f6⟩
                      simp only [setAll, List.foldl_cons, List.foldl_nil, List.setIfInBounds_toArray, List.set_cons_succ, List.set_cons_zero]
                      have e7 := f6 (hD 6)
                      rw [e7]
                      have hmN := hide (f5 (hD 5))
                      have hfN := hide hfz
                      clear f0 f1 f2 f3 f4 f5 f6 g5 hfz e7 hD r9 r5
                      go_wp2
                      go_roundw
                      case rel => exact ⟨k + 1, _, hlt, by go_num, by rw [hlev.out], hO, hide (hG2.out.put hmN.out hfN.out (so_put hG2.out.so ⟨lt, lv, wy⟩) (by rw [take_st hkl, hpre.out, hst.out]))⟩
                      case measure => simp [intOf]; omega
                  · have hF := hide (hbad.out (fun h => hlv (h.tried.1 (hwz.out.1 rfl))))
                    clear hbad hnext hwz
                    go_wp2
                    go_ret
                    exact ⟨ret_bool hF.out.symm, hG8.out.bel⟩
                · have hw0' : ¬ (zn : Int) = 0 := by omega
                  have hz1 : ((zn : Int) == 0) = false := beq_eq_false_iff_ne.2 hw0'
                  have hz2 : (zn == 0) = false := beq_eq_false_iff_ne.2 hw0
                  by_cases hlv : LV < lv
                  · have hF := hide (hbad.out (fun h => hw0 (hwz.out.2 (h.tried.2 hlv))))
                    clear hbad hnext hwz
                    go_wp2
                    go_ret
                    exact ⟨ret_bool hF.out.symm, hG8.out.bel⟩
                  · have hne : wy ≠ [] := fun h => hw0 (hwz.out.2 h)
                    obtain ⟨hb2, hhb⟩ : ∃ hb2, hasB wy lt = hb2 := ⟨_, rfl⟩
                    have HH := hide (has_isL (c := zc) hhb (show zn ≤ 1000000 by omega) w8 hwy8.out)
                    cases hb2 with
                    | false =>
                      have hF := hide (hbad.out (fun h => by have := has_iff.2 (h.has hne); simp only at this; rw [hhb] at this; cases this))
                      clear hbad hnext hwz hne hhb
                      go_wp2_with fail
                      refine HH.out.mono ?_
                      rintro e w2 ⟨rfl, rfl⟩
                      go_wp2
                      go_ret
                      exact ⟨ret_bool hF.out.symm, hG8.out.bel⟩
                    | true =>
                      obtain ⟨rb, hrb'⟩ : ∃ rb, (wy.any fun x => decide (x ≠ lt) && !soB pre (litNot x)) = rb := ⟨_, rfl⟩
                      have HA := hide (any2_is (.pointer (some ⟨c9, 0, none⟩)) (.pointer (some ⟨w.heap.size + 2, 0, none⟩)) zA zn zc wy _ w8 (by omega) hwy8.out (fun W hd x _ => good_wrong2 c9 (w.heap.size + 2) (w.heap.size + 1) w.heap.size pre ml lt x W ((hd.cell _).trans b0W) ((hd.cell _).trans (hG8.out.c6.cell 0)) ((hd.cell _).trans (hG8.out.c5.cell 0)) (hG8.out.map.toO.dr hd) hG8.out.so) hrb')
                      have haw := hide (any_why hlits.out ⟨lt, lv, wy⟩ wy)
                      simp only at haw
                      rw [hrb'] at haw
                      cases rb with
                      | true =>
                        have hF := hide (hbad.out (fun h => by have := haw.out.2 h.why; cases this))
                        clear hbad hnext hwz hne hhb haw hrb'
                        go_wp2_with fail
                        refine HH.out.mono ?_
                        rintro e w2 ⟨rfl, rfl⟩
                        go_wp2_with fail
                        refine HA.out.mono ?_
                        rintro e w2 ⟨rfl, hd⟩
                        go_wp2
                        go_ret
                        exact ⟨ret_bool hF.out.symm, hG8.out.bel.trans ((hd.below _).mono hG8.out.bel.size)⟩
                      | false =>
                        have hO := hide (hnext.out ⟨hh2.out, hh3.out, hnw.out, by show LV ≤ lv; omega, ⟨fun h => absurd h hne, fun h => absurd h hlv⟩, fun _ => has_iff.1 hhb, haw.out.1 rfl⟩)
                        clear hbad hnext hwz hne hhb haw hrb'
                        go_wp2_with fail
                        refine HH.out.mono ?_
                        rintro e w2 ⟨rfl, rfl⟩
                        go_wp2_with fail
                        refine HA.out.mono ?_
                        rintro e w10 ⟨rfl, hd⟩
                        have hG2 := hide (hG8.out.step (hd.below _))
                        have b0W := (hd.cell _).trans b0W
                        have b1W := (hd.cell _).trans b1W
                        have k5W := (hd.cell _).trans k5W
                        have hmapW := hG2.out.map
                        clear hG8 hd b2W HH HA
                        go_wp2
                        refine wp_region_slots [72, 73, 74, 75, 76, 7] (fun D g wz => g 9 = .pointer (some ⟨c9, 0, none⟩) ∧ g 5 = .pointer (some ⟨w.heap.size + 1, 0, none⟩) ∧ Fr (fun q => q = w.heap.size) w10 wz ∧ (¬ D 5 → MapS wz encI w.heap.size ml) ∧ (D 0 → g 72 = .map (some w.heap.size)) ∧ (D 1 → g 73 = .pointer (some ⟨c9, 0, none⟩)) ∧ (D 2 → g 74 = .int .i64 lt) ∧ (D 3 → g 75 = .pointer (some ⟨c9, 1, none⟩)) ∧ (D 4 → g 76 = .int .i64 lv) ∧ (D 5 → MapS wz encI w.heap.size (mput ml lt (.bool true))) ∧ (D 6 → g 7 = .int .i64 lv)) (by kernel_rfl) (by kernel_rfl) 82 rfl (by kernel_rfl) ?h0 ?hstep ?hdone
                        case h0 => exact ⟨rfl, rfl, Fr.of_below (Dr.below (Dr.refl w10).drew _), (fun _ => hmapW.dr (Dr.refl w10).drew), nt0, nt0, nt0, nt0, nt0, nt0, nt0⟩
                        case hstep =>
                          intro D g wz i hi' hn hd' hI2
                          obtain ⟨r9, r5, hfz, g5, f0, f1, f2, f3, f4, f5, f6⟩ := hI2
                          have hi' : i < 7 := hi'
                          rcases (show i = 0 ∨ i = 1 ∨ i = 2 ∨ i = 3 ∨ i = 4 ∨ i = 5 ∨ i = 6 by omega) with rfl | rfl | rfl | rfl | rfl | rfl | rfl
                          · -- 0
                            refine slot_step rfl rfl (fun az hs K hK => ?_)
                            have hK : Shut _ := hK
                            have cz := hfz.cell k5W (by show ¬ w.heap.size + 1 = w.heap.size; omega)
                            have e5 := hs.get 5
                            rw [r5] at e5
                            go_simp
                            exact hK.out _ _ ⟨r9, r5, hfz, (fun h => g5 (fun e => h (Or.inr e))), fun _ => rfl, kp f1, kp f2, kp f3, kp f4, kp f5, kp f6⟩
                          · -- 1
                            refine slot_step rfl rfl (fun az hs K hK => ?_)
                            have hK : Shut _ := hK
                            have e9 := hs.get 9
                            rw [r9] at e9
                            go_simp
                            exact hK.out _ _ ⟨r9, r5, hfz, (fun h => g5 (fun e => h (Or.inr e))), kp f0, fun _ => rfl, kp f2, kp f3, kp f4, kp f5, kp f6⟩
                          · -- 2
                            have d1 := f1 (hd' 1 (by kernel_rfl))
                            refine slot_step rfl rfl (fun az hs K hK => ?_)
                            have hK : Shut _ := hK
                            have cz := hfz.cell b0W (by show ¬ c9 = w.heap.size; omega)
                            have e73 := hs.get 73
                            rw [d1] at e73
                            go_simp
                            exact hK.out _ _ ⟨r9, r5, hfz, (fun h => g5 (fun e => h (Or.inr e))), kp f0, kp f1, fun _ => rfl, kp f3, kp f4, kp f5, kp f6⟩
                          · -- 3
                            refine slot_step rfl rfl (fun az hs K hK => ?_)
                            have hK : Shut _ := hK
                            have e9 := hs.get 9
                            rw [r9] at e9
                            go_simp
                            exact hK.out _ _ ⟨r9, r5, hfz, (fun h => g5 (fun e => h (Or.inr e))), kp f0, kp f1, kp f2, fun _ => rfl, kp f4, kp f5, kp f6⟩
                          · -- 4
                            have d3 := f3 (hd' 3 (by kernel_rfl))
                            refine slot_step rfl rfl (fun az hs K hK => ?_)
                            have hK : Shut _ := hK
                            have cz := hfz.cell b1W (by show ¬ c9 = w.heap.size; omega)
                            have e75 := hs.get 75
                            rw [d3] at e75
                            go_simp
                            exact hK.out _ _ ⟨r9, r5, hfz, (fun h => g5 (fun e => h (Or.inr e))), kp f0, kp f1, kp f2, kp f3, fun _ => rfl, kp f5, kp f6⟩
                          · -- 5
                            have d0 := f0 (hd' 0 (by kernel_rfl))
                            have d2 := f2 (hd' 2 (by kernel_rfl))
                            refine slot_step rfl rfl (fun az hs K hK => ?_)
                            have hK : Shut _ := hK
                            have e72 := hs.get 72
                            rw [d0] at e72
                            have e74 := hs.get 74
                            rw [d2] at e74
                            refine oper_updateS (keyLaw_int Try.underlying3) mapB (.tmp 72) (.tmp 74) (.const (.bool true)) rfl (g5 hn) lt (.bool true) (hs.eval d0) (hs.eval d2) rfl ?_
                            intro w2 hm2 hgr2 hsz2
                            exact hK.out _ _ ⟨r9, r5, hfz.trans (Fr.of_grown hgr2 (fun q e => .inl (by cases e; rfl))), (fun h => (h (by simp)).elim), kp f0, kp f1, kp f2, kp f3, kp f4, fun _ => hm2, kp f6⟩
                          · -- 6
                            have d4 := f4 (hd' 4 (by kernel_rfl))
                            refine slot_step rfl rfl (fun az hs K hK => ?_)
                            have hK : Shut _ := hK
                            have e76 := hs.get 76
                            rw [d4] at e76
                            go_simp
                            exact hK.out _ _ ⟨r9, r5, hfz, (fun h => g5 (fun e => h (Or.inr e))), kp f0, kp f1, kp f2, kp f3, kp f4, kp f5, fun _ => rfl⟩
                        case hdone =>
                          rintro D g wz hD ⟨r9, r5, hfz, g5, f0, f1, f2, f3, f4, f5, f6⟩
                          simp only [setAll, List.foldl_cons, List.foldl_nil, List.setIfInBounds_toArray, List.set_cons_succ, List.set_cons_zero]
                          have e7 := f6 (hD 6)
                          rw [e7]
                          have hmN := hide (f5 (hD 5))
                          have hfN := hide hfz
                          clear f0 f1 f2 f3 f4 f5 f6 g5 hfz e7 hD r9 r5
                          go_wp2
                          go_roundw
                          case rel => exact ⟨k + 1, _, hlt, by go_num, by rw [hlev.out], hO, hide (hG2.out.put hmN.out hfN.out (so_put hG2.out.so ⟨lt, lv, wy⟩) (by rw [take_st hkl, hpre.out, hst.out]))⟩
                          case measure => simp [intOf]; omega
      · have hV1 : V < 1 := by rw [← hV, lvar_lt]; exact h1
        have hVd : decide (V < 1) = true := decide_eq_true hV1
        have hF := hide (hbad.out (fun h => h1 ⟨h.two, h.good⟩))
        clear h1 hV hbad hnext
        go_wp2
        refine wp_region_slots [25, 26, 27, 28, 29, 30, 31, 32, 33, 34, 35, 36, 37, 38, 39, 40, 41, 24] (fun D g wz => g 9 = .pointer (some ⟨c9, 0, none⟩) ∧ g 5 = .pointer (some ⟨w.heap.size + 1, 0, none⟩) ∧ Dr W1 wz ∧ (D 0 → g 25 = .pointer (some ⟨c9, 0, none⟩)) ∧ (D 1 → g 26 = .int .i64 lt) ∧ (D 2 → g 27 = .int .i64 V) ∧ (D 3 → g 28 = .bool true) ∧ (D 4 → g 29 = .bool true) ∧ (D 5 → g 30 = undef) ∧ (D 6 → g 31 = undef) ∧ (D 7 → g 32 = undef) ∧ (D 8 → g 33 = undef) ∧ (D 9 → g 34 = .bool true) ∧ (D 10 → g 35 = .bool true) ∧ (D 11 → g 36 = undef) ∧ (D 12 → g 37 = undef) ∧ (D 13 → g 38 = undef) ∧ (D 14 → g 39 = undef) ∧ (D 15 → g 40 = undef) ∧ (D 16 → g 41 = .bool true) ∧ (D 17 → g 24 = .bool true)) (by kernel_rfl) (by kernel_rfl) 82 rfl (by kernel_rfl) ?h0 ?hstep ?hdone
        case h0 => exact ⟨rfl, rfl, (Dr.refl W1).drew, nt0, nt0, nt0, nt0, nt0, nt0, nt0, nt0, nt0, nt0, nt0, nt0, nt0, nt0, nt0, nt0, nt0, nt0⟩
        case hstep =>
          intro D g wz i hi' hn hd' hI2
          obtain ⟨r9, r5, hbz, f0, f1, f2, f3, f4, f5, f6, f7, f8, f9, f10, f11, f12, f13, f14, f15, f16, f17⟩ := hI2
          have hi' : i < 18 := hi'
          rcases (show i = 0 ∨ i = 1 ∨ i = 2 ∨ i = 3 ∨ i = 4 ∨ i = 5 ∨ i = 6 ∨ i = 7 ∨ i = 8 ∨ i = 9 ∨ i = 10 ∨ i = 11 ∨ i = 12 ∨ i = 13 ∨ i = 14 ∨ i = 15 ∨ i = 16 ∨ i = 17 by omega) with rfl | rfl | rfl | rfl | rfl | rfl | rfl | rfl | rfl | rfl | rfl | rfl | rfl | rfl | rfl | rfl | rfl | rfl
          · -- 0
            refine slot_step rfl rfl (fun az hs K hK => ?_)
            have hK : Shut _ := hK
            have e9 := hs.get 9
            rw [r9] at e9
            go_simp
            exact hK.out _ _ ⟨r9, r5, hbz, fun _ => rfl, kp f1, kp f2, kp f3, kp f4, kp f5, kp f6, kp f7, kp f8, kp f9, kp f10, kp f11, kp f12, kp f13, kp f14, kp f15, kp f16, kp f17⟩
          · -- 1
            have d0 := f0 (hd' 0 (by kernel_rfl))
            refine slot_step rfl rfl (fun az hs K hK => ?_)
            have hK : Shut _ := hK
            have cz := (hbz.cell _).trans b0
            have e25 := hs.get 25
            rw [d0] at e25
            go_simp
            exact hK.out _ _ ⟨r9, r5, hbz, kp f0, fun _ => rfl, kp f2, kp f3, kp f4, kp f5, kp f6, kp f7, kp f8, kp f9, kp f10, kp f11, kp f12, kp f13, kp f14, kp f15, kp f16, kp f17⟩
          · -- 2
            have d1 := f1 (hd' 1 (by kernel_rfl))
            refine slot_step rfl rfl (fun az hs K hK => ?_)
            have hK : Shut _ := hK
            have e26 := hs.get 26
            rw [d1] at e26
            go_wp2_with (go_at_call 84; refine (HV.out wz).mono ?_; rintro e wy ⟨rfl, rfl⟩; have hdr := Dr.refl wz)
            exact ⟨r9, r5, hbz.trans hdr, kp f0, kp f1, fun _ => rfl, kp f3, kp f4, kp f5, kp f6, kp f7, kp f8, kp f9, kp f10, kp f11, kp f12, kp f13, kp f14, kp f15, kp f16, kp f17⟩
          · -- 3
            have d2 := f2 (hd' 2 (by kernel_rfl))
            refine slot_step rfl rfl (fun az hs K hK => ?_)
            have hK : Shut _ := hK
            have e27 := hs.get 27
            rw [d2] at e27
            go_simp
            exact hK.out _ _ ⟨r9, r5, hbz, kp f0, kp f1, kp f2, fun _ => rfl, kp f4, kp f5, kp f6, kp f7, kp f8, kp f9, kp f10, kp f11, kp f12, kp f13, kp f14, kp f15, kp f16, kp f17⟩
          · -- 4
            have d3 := f3 (hd' 3 (by kernel_rfl))
            refine slot_step rfl rfl (fun az hs K hK => ?_)
            have hK : Shut _ := hK
            have e28 := hs.get 28
            rw [d3] at e28
            go_simp
            exact hK.out _ _ ⟨r9, r5, hbz, kp f0, kp f1, kp f2, kp f3, fun _ => rfl, kp f5, kp f6, kp f7, kp f8, kp f9, kp f10, kp f11, kp f12, kp f13, kp f14, kp f15, kp f16, kp f17⟩
          · -- 5
            have d4 := f4 (hd' 4 (by kernel_rfl))
            exact slot_step_no (j := 4) (d := 29) rfl rfl rfl (by decide) (d4) ⟨r9, r5, hbz, kp f0, kp f1, kp f2, kp f3, kp f4, fun _ => rfl, kp f6, kp f7, kp f8, kp f9, kp f10, kp f11, kp f12, kp f13, kp f14, kp f15, kp f16, kp f17⟩
          · -- 6
            have d4 := f4 (hd' 4 (by kernel_rfl))
            exact slot_step_no (j := 4) (d := 29) rfl rfl rfl (by decide) (d4) ⟨r9, r5, hbz, kp f0, kp f1, kp f2, kp f3, kp f4, kp f5, fun _ => rfl, kp f7, kp f8, kp f9, kp f10, kp f11, kp f12, kp f13, kp f14, kp f15, kp f16, kp f17⟩
          · -- 7
            have d4 := f4 (hd' 4 (by kernel_rfl))
            exact slot_step_no (j := 4) (d := 29) rfl rfl rfl (by decide) (d4) ⟨r9, r5, hbz, kp f0, kp f1, kp f2, kp f3, kp f4, kp f5, kp f6, fun _ => rfl, kp f8, kp f9, kp f10, kp f11, kp f12, kp f13, kp f14, kp f15, kp f16, kp f17⟩
          · -- 8
            have d4 := f4 (hd' 4 (by kernel_rfl))
            exact slot_step_no (j := 4) (d := 29) rfl rfl rfl (by decide) (d4) ⟨r9, r5, hbz, kp f0, kp f1, kp f2, kp f3, kp f4, kp f5, kp f6, kp f7, fun _ => rfl, kp f9, kp f10, kp f11, kp f12, kp f13, kp f14, kp f15, kp f16, kp f17⟩
          · -- 9
            have d4 := f4 (hd' 4 (by kernel_rfl))
            have d8 := f8 (hd' 8 (by kernel_rfl))
            refine slot_step rfl rfl (fun az hs K hK => ?_)
            have hK : Shut _ := hK
            have e29 := hs.get 29
            rw [d4] at e29
            have e33 := hs.get 33
            rw [d8] at e33
            go_simp
            exact hK.out _ _ ⟨r9, r5, hbz, kp f0, kp f1, kp f2, kp f3, kp f4, kp f5, kp f6, kp f7, kp f8, fun _ => rfl, kp f10, kp f11, kp f12, kp f13, kp f14, kp f15, kp f16, kp f17⟩
          · -- 10
            have d9 := f9 (hd' 9 (by kernel_rfl))
            refine slot_step rfl rfl (fun az hs K hK => ?_)
            have hK : Shut _ := hK
            have e34 := hs.get 34
            rw [d9] at e34
            go_simp
            exact hK.out _ _ ⟨r9, r5, hbz, kp f0, kp f1, kp f2, kp f3, kp f4, kp f5, kp f6, kp f7, kp f8, kp f9, fun _ => rfl, kp f11, kp f12, kp f13, kp f14, kp f15, kp f16, kp f17⟩
          · -- 11
            have d10 := f10 (hd' 10 (by kernel_rfl))
            exact slot_step_no (j := 10) (d := 35) rfl rfl rfl (by decide) (d10) ⟨r9, r5, hbz, kp f0, kp f1, kp f2, kp f3, kp f4, kp f5, kp f6, kp f7, kp f8, kp f9, kp f10, fun _ => rfl, kp f12, kp f13, kp f14, kp f15, kp f16, kp f17⟩
          · -- 12
            have d10 := f10 (hd' 10 (by kernel_rfl))
            exact slot_step_no (j := 10) (d := 35) rfl rfl rfl (by decide) (d10) ⟨r9, r5, hbz, kp f0, kp f1, kp f2, kp f3, kp f4, kp f5, kp f6, kp f7, kp f8, kp f9, kp f10, kp f11, fun _ => rfl, kp f13, kp f14, kp f15, kp f16, kp f17⟩
          · -- 13
            have d10 := f10 (hd' 10 (by kernel_rfl))
            exact slot_step_no (j := 10) (d := 35) rfl rfl rfl (by decide) (d10) ⟨r9, r5, hbz, kp f0, kp f1, kp f2, kp f3, kp f4, kp f5, kp f6, kp f7, kp f8, kp f9, kp f10, kp f11, kp f12, fun _ => rfl, kp f14, kp f15, kp f16, kp f17⟩
          · -- 14
            have d10 := f10 (hd' 10 (by kernel_rfl))
            exact slot_step_no (j := 10) (d := 35) rfl rfl rfl (by decide) (d10) ⟨r9, r5, hbz, kp f0, kp f1, kp f2, kp f3, kp f4, kp f5, kp f6, kp f7, kp f8, kp f9, kp f10, kp f11, kp f12, kp f13, fun _ => rfl, kp f15, kp f16, kp f17⟩
          · -- 15
            have d10 := f10 (hd' 10 (by kernel_rfl))
            exact slot_step_no (j := 10) (d := 35) rfl rfl rfl (by decide) (d10) ⟨r9, r5, hbz, kp f0, kp f1, kp f2, kp f3, kp f4, kp f5, kp f6, kp f7, kp f8, kp f9, kp f10, kp f11, kp f12, kp f13, kp f14, fun _ => rfl, kp f16, kp f17⟩
          · -- 16
            have d10 := f10 (hd' 10 (by kernel_rfl))
            have d15 := f15 (hd' 15 (by kernel_rfl))
            refine slot_step rfl rfl (fun az hs K hK => ?_)
            have hK : Shut _ := hK
            have e35 := hs.get 35
            rw [d10] at e35
            have e40 := hs.get 40
            rw [d15] at e40
            go_simp
            exact hK.out _ _ ⟨r9, r5, hbz, kp f0, kp f1, kp f2, kp f3, kp f4, kp f5, kp f6, kp f7, kp f8, kp f9, kp f10, kp f11, kp f12, kp f13, kp f14, kp f15, fun _ => rfl, kp f17⟩
          · -- 17
            have d16 := f16 (hd' 16 (by kernel_rfl))
            refine slot_step rfl rfl (fun az hs K hK => ?_)
            have hK : Shut _ := hK
            have e41 := hs.get 41
            rw [d16] at e41
            go_simp
            exact hK.out _ _ ⟨r9, r5, hbz, kp f0, kp f1, kp f2, kp f3, kp f4, kp f5, kp f6, kp f7, kp f8, kp f9, kp f10, kp f11, kp f12, kp f13, kp f14, kp f15, kp f16, fun _ => rfl⟩
        case hdone =>
          rintro D g wz hD ⟨r9, r5, hbz, f0, f1, f2, f3, f4, f5, f6, f7, f8, f9, f10, f11, f12, f13, f14, f15, f16, f17⟩
          simp only [setAll, List.foldl_cons, List.foldl_nil, List.setIfInBounds_toArray, List.set_cons_succ, List.set_cons_zero]
          have e24 := f17 (hD 17)
          rw [e24]
          clear f0 f1 f2 f3 f4 f5 f6 f7 f8 f9 f10 f11 f12 f13 f14 f15 f16 f17 e24 hD r9 r5
          go_wp2
          go_ret
          exact ⟨ret_bool hF.out.symm, hbx.out.trans ((hbz.below _).mono hbx.out.size)⟩
    · have hkn : n = k := by omega
      subst hkn
      have hok' : OkTo l l.length := by rw [hll.out]; exact hok.out
      have hG' : Gd w l ml wr := by have := hG.out; rw [← hll.out, List.take_length] at this; exact this
      obtain ⟨rb, hrb'⟩ : ∃ rb, (bad.any fun x => !soB l (litNot x)) = rb := ⟨_, rfl⟩
      have HA := hide (any1_is (.pointer (some ⟨w.heap.size + 1, 0, none⟩)) B m cb bad _ wr hm (hrb.below hG'.bel (Nat.le_refl _)) (fun W hd x _ => good_wrong (w.heap.size + 1) w.heap.size l ml x W ((hd.cell _).trans (hG'.c5.cell 0)) (hG'.map.toO.dr hd) hG'.so) hrb')
      have k6 : wr.cell? ⟨w.heap.size + 2, 0, none⟩ = some (wrongF w.heap.size) := hG'.c6.cell 0
      have hbw := hide hG'.bel
      have hF := hide (show (!rb) = goodB l bad by
        cases rb with
        | true => rw [bad_of hok' hrb']; rfl
        | false => rw [good_of2 hok' hrb']; rfl)
      clear hG' hok' hrb' hG hok
      go_wp2_with fail
      refine HA.out.mono ?_
      rintro e w2 ⟨rfl, hd⟩
      go_wp2
      go_ret
      exact ⟨ret_bool hF.out, hbw.out.trans (hd.below _)⟩
end Go.Proofs.Ytcjoohaagdihlaa.Learn
