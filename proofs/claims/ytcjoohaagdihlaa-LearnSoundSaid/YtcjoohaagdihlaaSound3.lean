/- The law LearnSound. -/
import Derived.Test.YtcjoohaagdihlaaSound2
namespace Go.Proofs.Ytcjoohaagdihlaa.Learn
open Go.RowKit Go.Lt Go.Proofs.Ytcjoohaagdihlaa.Lit Go.Proofs.Ytcjoohaagdihlaa.Sorted Go.Instr
open Go.Proofs.Ytcjoohaagdihlaa.Kept (Sl Sl.val addr_off)
set_option linter.unusedVariables false
set_option linter.unusedSimpArgs false

theorem info_rows : (Try.prog.info? 40).map (fun i => (i.zero, i.size, i.bytes)) = some (some (.slice none 0 0), 1, 24) := by kernel_rfl
theorem goodS_is {A : Option Addr} {n c : Nat} {l : List St} {B : Option Addr} {m cb : Nat} {bad : List Int} {b : Bool} (hb : goodB l bad = b) (w : World) (hn : n ≤ 1000) (hnc : n ≤ c) (hr : RdT w A n l) (hw : ∀ s ∈ l, s.why.length ≤ 1000) (hm : m ≤ 1000) (hrb : Rd w B m (ivs bad)) :
    Calls Try.prog 31 #[.slice A n c, .slice B m cb] w fun e w' => e = .returned (.bool b) ∧ Below w.heap.size w w' := by
  subst hb; exact ref_GoodS A n c l B m cb bad w hn hnc hr hw hm hrb
theorem push_other {W w8 : World} {o : Obj} {b1 s1 n1 b2 s2 n2 : Nat} {e1 e2 : TypeId} {v1 v2 : Value} {xs1 xs2 : List Value} (h1 : W.ownsRow b1 e1 s1 v1 n1 xs1) (h2 : W.ownsRow b2 e2 s2 v2 n2 xs2) (hne : e1 ≠ e2) (hg : (W.alloc o).grownBy w8 v2.ownBlock) : w8.ownsRow b1 e1 s1 v1 n1 xs1 :=
  (h1.alloc o).kept hg (own_other (h1.alloc o) (h2.alloc o) hne)
abbrev RowsW (w0 : World) (ys : List (List Int × Sl)) : Prop := ∀ y ∈ ys, Rd w0 y.2.A y.2.n (ivs y.1)
set_option maxRecDepth 16000 in
set_option maxHeartbeats 8000000 in
theorem law_LearnSound (A : Option Addr) (n c : Nat) (l : List St) (B : Option Addr) (m cb : Nat) (bad : List Int) (w : World) (hnc : n ≤ c) (hn : n ≤ maxLen) (hr : RdT w A n l) (hm : m ≤ maxLen) (hrb : Rd w B m (ivs bad)) :
    Calls Try.prog 6 #[.slice A n c, .slice B m cb] w fun e w' => e = .returned (.bool true) ∧ Below w.heap.size w w' := by
  have HFew := hide (law_few A n c l B m cb bad w hn hr hm hrb)
  obtain ⟨fb, hfb⟩ : ∃ fb, fewB l bad = fb := ⟨_, rfl⟩
  rw [hfb] at HFew
  have HL := hide law_lives
  cases fb with
  | false =>
    clear hfb hn hm hr hrb
    go_enter Try.func6, Try.ntmps6
    go_wp2_with fail
    refine HFew.out.mono ?_
    rintro e w1 ⟨rfl, rfl⟩
    go_wp2_with fail
    refine (HL.out w).mono ?_
    rintro e w2 ⟨rfl, hb⟩
    replace hb := hide hb
    go_wp2
    go_ret
    exact ⟨rfl, hb.out⟩
  | true =>
    obtain ⟨hw, hn60, hm30⟩ := few_iff.1 hfb
    have hbl := hrb.len
    rw [hr.1] at hn60
    rw [hbl] at hm30
    have hwb := hide (fun s hs => Nat.le_trans (hw s hs) (show 30 ≤ 1000 by omega))
    replace hw := hide hw
    replace hbl := hide hbl
    have hll := hide hr.1
    have hnI : (n : Int) ≤ 60 := by omega
    obtain ⟨gb, hgb⟩ : ∃ gb, goodB l bad = gb := ⟨_, rfl⟩
    have HG := hide (goodS_is (c := c) (cb := cb) hgb w (by omega) hnc hr hwb.out (by omega) hrb)
    clear hfb hn hm
    cases gb with
    | false =>
      clear hgb
      go_enter Try.func6, Try.ntmps6
      go_wp2_with fail
      refine HFew.out.mono ?_
      rintro e w1 ⟨rfl, rfl⟩
      go_wp2_with fail
      refine HG.out.mono ?_
      rintro e w1 ⟨rfl, hb1⟩
      replace hb1 := hide hb1
      go_wp2_with fail
      refine (HL.out w1).mono ?_
      rintro e w2 ⟨rfl, hb2⟩
      have hB2 := hide (hb1.out.trans (hb2.mono hb1.out.size))
      clear hb1 hb2
      go_wp2
      go_ret
      exact ⟨rfl, hB2.out⟩
    | true =>
      by_cases hn0 : n = 0
      · subst hn0
        clear hgb
        go_enter Try.func6, Try.ntmps6
        go_wp2_with fail
        refine HFew.out.mono ?_
        rintro e w1 ⟨rfl, rfl⟩
        go_wp2_with fail
        refine HG.out.mono ?_
        rintro e w1 ⟨rfl, hb1⟩
        replace hb1 := hide hb1
        go_wp2_with fail
        refine (HL.out w1).mono ?_
        rintro e w2 ⟨rfl, hb2⟩
        have hB2 := hide (hb1.out.trans (hb2.mono hb1.out.size))
        clear hb1 hb2
        go_wp2
        go_ret
        exact ⟨rfl, hB2.out⟩
      · have hz1 : ((n : Int) == 0) = false := by simp; omega
        have hz2 : ¬ (n : Int) = 0 := by omega
        replace hgb := hide hgb
        go_enter Try.func6, Try.ntmps6
        go_wp2_with fail
        refine HFew.out.mono ?_
        rintro e w1 ⟨rfl, rfl⟩
        clear HFew
        go_wp2_with fail
        refine HG.out.mono ?_
        rintro e w1 ⟨rfl, hb1⟩
        replace hb1 := hide hb1
        clear HG
        go_wp2_with fail
        refine (law_of A n c l w1 hn60 (hr.below hb1.out (Nat.le_refl _)) hw.out).mono ?_
        rintro e w2 ⟨A1, c1, rfl, hT1, hb2⟩
        have hB2 := hide (hb1.out.trans (hb2.mono hb1.out.size))
        clear hb1 hb2
        go_wp2_with fail
        refine (learn_First A1 n c1 l B m cb bad w2 (by omega) hT1 hwb.out (by omega) (hrb.below hB2.out (Nat.le_refl _))).mono ?_
        rintro e wF ⟨r, hfi, hfw, hb3⟩
        have hBF := hide (hB2.out.trans (hb3.mono hB2.out.size))
        clear hT1 hB2 hb3
        cases r with
        | none =>
          have hfw : e = .returned (.tuple #[.slice none 0 0, .int .i64 0, .bool false]) := hfw
          subst hfw
          clear hfi
          go_wp2_with fail
          refine (HL.out wF).mono ?_
          rintro e w9 ⟨rfl, hb9⟩
          have hB9 := hide (hBF.out.trans (hb9.mono hBF.out.size))
          clear hb9 hBF
          go_wp2
          go_ret
          exact ⟨rfl, hB9.out⟩
        | some p =>
          obtain ⟨cc, b⟩ := p
          obtain ⟨A5, n5, c5, rfl, hn5, hr5⟩ := hfw
          have hLd := hide (learned_of hfi)
          have h5l := hide hr5.len
          have hn5n : n5 ≤ n := by have := hLd.out.len; have := h5l.out; have := hll.out; omega
          have hn5I : (n5 : Int) ≤ 60 := by omega
          have hix : (n : Int) - 1 = ((n - 1 : Nat) : Int) := by omega
          have hixw : IntKind.i64.wrap ((n : Int) - 1) = ((n - 1 : Nat) : Int) := by rw [IntWalk.i64_in _ (by omega)]; omega
          obtain ⟨N1, hN1⟩ : ∃ N1, n - 1 = N1 := ⟨_, rfl⟩
          have hN1n : N1 < n := by omega
          have hN1w : IntKind.i64.wrap ((N1 : Nat) : Int) = (N1 : Int) := IntWalk.i64_in _ (by omega)
          have hlastS := hide (show lastL l = (stAt l N1).lev by unfold lastL; rw [hll.out, hN1])
          rw [hN1] at hix hixw
          obtain ⟨ad, s, z, rfl, hB, hs, _, c1w, _, _⟩ := hr.get hN1n
          rw [stAt_is hs] at hlastS
          obtain ⟨lt, lv, wy⟩ := s
          simp only at c1w hlastS
          have hltN : (ad.add (N1 * 3)).block < w.heap.size := by rw [add_block]; exact hB
          have c1F := (hBF.out.cell (p := ⟨(ad.add (N1 * 3)).block, (ad.add (N1 * 3)).off + 1, none⟩) hltN).trans c1w
          clear hs hfi hgb
          go_wp2
          refine wp_region_slots [51, 52, 53, 54, 55, 56, 57, 8, 9] (fun D g wz => g 0 = .slice (some ad) n c ∧ Dr wF wz ∧ (D 0 → g 51 = .slice (some ad) n c) ∧ (D 1 → g 52 = .slice (some ad) n c) ∧ (D 2 → g 53 = .int .i64 n) ∧ (D 3 → g 54 = .int .i64 N1) ∧ (D 4 → g 55 = .pointer (some (ad.add (N1 * 3)))) ∧ (D 5 → g 56 = .pointer (some ⟨(ad.add (N1 * 3)).block, (ad.add (N1 * 3)).off + 1, none⟩)) ∧ (D 6 → g 57 = .int .i64 lv) ∧ (D 7 → g 8 = .int .i64 0) ∧ (D 8 → g 9 = .int .i64 lv)) (by kernel_rfl) (by kernel_rfl) 213 rfl (by kernel_rfl) ?h0 ?hstep ?hdone
          case h0 => exact ⟨rfl, (Dr.refl wF).drew, nt0, nt0, nt0, nt0, nt0, nt0, nt0, nt0, nt0⟩
          case hstep =>
            intro D g wz i hi' hn hd' hI2
            obtain ⟨r0, hbz, f0, f1, f2, f3, f4, f5, f6, f7, f8⟩ := hI2
            have hi' : i < 9 := hi'
            rcases (show i = 0 ∨ i = 1 ∨ i = 2 ∨ i = 3 ∨ i = 4 ∨ i = 5 ∨ i = 6 ∨ i = 7 ∨ i = 8 by omega) with rfl | rfl | rfl | rfl | rfl | rfl | rfl | rfl | rfl
            · -- 0
              refine slot_step rfl rfl (fun az hs K hK => ?_)
              have hK : Shut _ := hK
              have e0 := hs.get 0
              rw [r0] at e0
              go_simp
              exact hK.out _ _ ⟨r0, hbz, fun _ => rfl, kp f1, kp f2, kp f3, kp f4, kp f5, kp f6, kp f7, kp f8⟩
            · -- 1
              refine slot_step rfl rfl (fun az hs K hK => ?_)
              have hK : Shut _ := hK
              have e0 := hs.get 0
              rw [r0] at e0
              go_simp
              exact hK.out _ _ ⟨r0, hbz, kp f0, fun _ => rfl, kp f2, kp f3, kp f4, kp f5, kp f6, kp f7, kp f8⟩
            · -- 2
              have d1 := f1 (hd' 1 (by kernel_rfl))
              refine slot_step rfl rfl (fun az hs K hK => ?_)
              have hK : Shut _ := hK
              have e52 := hs.get 52
              rw [d1] at e52
              go_simp
              exact hK.out _ _ ⟨r0, hbz, kp f0, kp f1, fun _ => rfl, kp f3, kp f4, kp f5, kp f6, kp f7, kp f8⟩
            · -- 3
              have d2 := f2 (hd' 2 (by kernel_rfl))
              refine slot_step rfl rfl (fun az hs K hK => ?_)
              have hK : Shut _ := hK
              have e53 := hs.get 53
              rw [d2] at e53
              go_simp
              exact hK.out _ _ ⟨r0, hbz, kp f0, kp f1, kp f2, fun _ => rfl, kp f4, kp f5, kp f6, kp f7, kp f8⟩
            · -- 4
              have d0 := f0 (hd' 0 (by kernel_rfl))
              have d3 := f3 (hd' 3 (by kernel_rfl))
              refine slot_step rfl rfl (fun az hs K hK => ?_)
              have hK : Shut _ := hK
              have e51 := hs.get 51
              rw [d0] at e51
              have e54 := hs.get 54
              rw [d3] at e54
              go_simp
              exact hK.out _ _ ⟨r0, hbz, kp f0, kp f1, kp f2, kp f3, fun _ => rfl, kp f5, kp f6, kp f7, kp f8⟩
            · -- 5
              have d4 := f4 (hd' 4 (by kernel_rfl))
              refine slot_step rfl rfl (fun az hs K hK => ?_)
              have hK : Shut _ := hK
              have e55 := hs.get 55
              rw [d4] at e55
              go_simp
              exact hK.out _ _ ⟨r0, hbz, kp f0, kp f1, kp f2, kp f3, kp f4, fun _ => rfl, kp f6, kp f7, kp f8⟩
            · -- 6
              have d5 := f5 (hd' 5 (by kernel_rfl))
              refine slot_step rfl rfl (fun az hs K hK => ?_)
              have hK : Shut _ := hK
              have cz := (hbz.cell _).trans c1F
              have e56 := hs.get 56
              rw [d5] at e56
              go_simp
              exact hK.out _ _ ⟨r0, hbz, kp f0, kp f1, kp f2, kp f3, kp f4, kp f5, fun _ => rfl, kp f7, kp f8⟩
            · -- 7
              refine slot_step rfl rfl (fun az hs K hK => ?_)
              have hK : Shut _ := hK
              go_simp
              exact hK.out _ _ ⟨r0, hbz, kp f0, kp f1, kp f2, kp f3, kp f4, kp f5, kp f6, fun _ => rfl, kp f8⟩
            · -- 8
              have d6 := f6 (hd' 6 (by kernel_rfl))
              refine slot_step rfl rfl (fun az hs K hK => ?_)
              have hK : Shut _ := hK
              have e57 := hs.get 57
              rw [d6] at e57
              go_simp
              exact hK.out _ _ ⟨r0, hbz, kp f0, kp f1, kp f2, kp f3, kp f4, kp f5, kp f6, kp f7, fun _ => rfl⟩
          case hdone =>
            rintro D g wz hD ⟨r0, hbz, f0, f1, f2, f3, f4, f5, f6, f7, f8⟩
            simp only [setAll, List.foldl_cons, List.foldl_nil, List.setIfInBounds_toArray, List.set_cons_succ, List.set_cons_zero]
            have e8 := f7 (hD 7)
            have e9 := f8 (hD 8)
            rw [e8, e9]
            clear f0 f1 f2 f3 f4 f5 f6 f7 f8 hD r0 e8 e9
            have hB6 := hide (hBF.out.trans ((hbz.below _).mono hBF.out.size))
            have hr6 := hide (hr5.below (hbz.below _) (Nat.le_refl _))
            obtain ⟨w6, hw6⟩ : ∃ w6, w6 = wz := ⟨_, rfl⟩
            subst hw6
            clear hbz hr5 hBF c1F c1w hltN hB
            go_wp2
            go_loopw [8, 10] (fun h i wr => ∃ k : Nat, k ≤ n5 ∧ i = .int .i64 k ∧ h = .int .i64 (hereP l (cc.take k)) ∧ Hid (Dr w6 wr)) (fun _ i _ => n5 - (intOf i).toNat)
            case atStart => exact ⟨0, Nat.zero_le _, rfl, rfl, hide (Dr.refl w6)⟩
            case round =>
              obtain ⟨k, hk, rfl, rfl, hd⟩ := hrel
              obtain ⟨wo, hwo⟩ : ∃ wo, wo = wr := ⟨_, rfl⟩
              subst hwo
              have hkI : (k : Int) ≤ 60 := by omega
              obtain ⟨h0, hh0⟩ : ∃ h0, hereP l (cc.take k) = h0 := ⟨_, rfl⟩
              rw [hh0]
              by_cases hlt : k < n5
              · have hltI : (k : Int) < n5 := by omega
                obtain ⟨a5, x, rfl, hB5, hx, cx6⟩ := hr6.out.get hlt
                have hxm := List.mem_of_getElem? hx
                have hM := hide (hLd.out.mem x hxm)
                have hlev0 := hLd.out.lev x hxm
                have hbk := hLd.out.back x hxm
                have hnx := here_next (l := l) hx
                rw [hh0] at hnx
                have hh0b : h0 ≤ 60 := by
                  have h1 : h0 ≤ (cc.take k).length := by rw [← hh0]; unfold hereP; exact List.length_filter_le _ _
                  rw [List.length_take] at h1; omega
                have hh0I : (h0 : Int) ≤ 60 := by omega
                have hpl := hM.out.lt
                have hpi := hide (fun k (hk : k < l.length) => place_iff hLd.out.good hM.out hk)
                have hle := lev_last hLd.out.good.1 hpl
                have hle : levOf l x ≤ lastL l := hle
                rw [hlastS.out] at hle hbk hnx
                have hx1 := hM.out.one
                have hxg := hM.out.good
                obtain ⟨P, hP⟩ : ∃ P, plN l x = P := ⟨_, rfl⟩
                have hPn : P < n := by rw [← hP, ← hll.out]; exact hpl
                have hPI : (P : Int) < n := by omega
                obtain ⟨ad3, s1, z1, had, hBP, hs1, _, cPw, _, _⟩ := hr.get hPn
                injection had with had
                subst had
                have hlevP : levOf l x = s1.lev := by unfold levOf; rw [hP, stAt_is hs1]
                obtain ⟨lt1, lv1, wy1⟩ := s1
                simp only at cPw hlevP
                rw [hlevP] at hle hbk hnx hlev0
                rw [hP] at hpi
                have hltP : (ad.add (P * 3)).block < w.heap.size := by rw [add_block]; exact hBP
                have HG := hide (fun W => good_is hxg W)
                obtain ⟨NX, hNX⟩ : ∃ NX, litNot x = NX := ⟨_, rfl⟩
                have HN := hide (fun W => by have := ref_Not x W; rw [hNX] at this; exact this)
                rw [hNX] at hpi
                have d1 : decide (1 < x) = true := decide_eq_true hx1
                replace hnx := hide hnx
                replace hbk := hide hbk
                replace hle := hide hle
                replace hlev0 := hide hlev0
                clear hx hh0 hP hs1 hxm hpl hxg hNX hM hlevP
                go_wp2
                go_loopw [11, 12] (fun a j wr => ∃ (q : Nat) (av : Int), q ≤ n ∧ j = .int .i64 q ∧ a = .int .i64 av ∧ Hid (av = if P < q then (P : Int) else -1) ∧ Hid (Dr w6 wr)) (fun _ j _ => n - (intOf j).toNat)
                case atStart => exact ⟨0, -1, Nat.zero_le _, rfl, rfl, hide (by simp), hd⟩
                case round =>
                  obtain ⟨q, av, hq, rfl, rfl, hav, hd2⟩ := hrel
                  clear hd
                  have hqI : (q : Int) ≤ 60 := by omega
                  by_cases hqn : q < n
                  · have hqnI : (q : Int) < n := by omega
                    obtain ⟨ad4, s4, z4, had, hB4, hs4, c4w, _, _, _⟩ := hr.get hqn
                    injection had with had
                    subst had
                    have hst4 := stAt_is hs4
                    obtain ⟨lt4, lv4, wy4⟩ := s4
                    simp only at c4w
                    have hpq := hpi.out q (by rw [hll.out]; exact hqn)
                    rw [hst4] at hpq
                    simp only at hpq
                    have hltq : (ad.add (q * 3)).block < w.heap.size := by rw [add_block]; exact hB4
                    have c4 := (hd2.out.cell _).trans ((hB6.out.cell hltq).trans c4w)
                    have cx := (hd2.out.cell _).trans cx6
                    clear hs4 hst4 c4w
                    by_cases hqp : q = P
                    · have e4 : (lt4 == NX) = true := by rw [hpq.2 hqp]; simp
                      subst hqp
                      clear hpq
                      go_wp2
                      refine wp_region_slots [70, 71, 72, 73, 74, 75, 76, 77, 78, 79, 80, 81, 82, 83, 84, 85, 86, 87, 88, 89, 90, 91, 92, 93, 94] (fun D g wz => g 0 = .slice (some ad) n c ∧ g 5 = .slice (some a5) n5 c5 ∧ g 10 = .int .i64 k ∧ g 12 = .int .i64 q ∧ Dr wr wz ∧ (D 0 → g 70 = .slice (some a5) n5 c5) ∧ (D 1 → g 71 = .int .i64 k) ∧ (D 2 → g 72 = .pointer (some (a5.add k))) ∧ (D 3 → g 73 = .int .i64 x) ∧ (D 4 → g 74 = .bool true) ∧ (D 5 → g 75 = .bool true) ∧ (D 6 → g 76 = .slice (some a5) n5 c5) ∧ (D 7 → g 77 = .int .i64 k) ∧ (D 8 → g 78 = .pointer (some (a5.add k))) ∧ (D 9 → g 79 = .int .i64 x) ∧ (D 10 → g 80 = .bool true) ∧ (D 11 → g 81 = .bool true) ∧ (D 12 → g 82 = .bool true) ∧ (D 13 → g 83 = .slice (some ad) n c) ∧ (D 14 → g 84 = .int .i64 q) ∧ (D 15 → g 85 = .pointer (some (ad.add (q * 3)))) ∧ (D 16 → g 86 = .pointer (some (ad.add (q * 3)))) ∧ (D 17 → g 87 = .int .i64 lt4) ∧ (D 18 → g 88 = .slice (some a5) n5 c5) ∧ (D 19 → g 89 = .int .i64 k) ∧ (D 20 → g 90 = .pointer (some (a5.add k))) ∧ (D 21 → g 91 = .int .i64 x) ∧ (D 22 → g 92 = .int .i64 NX) ∧ (D 23 → g 93 = .bool true) ∧ (D 24 → g 94 = .bool true)) (by kernel_rfl) (by kernel_rfl) 213 rfl (by kernel_rfl) ?h0 ?hstep ?hdone
                      case h0 => exact ⟨rfl, rfl, rfl, rfl, (Dr.refl wr).drew, nt0, nt0, nt0, nt0, nt0, nt0, nt0, nt0, nt0, nt0, nt0, nt0, nt0, nt0, nt0, nt0, nt0, nt0, nt0, nt0, nt0, nt0, nt0, nt0, nt0⟩
                      case hstep =>
                        intro D g wz i hi' hn hd' hI2
                        obtain ⟨r0, r5, r10, r12, hbz, f0, f1, f2, f3, f4, f5, f6, f7, f8, f9, f10, f11, f12, f13, f14, f15, f16, f17, f18, f19, f20, f21, f22, f23, f24⟩ := hI2
                        have hi' : i < 25 := hi'
                        rcases (show i = 0 ∨ i = 1 ∨ i = 2 ∨ i = 3 ∨ i = 4 ∨ i = 5 ∨ i = 6 ∨ i = 7 ∨ i = 8 ∨ i = 9 ∨ i = 10 ∨ i = 11 ∨ i = 12 ∨ i = 13 ∨ i = 14 ∨ i = 15 ∨ i = 16 ∨ i = 17 ∨ i = 18 ∨ i = 19 ∨ i = 20 ∨ i = 21 ∨ i = 22 ∨ i = 23 ∨ i = 24 by omega) with rfl | rfl | rfl | rfl | rfl | rfl | rfl | rfl | rfl | rfl | rfl | rfl | rfl | rfl | rfl | rfl | rfl | rfl | rfl | rfl | rfl | rfl | rfl | rfl | rfl
                        · -- 0
                          refine slot_step rfl rfl (fun az hs K hK => ?_)
                          have hK : Shut _ := hK
                          have e5 := hs.get 5
                          rw [r5] at e5
                          go_simp
                          exact hK.out _ _ ⟨r0, r5, r10, r12, hbz, fun _ => rfl, kp f1, kp f2, kp f3, kp f4, kp f5, kp f6, kp f7, kp f8, kp f9, kp f10, kp f11, kp f12, kp f13, kp f14, kp f15, kp f16, kp f17, kp f18, kp f19, kp f20, kp f21, kp f22, kp f23, kp f24⟩
                        · -- 1
                          refine slot_step rfl rfl (fun az hs K hK => ?_)
                          have hK : Shut _ := hK
                          have e10 := hs.get 10
                          rw [r10] at e10
                          go_simp
                          exact hK.out _ _ ⟨r0, r5, r10, r12, hbz, kp f0, fun _ => rfl, kp f2, kp f3, kp f4, kp f5, kp f6, kp f7, kp f8, kp f9, kp f10, kp f11, kp f12, kp f13, kp f14, kp f15, kp f16, kp f17, kp f18, kp f19, kp f20, kp f21, kp f22, kp f23, kp f24⟩
                        · -- 2
                          have d0 := f0 (hd' 0 (by kernel_rfl))
                          have d1 := f1 (hd' 1 (by kernel_rfl))
                          refine slot_step rfl rfl (fun az hs K hK => ?_)
                          have hK : Shut _ := hK
                          have e70 := hs.get 70
                          rw [d0] at e70
                          have e71 := hs.get 71
                          rw [d1] at e71
                          go_simp
                          exact hK.out _ _ ⟨r0, r5, r10, r12, hbz, kp f0, kp f1, fun _ => rfl, kp f3, kp f4, kp f5, kp f6, kp f7, kp f8, kp f9, kp f10, kp f11, kp f12, kp f13, kp f14, kp f15, kp f16, kp f17, kp f18, kp f19, kp f20, kp f21, kp f22, kp f23, kp f24⟩
                        · -- 3
                          have d2 := f2 (hd' 2 (by kernel_rfl))
                          refine slot_step rfl rfl (fun az hs K hK => ?_)
                          have hK : Shut _ := hK
                          have cz := (hbz.cell _).trans cx
                          have e72 := hs.get 72
                          rw [d2] at e72
                          go_simp
                          exact hK.out _ _ ⟨r0, r5, r10, r12, hbz, kp f0, kp f1, kp f2, fun _ => rfl, kp f4, kp f5, kp f6, kp f7, kp f8, kp f9, kp f10, kp f11, kp f12, kp f13, kp f14, kp f15, kp f16, kp f17, kp f18, kp f19, kp f20, kp f21, kp f22, kp f23, kp f24⟩
                        · -- 4
                          have d3 := f3 (hd' 3 (by kernel_rfl))
                          refine slot_step rfl rfl (fun az hs K hK => ?_)
                          have hK : Shut _ := hK
                          have e73 := hs.get 73
                          rw [d3] at e73
                          go_simp
                          exact hK.out _ _ ⟨r0, r5, r10, r12, hbz, kp f0, kp f1, kp f2, kp f3, fun _ => rfl, kp f5, kp f6, kp f7, kp f8, kp f9, kp f10, kp f11, kp f12, kp f13, kp f14, kp f15, kp f16, kp f17, kp f18, kp f19, kp f20, kp f21, kp f22, kp f23, kp f24⟩
                        · -- 5
                          have d4 := f4 (hd' 4 (by kernel_rfl))
                          refine slot_step rfl rfl (fun az hs K hK => ?_)
                          have hK : Shut _ := hK
                          have e74 := hs.get 74
                          rw [d4] at e74
                          go_simp
                          exact hK.out _ _ ⟨r0, r5, r10, r12, hbz, kp f0, kp f1, kp f2, kp f3, kp f4, fun _ => rfl, kp f6, kp f7, kp f8, kp f9, kp f10, kp f11, kp f12, kp f13, kp f14, kp f15, kp f16, kp f17, kp f18, kp f19, kp f20, kp f21, kp f22, kp f23, kp f24⟩
                        · -- 6
                          have d5 := f5 (hd' 5 (by kernel_rfl))
                          refine slot_step_yes (j := 5) (d := 75) rfl rfl rfl (by decide) (d5) (fun az hs K hK => ?_)
                          have hK : Shut _ := hK
                          have e75 := hs.get 75
                          rw [d5] at e75
                          have e5 := hs.get 5
                          rw [r5] at e5
                          go_simp
                          exact hK.out _ _ ⟨r0, r5, r10, r12, hbz, kp f0, kp f1, kp f2, kp f3, kp f4, kp f5, fun _ => rfl, kp f7, kp f8, kp f9, kp f10, kp f11, kp f12, kp f13, kp f14, kp f15, kp f16, kp f17, kp f18, kp f19, kp f20, kp f21, kp f22, kp f23, kp f24⟩
                        · -- 7
                          have d5 := f5 (hd' 5 (by kernel_rfl))
                          refine slot_step_yes (j := 5) (d := 75) rfl rfl rfl (by decide) (d5) (fun az hs K hK => ?_)
                          have hK : Shut _ := hK
                          have e75 := hs.get 75
                          rw [d5] at e75
                          have e10 := hs.get 10
                          rw [r10] at e10
                          go_simp
                          exact hK.out _ _ ⟨r0, r5, r10, r12, hbz, kp f0, kp f1, kp f2, kp f3, kp f4, kp f5, kp f6, fun _ => rfl, kp f8, kp f9, kp f10, kp f11, kp f12, kp f13, kp f14, kp f15, kp f16, kp f17, kp f18, kp f19, kp f20, kp f21, kp f22, kp f23, kp f24⟩
                        · -- 8
                          have d5 := f5 (hd' 5 (by kernel_rfl))
                          have d6 := f6 (hd' 6 (by kernel_rfl))
                          have d7 := f7 (hd' 7 (by kernel_rfl))
                          refine slot_step_yes (j := 5) (d := 75) rfl rfl rfl (by decide) (d5) (fun az hs K hK => ?_)
                          have hK : Shut _ := hK
                          have e75 := hs.get 75
                          rw [d5] at e75
                          have e76 := hs.get 76
                          rw [d6] at e76
                          have e77 := hs.get 77
                          rw [d7] at e77
                          go_simp
                          exact hK.out _ _ ⟨r0, r5, r10, r12, hbz, kp f0, kp f1, kp f2, kp f3, kp f4, kp f5, kp f6, kp f7, fun _ => rfl, kp f9, kp f10, kp f11, kp f12, kp f13, kp f14, kp f15, kp f16, kp f17, kp f18, kp f19, kp f20, kp f21, kp f22, kp f23, kp f24⟩
                        · -- 9
                          have d5 := f5 (hd' 5 (by kernel_rfl))
                          have d8 := f8 (hd' 8 (by kernel_rfl))
                          refine slot_step_yes (j := 5) (d := 75) rfl rfl rfl (by decide) (d5) (fun az hs K hK => ?_)
                          have hK : Shut _ := hK
                          have cz := (hbz.cell _).trans cx
                          have e75 := hs.get 75
                          rw [d5] at e75
                          have e78 := hs.get 78
                          rw [d8] at e78
                          go_simp
                          exact hK.out _ _ ⟨r0, r5, r10, r12, hbz, kp f0, kp f1, kp f2, kp f3, kp f4, kp f5, kp f6, kp f7, kp f8, fun _ => rfl, kp f10, kp f11, kp f12, kp f13, kp f14, kp f15, kp f16, kp f17, kp f18, kp f19, kp f20, kp f21, kp f22, kp f23, kp f24⟩
                        · -- 10
                          have d5 := f5 (hd' 5 (by kernel_rfl))
                          have d9 := f9 (hd' 9 (by kernel_rfl))
                          refine slot_step_yes (j := 5) (d := 75) rfl rfl rfl (by decide) (d5) (fun az hs K hK => ?_)
                          have hK : Shut _ := hK
                          have e75 := hs.get 75
                          rw [d5] at e75
                          have e79 := hs.get 79
                          rw [d9] at e79
                          go_wp2_with (go_at_call 33; refine (HG.out wz).mono ?_; rintro e wy ⟨rfl, rfl⟩; have hdr := Dr.refl wz)
                          exact ⟨r0, r5, r10, r12, hbz.trans hdr, kp f0, kp f1, kp f2, kp f3, kp f4, kp f5, kp f6, kp f7, kp f8, kp f9, fun _ => rfl, kp f11, kp f12, kp f13, kp f14, kp f15, kp f16, kp f17, kp f18, kp f19, kp f20, kp f21, kp f22, kp f23, kp f24⟩
                        · -- 11
                          have d5 := f5 (hd' 5 (by kernel_rfl))
                          have d10 := f10 (hd' 10 (by kernel_rfl))
                          refine slot_step rfl rfl (fun az hs K hK => ?_)
                          have hK : Shut _ := hK
                          have e75 := hs.get 75
                          rw [d5] at e75
                          have e80 := hs.get 80
                          rw [d10] at e80
                          go_simp
                          exact hK.out _ _ ⟨r0, r5, r10, r12, hbz, kp f0, kp f1, kp f2, kp f3, kp f4, kp f5, kp f6, kp f7, kp f8, kp f9, kp f10, fun _ => rfl, kp f12, kp f13, kp f14, kp f15, kp f16, kp f17, kp f18, kp f19, kp f20, kp f21, kp f22, kp f23, kp f24⟩
                        · -- 12
                          have d11 := f11 (hd' 11 (by kernel_rfl))
                          refine slot_step rfl rfl (fun az hs K hK => ?_)
                          have hK : Shut _ := hK
                          have e81 := hs.get 81
                          rw [d11] at e81
                          go_simp
                          exact hK.out _ _ ⟨r0, r5, r10, r12, hbz, kp f0, kp f1, kp f2, kp f3, kp f4, kp f5, kp f6, kp f7, kp f8, kp f9, kp f10, kp f11, fun _ => rfl, kp f13, kp f14, kp f15, kp f16, kp f17, kp f18, kp f19, kp f20, kp f21, kp f22, kp f23, kp f24⟩
                        · -- 13
                          have d12 := f12 (hd' 12 (by kernel_rfl))
                          refine slot_step_yes (j := 12) (d := 82) rfl rfl rfl (by decide) (d12) (fun az hs K hK => ?_)
                          have hK : Shut _ := hK
                          have e82 := hs.get 82
                          rw [d12] at e82
                          have e0 := hs.get 0
                          rw [r0] at e0
                          go_simp
                          exact hK.out _ _ ⟨r0, r5, r10, r12, hbz, kp f0, kp f1, kp f2, kp f3, kp f4, kp f5, kp f6, kp f7, kp f8, kp f9, kp f10, kp f11, kp f12, fun _ => rfl, kp f14, kp f15, kp f16, kp f17, kp f18, kp f19, kp f20, kp f21, kp f22, kp f23, kp f24⟩
                        · -- 14
                          have d12 := f12 (hd' 12 (by kernel_rfl))
                          refine slot_step_yes (j := 12) (d := 82) rfl rfl rfl (by decide) (d12) (fun az hs K hK => ?_)
                          have hK : Shut _ := hK
                          have e82 := hs.get 82
                          rw [d12] at e82
                          have e12 := hs.get 12
                          rw [r12] at e12
                          go_simp
                          exact hK.out _ _ ⟨r0, r5, r10, r12, hbz, kp f0, kp f1, kp f2, kp f3, kp f4, kp f5, kp f6, kp f7, kp f8, kp f9, kp f10, kp f11, kp f12, kp f13, fun _ => rfl, kp f15, kp f16, kp f17, kp f18, kp f19, kp f20, kp f21, kp f22, kp f23, kp f24⟩
                        · -- 15
                          have d12 := f12 (hd' 12 (by kernel_rfl))
                          have d13 := f13 (hd' 13 (by kernel_rfl))
                          have d14 := f14 (hd' 14 (by kernel_rfl))
                          refine slot_step_yes (j := 12) (d := 82) rfl rfl rfl (by decide) (d12) (fun az hs K hK => ?_)
                          have hK : Shut _ := hK
                          have e82 := hs.get 82
                          rw [d12] at e82
                          have e83 := hs.get 83
                          rw [d13] at e83
                          have e84 := hs.get 84
                          rw [d14] at e84
                          go_simp
                          exact hK.out _ _ ⟨r0, r5, r10, r12, hbz, kp f0, kp f1, kp f2, kp f3, kp f4, kp f5, kp f6, kp f7, kp f8, kp f9, kp f10, kp f11, kp f12, kp f13, kp f14, fun _ => rfl, kp f16, kp f17, kp f18, kp f19, kp f20, kp f21, kp f22, kp f23, kp f24⟩
                        · -- 16
                          have d12 := f12 (hd' 12 (by kernel_rfl))
                          have d15 := f15 (hd' 15 (by kernel_rfl))
                          refine slot_step_yes (j := 12) (d := 82) rfl rfl rfl (by decide) (d12) (fun az hs K hK => ?_)
                          have hK : Shut _ := hK
                          have e82 := hs.get 82
                          rw [d12] at e82
                          have e85 := hs.get 85
                          rw [d15] at e85
                          go_simp
                          exact hK.out _ _ ⟨r0, r5, r10, r12, hbz, kp f0, kp f1, kp f2, kp f3, kp f4, kp f5, kp f6, kp f7, kp f8, kp f9, kp f10, kp f11, kp f12, kp f13, kp f14, kp f15, fun _ => rfl, kp f17, kp f18, kp f19, kp f20, kp f21, kp f22, kp f23, kp f24⟩
                        · -- 17
                          have d12 := f12 (hd' 12 (by kernel_rfl))
                          have d16 := f16 (hd' 16 (by kernel_rfl))
                          refine slot_step_yes (j := 12) (d := 82) rfl rfl rfl (by decide) (d12) (fun az hs K hK => ?_)
                          have hK : Shut _ := hK
                          have cz := (hbz.cell _).trans c4
                          have e82 := hs.get 82
                          rw [d12] at e82
                          have e86 := hs.get 86
                          rw [d16] at e86
                          go_simp
                          exact hK.out _ _ ⟨r0, r5, r10, r12, hbz, kp f0, kp f1, kp f2, kp f3, kp f4, kp f5, kp f6, kp f7, kp f8, kp f9, kp f10, kp f11, kp f12, kp f13, kp f14, kp f15, kp f16, fun _ => rfl, kp f18, kp f19, kp f20, kp f21, kp f22, kp f23, kp f24⟩
                        · -- 18
                          have d12 := f12 (hd' 12 (by kernel_rfl))
                          refine slot_step_yes (j := 12) (d := 82) rfl rfl rfl (by decide) (d12) (fun az hs K hK => ?_)
                          have hK : Shut _ := hK
                          have e82 := hs.get 82
                          rw [d12] at e82
                          have e5 := hs.get 5
                          rw [r5] at e5
                          go_simp
                          exact hK.out _ _ ⟨r0, r5, r10, r12, hbz, kp f0, kp f1, kp f2, kp f3, kp f4, kp f5, kp f6, kp f7, kp f8, kp f9, kp f10, kp f11, kp f12, kp f13, kp f14, kp f15, kp f16, kp f17, fun _ => rfl, kp f19, kp f20, kp f21, kp f22, kp f23, kp f24⟩
                        · -- 19
                          have d12 := f12 (hd' 12 (by kernel_rfl))
                          refine slot_step_yes (j := 12) (d := 82) rfl rfl rfl (by decide) (d12) (fun az hs K hK => ?_)
                          have hK : Shut _ := hK
                          have e82 := hs.get 82
                          rw [d12] at e82
                          have e10 := hs.get 10
                          rw [r10] at e10
                          go_simp
                          exact hK.out _ _ ⟨r0, r5, r10, r12, hbz, kp f0, kp f1, kp f2, kp f3, kp f4, kp f5, kp f6, kp f7, kp f8, kp f9, kp f10, kp f11, kp f12, kp f13, kp f14, kp f15, kp f16, kp f17, kp f18, fun _ => rfl, kp f20, kp f21, kp f22, kp f23, kp f24⟩
                        · -- 20
                          have d12 := f12 (hd' 12 (by kernel_rfl))
                          have d18 := f18 (hd' 18 (by kernel_rfl))
                          have d19 := f19 (hd' 19 (by kernel_rfl))
                          refine slot_step_yes (j := 12) (d := 82) rfl rfl rfl (by decide) (d12) (fun az hs K hK => ?_)
                          have hK : Shut _ := hK
                          have e82 := hs.get 82
                          rw [d12] at e82
                          have e88 := hs.get 88
                          rw [d18] at e88
                          have e89 := hs.get 89
                          rw [d19] at e89
                          go_simp
                          exact hK.out _ _ ⟨r0, r5, r10, r12, hbz, kp f0, kp f1, kp f2, kp f3, kp f4, kp f5, kp f6, kp f7, kp f8, kp f9, kp f10, kp f11, kp f12, kp f13, kp f14, kp f15, kp f16, kp f17, kp f18, kp f19, fun _ => rfl, kp f21, kp f22, kp f23, kp f24⟩
                        · -- 21
                          have d12 := f12 (hd' 12 (by kernel_rfl))
                          have d20 := f20 (hd' 20 (by kernel_rfl))
                          refine slot_step_yes (j := 12) (d := 82) rfl rfl rfl (by decide) (d12) (fun az hs K hK => ?_)
                          have hK : Shut _ := hK
                          have cz := (hbz.cell _).trans cx
                          have e82 := hs.get 82
                          rw [d12] at e82
                          have e90 := hs.get 90
                          rw [d20] at e90
                          go_simp
                          exact hK.out _ _ ⟨r0, r5, r10, r12, hbz, kp f0, kp f1, kp f2, kp f3, kp f4, kp f5, kp f6, kp f7, kp f8, kp f9, kp f10, kp f11, kp f12, kp f13, kp f14, kp f15, kp f16, kp f17, kp f18, kp f19, kp f20, fun _ => rfl, kp f22, kp f23, kp f24⟩
                        · -- 22
                          have d12 := f12 (hd' 12 (by kernel_rfl))
                          have d21 := f21 (hd' 21 (by kernel_rfl))
                          refine slot_step_yes (j := 12) (d := 82) rfl rfl rfl (by decide) (d12) (fun az hs K hK => ?_)
                          have hK : Shut _ := hK
                          have e82 := hs.get 82
                          rw [d12] at e82
                          have e91 := hs.get 91
                          rw [d21] at e91
                          go_wp2_with (go_at_call 34; refine (HN.out wz).mono ?_; rintro e wy ⟨rfl, rfl⟩; have hdr := Dr.refl wz)
                          exact ⟨r0, r5, r10, r12, hbz.trans hdr, kp f0, kp f1, kp f2, kp f3, kp f4, kp f5, kp f6, kp f7, kp f8, kp f9, kp f10, kp f11, kp f12, kp f13, kp f14, kp f15, kp f16, kp f17, kp f18, kp f19, kp f20, kp f21, fun _ => rfl, kp f23, kp f24⟩
                        · -- 23
                          have d12 := f12 (hd' 12 (by kernel_rfl))
                          have d17 := f17 (hd' 17 (by kernel_rfl))
                          have d22 := f22 (hd' 22 (by kernel_rfl))
                          refine slot_step_yes (j := 12) (d := 82) rfl rfl rfl (by decide) (d12) (fun az hs K hK => ?_)
                          have hK : Shut _ := hK
                          have e82 := hs.get 82
                          rw [d12] at e82
                          have e87 := hs.get 87
                          rw [d17] at e87
                          have e92 := hs.get 92
                          rw [d22] at e92
                          go_simp
                          exact hK.out _ _ ⟨r0, r5, r10, r12, hbz, kp f0, kp f1, kp f2, kp f3, kp f4, kp f5, kp f6, kp f7, kp f8, kp f9, kp f10, kp f11, kp f12, kp f13, kp f14, kp f15, kp f16, kp f17, kp f18, kp f19, kp f20, kp f21, kp f22, fun _ => rfl, kp f24⟩
                        · -- 24
                          have d12 := f12 (hd' 12 (by kernel_rfl))
                          have d23 := f23 (hd' 23 (by kernel_rfl))
                          refine slot_step rfl rfl (fun az hs K hK => ?_)
                          have hK : Shut _ := hK
                          have e82 := hs.get 82
                          rw [d12] at e82
                          have e93 := hs.get 93
                          rw [d23] at e93
                          go_simp
                          exact hK.out _ _ ⟨r0, r5, r10, r12, hbz, kp f0, kp f1, kp f2, kp f3, kp f4, kp f5, kp f6, kp f7, kp f8, kp f9, kp f10, kp f11, kp f12, kp f13, kp f14, kp f15, kp f16, kp f17, kp f18, kp f19, kp f20, kp f21, kp f22, kp f23, fun _ => rfl⟩
                      case hdone =>
                        rintro D g wz hD ⟨r0, r5, r10, r12, hbz, f0, f1, f2, f3, f4, f5, f6, f7, f8, f9, f10, f11, f12, f13, f14, f15, f16, f17, f18, f19, f20, f21, f22, f23, f24⟩
                        simp only [setAll, List.foldl_cons, List.foldl_nil, List.setIfInBounds_toArray, List.set_cons_succ, List.set_cons_zero]
                        have e94 := f24 (hD 24)
                        rw [e94]
                        clear f0 f1 f2 f3 f4 f5 f6 f7 f8 f9 f10 f11 f12 f13 f14 f15 f16 f17 f18 f19 f20 f21 f22 f23 f24 hD r0 r5 r10 r12 e94
                        have hd3 := hide (hd2.out.trans hbz)
                        obtain ⟨w8, hw8⟩ : ∃ w8, w8 = wz := ⟨_, rfl⟩
                        subst hw8
                        clear hbz cx c4 hltq hB4
                        go_wp2
                        go_roundw
                        case rel => exact ⟨q + 1, _, hqn, by go_num, rfl, hide (by rw [if_pos (by omega)]), hd3⟩
                        case measure => simp [intOf]; omega
                    · have e4 : (lt4 == NX) = false := by simp; exact fun e => hqp (hpq.1 e)
                      clear hpq
                      go_wp2
                      refine wp_region_slots [70, 71, 72, 73, 74, 75, 76, 77, 78, 79, 80, 81, 82, 83, 84, 85, 86, 87, 88, 89, 90, 91, 92, 93, 94] (fun D g wz => g 0 = .slice (some ad) n c ∧ g 5 = .slice (some a5) n5 c5 ∧ g 10 = .int .i64 k ∧ g 12 = .int .i64 q ∧ Dr wr wz ∧ (D 0 → g 70 = .slice (some a5) n5 c5) ∧ (D 1 → g 71 = .int .i64 k) ∧ (D 2 → g 72 = .pointer (some (a5.add k))) ∧ (D 3 → g 73 = .int .i64 x) ∧ (D 4 → g 74 = .bool true) ∧ (D 5 → g 75 = .bool true) ∧ (D 6 → g 76 = .slice (some a5) n5 c5) ∧ (D 7 → g 77 = .int .i64 k) ∧ (D 8 → g 78 = .pointer (some (a5.add k))) ∧ (D 9 → g 79 = .int .i64 x) ∧ (D 10 → g 80 = .bool true) ∧ (D 11 → g 81 = .bool true) ∧ (D 12 → g 82 = .bool true) ∧ (D 13 → g 83 = .slice (some ad) n c) ∧ (D 14 → g 84 = .int .i64 q) ∧ (D 15 → g 85 = .pointer (some (ad.add (q * 3)))) ∧ (D 16 → g 86 = .pointer (some (ad.add (q * 3)))) ∧ (D 17 → g 87 = .int .i64 lt4) ∧ (D 18 → g 88 = .slice (some a5) n5 c5) ∧ (D 19 → g 89 = .int .i64 k) ∧ (D 20 → g 90 = .pointer (some (a5.add k))) ∧ (D 21 → g 91 = .int .i64 x) ∧ (D 22 → g 92 = .int .i64 NX) ∧ (D 23 → g 93 = .bool false) ∧ (D 24 → g 94 = .bool false)) (by kernel_rfl) (by kernel_rfl) 213 rfl (by kernel_rfl) ?h0 ?hstep ?hdone
                      case h0 => exact ⟨rfl, rfl, rfl, rfl, (Dr.refl wr).drew, nt0, nt0, nt0, nt0, nt0, nt0, nt0, nt0, nt0, nt0, nt0, nt0, nt0, nt0, nt0, nt0, nt0, nt0, nt0, nt0, nt0, nt0, nt0, nt0, nt0⟩
                      case hstep =>
                        intro D g wz i hi' hn hd' hI2
                        obtain ⟨r0, r5, r10, r12, hbz, f0, f1, f2, f3, f4, f5, f6, f7, f8, f9, f10, f11, f12, f13, f14, f15, f16, f17, f18, f19, f20, f21, f22, f23, f24⟩ := hI2
                        have hi' : i < 25 := hi'
                        rcases (show i = 0 ∨ i = 1 ∨ i = 2 ∨ i = 3 ∨ i = 4 ∨ i = 5 ∨ i = 6 ∨ i = 7 ∨ i = 8 ∨ i = 9 ∨ i = 10 ∨ i = 11 ∨ i = 12 ∨ i = 13 ∨ i = 14 ∨ i = 15 ∨ i = 16 ∨ i = 17 ∨ i = 18 ∨ i = 19 ∨ i = 20 ∨ i = 21 ∨ i = 22 ∨ i = 23 ∨ i = 24 by omega) with rfl | rfl | rfl | rfl | rfl | rfl | rfl | rfl | rfl | rfl | rfl | rfl | rfl | rfl | rfl | rfl | rfl | rfl | rfl | rfl | rfl | rfl | rfl | rfl | rfl
                        · -- 0
                          refine slot_step rfl rfl (fun az hs K hK => ?_)
                          have hK : Shut _ := hK
                          have e5 := hs.get 5
                          rw [r5] at e5
                          go_simp
                          exact hK.out _ _ ⟨r0, r5, r10, r12, hbz, fun _ => rfl, kp f1, kp f2, kp f3, kp f4, kp f5, kp f6, kp f7, kp f8, kp f9, kp f10, kp f11, kp f12, kp f13, kp f14, kp f15, kp f16, kp f17, kp f18, kp f19, kp f20, kp f21, kp f22, kp f23, kp f24⟩
                        · -- 1
                          refine slot_step rfl rfl (fun az hs K hK => ?_)
                          have hK : Shut _ := hK
                          have e10 := hs.get 10
                          rw [r10] at e10
                          go_simp
                          exact hK.out _ _ ⟨r0, r5, r10, r12, hbz, kp f0, fun _ => rfl, kp f2, kp f3, kp f4, kp f5, kp f6, kp f7, kp f8, kp f9, kp f10, kp f11, kp f12, kp f13, kp f14, kp f15, kp f16, kp f17, kp f18, kp f19, kp f20, kp f21, kp f22, kp f23, kp f24⟩
                        · -- 2
                          have d0 := f0 (hd' 0 (by kernel_rfl))
                          have d1 := f1 (hd' 1 (by kernel_rfl))
                          refine slot_step rfl rfl (fun az hs K hK => ?_)
                          have hK : Shut _ := hK
                          have e70 := hs.get 70
                          rw [d0] at e70
                          have e71 := hs.get 71
                          rw [d1] at e71
                          go_simp
                          exact hK.out _ _ ⟨r0, r5, r10, r12, hbz, kp f0, kp f1, fun _ => rfl, kp f3, kp f4, kp f5, kp f6, kp f7, kp f8, kp f9, kp f10, kp f11, kp f12, kp f13, kp f14, kp f15, kp f16, kp f17, kp f18, kp f19, kp f20, kp f21, kp f22, kp f23, kp f24⟩
                        · -- 3
                          have d2 := f2 (hd' 2 (by kernel_rfl))
                          refine slot_step rfl rfl (fun az hs K hK => ?_)
                          have hK : Shut _ := hK
                          have cz := (hbz.cell _).trans cx
                          have e72 := hs.get 72
                          rw [d2] at e72
                          go_simp
                          exact hK.out _ _ ⟨r0, r5, r10, r12, hbz, kp f0, kp f1, kp f2, fun _ => rfl, kp f4, kp f5, kp f6, kp f7, kp f8, kp f9, kp f10, kp f11, kp f12, kp f13, kp f14, kp f15, kp f16, kp f17, kp f18, kp f19, kp f20, kp f21, kp f22, kp f23, kp f24⟩
                        · -- 4
                          have d3 := f3 (hd' 3 (by kernel_rfl))
                          refine slot_step rfl rfl (fun az hs K hK => ?_)
                          have hK : Shut _ := hK
                          have e73 := hs.get 73
                          rw [d3] at e73
                          go_simp
                          exact hK.out _ _ ⟨r0, r5, r10, r12, hbz, kp f0, kp f1, kp f2, kp f3, fun _ => rfl, kp f5, kp f6, kp f7, kp f8, kp f9, kp f10, kp f11, kp f12, kp f13, kp f14, kp f15, kp f16, kp f17, kp f18, kp f19, kp f20, kp f21, kp f22, kp f23, kp f24⟩
                        · -- 5
                          have d4 := f4 (hd' 4 (by kernel_rfl))
                          refine slot_step rfl rfl (fun az hs K hK => ?_)
                          have hK : Shut _ := hK
                          have e74 := hs.get 74
                          rw [d4] at e74
                          go_simp
                          exact hK.out _ _ ⟨r0, r5, r10, r12, hbz, kp f0, kp f1, kp f2, kp f3, kp f4, fun _ => rfl, kp f6, kp f7, kp f8, kp f9, kp f10, kp f11, kp f12, kp f13, kp f14, kp f15, kp f16, kp f17, kp f18, kp f19, kp f20, kp f21, kp f22, kp f23, kp f24⟩
                        · -- 6
                          have d5 := f5 (hd' 5 (by kernel_rfl))
                          refine slot_step_yes (j := 5) (d := 75) rfl rfl rfl (by decide) (d5) (fun az hs K hK => ?_)
                          have hK : Shut _ := hK
                          have e75 := hs.get 75
                          rw [d5] at e75
                          have e5 := hs.get 5
                          rw [r5] at e5
                          go_simp
                          exact hK.out _ _ ⟨r0, r5, r10, r12, hbz, kp f0, kp f1, kp f2, kp f3, kp f4, kp f5, fun _ => rfl, kp f7, kp f8, kp f9, kp f10, kp f11, kp f12, kp f13, kp f14, kp f15, kp f16, kp f17, kp f18, kp f19, kp f20, kp f21, kp f22, kp f23, kp f24⟩
                        · -- 7
                          have d5 := f5 (hd' 5 (by kernel_rfl))
                          refine slot_step_yes (j := 5) (d := 75) rfl rfl rfl (by decide) (d5) (fun az hs K hK => ?_)
                          have hK : Shut _ := hK
                          have e75 := hs.get 75
                          rw [d5] at e75
                          have e10 := hs.get 10
                          rw [r10] at e10
                          go_simp
                          exact hK.out _ _ ⟨r0, r5, r10, r12, hbz, kp f0, kp f1, kp f2, kp f3, kp f4, kp f5, kp f6, fun _ => rfl, kp f8, kp f9, kp f10, kp f11, kp f12, kp f13, kp f14, kp f15, kp f16, kp f17, kp f18, kp f19, kp f20, kp f21, kp f22, kp f23, kp f24⟩
                        · -- 8
                          have d5 := f5 (hd' 5 (by kernel_rfl))
                          have d6 := f6 (hd' 6 (by kernel_rfl))
                          have d7 := f7 (hd' 7 (by kernel_rfl))
                          refine slot_step_yes (j := 5) (d := 75) rfl rfl rfl (by decide) (d5) (fun az hs K hK => ?_)
                          have hK : Shut _ := hK
                          have e75 := hs.get 75
                          rw [d5] at e75
                          have e76 := hs.get 76
                          rw [d6] at e76
                          have e77 := hs.get 77
                          rw [d7] at e77
                          go_simp
                          exact hK.out _ _ ⟨r0, r5, r10, r12, hbz, kp f0, kp f1, kp f2, kp f3, kp f4, kp f5, kp f6, kp f7, fun _ => rfl, kp f9, kp f10, kp f11, kp f12, kp f13, kp f14, kp f15, kp f16, kp f17, kp f18, kp f19, kp f20, kp f21, kp f22, kp f23, kp f24⟩
                        · -- 9
                          have d5 := f5 (hd' 5 (by kernel_rfl))
                          have d8 := f8 (hd' 8 (by kernel_rfl))
                          refine slot_step_yes (j := 5) (d := 75) rfl rfl rfl (by decide) (d5) (fun az hs K hK => ?_)
                          have hK : Shut _ := hK
                          have cz := (hbz.cell _).trans cx
                          have e75 := hs.get 75
                          rw [d5] at e75
                          have e78 := hs.get 78
                          rw [d8] at e78
                          go_simp
                          exact hK.out _ _ ⟨r0, r5, r10, r12, hbz, kp f0, kp f1, kp f2, kp f3, kp f4, kp f5, kp f6, kp f7, kp f8, fun _ => rfl, kp f10, kp f11, kp f12, kp f13, kp f14, kp f15, kp f16, kp f17, kp f18, kp f19, kp f20, kp f21, kp f22, kp f23, kp f24⟩
                        · -- 10
                          have d5 := f5 (hd' 5 (by kernel_rfl))
                          have d9 := f9 (hd' 9 (by kernel_rfl))
                          refine slot_step_yes (j := 5) (d := 75) rfl rfl rfl (by decide) (d5) (fun az hs K hK => ?_)
                          have hK : Shut _ := hK
                          have e75 := hs.get 75
                          rw [d5] at e75
                          have e79 := hs.get 79
                          rw [d9] at e79
                          go_wp2_with (go_at_call 33; refine (HG.out wz).mono ?_; rintro e wy ⟨rfl, rfl⟩; have hdr := Dr.refl wz)
                          exact ⟨r0, r5, r10, r12, hbz.trans hdr, kp f0, kp f1, kp f2, kp f3, kp f4, kp f5, kp f6, kp f7, kp f8, kp f9, fun _ => rfl, kp f11, kp f12, kp f13, kp f14, kp f15, kp f16, kp f17, kp f18, kp f19, kp f20, kp f21, kp f22, kp f23, kp f24⟩
                        · -- 11
                          have d5 := f5 (hd' 5 (by kernel_rfl))
                          have d10 := f10 (hd' 10 (by kernel_rfl))
                          refine slot_step rfl rfl (fun az hs K hK => ?_)
                          have hK : Shut _ := hK
                          have e75 := hs.get 75
                          rw [d5] at e75
                          have e80 := hs.get 80
                          rw [d10] at e80
                          go_simp
                          exact hK.out _ _ ⟨r0, r5, r10, r12, hbz, kp f0, kp f1, kp f2, kp f3, kp f4, kp f5, kp f6, kp f7, kp f8, kp f9, kp f10, fun _ => rfl, kp f12, kp f13, kp f14, kp f15, kp f16, kp f17, kp f18, kp f19, kp f20, kp f21, kp f22, kp f23, kp f24⟩
                        · -- 12
                          have d11 := f11 (hd' 11 (by kernel_rfl))
                          refine slot_step rfl rfl (fun az hs K hK => ?_)
                          have hK : Shut _ := hK
                          have e81 := hs.get 81
                          rw [d11] at e81
                          go_simp
                          exact hK.out _ _ ⟨r0, r5, r10, r12, hbz, kp f0, kp f1, kp f2, kp f3, kp f4, kp f5, kp f6, kp f7, kp f8, kp f9, kp f10, kp f11, fun _ => rfl, kp f13, kp f14, kp f15, kp f16, kp f17, kp f18, kp f19, kp f20, kp f21, kp f22, kp f23, kp f24⟩
                        · -- 13
                          have d12 := f12 (hd' 12 (by kernel_rfl))
                          refine slot_step_yes (j := 12) (d := 82) rfl rfl rfl (by decide) (d12) (fun az hs K hK => ?_)
                          have hK : Shut _ := hK
                          have e82 := hs.get 82
                          rw [d12] at e82
                          have e0 := hs.get 0
                          rw [r0] at e0
                          go_simp
                          exact hK.out _ _ ⟨r0, r5, r10, r12, hbz, kp f0, kp f1, kp f2, kp f3, kp f4, kp f5, kp f6, kp f7, kp f8, kp f9, kp f10, kp f11, kp f12, fun _ => rfl, kp f14, kp f15, kp f16, kp f17, kp f18, kp f19, kp f20, kp f21, kp f22, kp f23, kp f24⟩
                        · -- 14
                          have d12 := f12 (hd' 12 (by kernel_rfl))
                          refine slot_step_yes (j := 12) (d := 82) rfl rfl rfl (by decide) (d12) (fun az hs K hK => ?_)
                          have hK : Shut _ := hK
                          have e82 := hs.get 82
                          rw [d12] at e82
                          have e12 := hs.get 12
                          rw [r12] at e12
                          go_simp
                          exact hK.out _ _ ⟨r0, r5, r10, r12, hbz, kp f0, kp f1, kp f2, kp f3, kp f4, kp f5, kp f6, kp f7, kp f8, kp f9, kp f10, kp f11, kp f12, kp f13, fun _ => rfl, kp f15, kp f16, kp f17, kp f18, kp f19, kp f20, kp f21, kp f22, kp f23, kp f24⟩
                        · -- 15
                          have d12 := f12 (hd' 12 (by kernel_rfl))
                          have d13 := f13 (hd' 13 (by kernel_rfl))
                          have d14 := f14 (hd' 14 (by kernel_rfl))
                          refine slot_step_yes (j := 12) (d := 82) rfl rfl rfl (by decide) (d12) (fun az hs K hK => ?_)
                          have hK : Shut _ := hK
                          have e82 := hs.get 82
                          rw [d12] at e82
                          have e83 := hs.get 83
                          rw [d13] at e83
                          have e84 := hs.get 84
                          rw [d14] at e84
                          go_simp
                          exact hK.out _ _ ⟨r0, r5, r10, r12, hbz, kp f0, kp f1, kp f2, kp f3, kp f4, kp f5, kp f6, kp f7, kp f8, kp f9, kp f10, kp f11, kp f12, kp f13, kp f14, fun _ => rfl, kp f16, kp f17, kp f18, kp f19, kp f20, kp f21, kp f22, kp f23, kp f24⟩
                        · -- 16
                          have d12 := f12 (hd' 12 (by kernel_rfl))
                          have d15 := f15 (hd' 15 (by kernel_rfl))
                          refine slot_step_yes (j := 12) (d := 82) rfl rfl rfl (by decide) (d12) (fun az hs K hK => ?_)
                          have hK : Shut _ := hK
                          have e82 := hs.get 82
                          rw [d12] at e82
                          have e85 := hs.get 85
                          rw [d15] at e85
                          go_simp
                          exact hK.out _ _ ⟨r0, r5, r10, r12, hbz, kp f0, kp f1, kp f2, kp f3, kp f4, kp f5, kp f6, kp f7, kp f8, kp f9, kp f10, kp f11, kp f12, kp f13, kp f14, kp f15, fun _ => rfl, kp f17, kp f18, kp f19, kp f20, kp f21, kp f22, kp f23, kp f24⟩
                        · -- 17
                          have d12 := f12 (hd' 12 (by kernel_rfl))
                          have d16 := f16 (hd' 16 (by kernel_rfl))
                          refine slot_step_yes (j := 12) (d := 82) rfl rfl rfl (by decide) (d12) (fun az hs K hK => ?_)
                          have hK : Shut _ := hK
                          have cz := (hbz.cell _).trans c4
                          have e82 := hs.get 82
                          rw [d12] at e82
                          have e86 := hs.get 86
                          rw [d16] at e86
                          go_simp
                          exact hK.out _ _ ⟨r0, r5, r10, r12, hbz, kp f0, kp f1, kp f2, kp f3, kp f4, kp f5, kp f6, kp f7, kp f8, kp f9, kp f10, kp f11, kp f12, kp f13, kp f14, kp f15, kp f16, fun _ => rfl, kp f18, kp f19, kp f20, kp f21, kp f22, kp f23, kp f24⟩
                        · -- 18
                          have d12 := f12 (hd' 12 (by kernel_rfl))
                          refine slot_step_yes (j := 12) (d := 82) rfl rfl rfl (by decide) (d12) (fun az hs K hK => ?_)
                          have hK : Shut _ := hK
                          have e82 := hs.get 82
                          rw [d12] at e82
                          have e5 := hs.get 5
                          rw [r5] at e5
                          go_simp
                          exact hK.out _ _ ⟨r0, r5, r10, r12, hbz, kp f0, kp f1, kp f2, kp f3, kp f4, kp f5, kp f6, kp f7, kp f8, kp f9, kp f10, kp f11, kp f12, kp f13, kp f14, kp f15, kp f16, kp f17, fun _ => rfl, kp f19, kp f20, kp f21, kp f22, kp f23, kp f24⟩
                        · -- 19
                          have d12 := f12 (hd' 12 (by kernel_rfl))
                          refine slot_step_yes (j := 12) (d := 82) rfl rfl rfl (by decide) (d12) (fun az hs K hK => ?_)
                          have hK : Shut _ := hK
                          have e82 := hs.get 82
                          rw [d12] at e82
                          have e10 := hs.get 10
                          rw [r10] at e10
                          go_simp
                          exact hK.out _ _ ⟨r0, r5, r10, r12, hbz, kp f0, kp f1, kp f2, kp f3, kp f4, kp f5, kp f6, kp f7, kp f8, kp f9, kp f10, kp f11, kp f12, kp f13, kp f14, kp f15, kp f16, kp f17, kp f18, fun _ => rfl, kp f20, kp f21, kp f22, kp f23, kp f24⟩
                        · -- 20
                          have d12 := f12 (hd' 12 (by kernel_rfl))
                          have d18 := f18 (hd' 18 (by kernel_rfl))
                          have d19 := f19 (hd' 19 (by kernel_rfl))
                          refine slot_step_yes (j := 12) (d := 82) rfl rfl rfl (by decide) (d12) (fun az hs K hK => ?_)
                          have hK : Shut _ := hK
                          have e82 := hs.get 82
                          rw [d12] at e82
                          have e88 := hs.get 88
                          rw [d18] at e88
                          have e89 := hs.get 89
                          rw [d19] at e89
                          go_simp
                          exact hK.out _ _ ⟨r0, r5, r10, r12, hbz, kp f0, kp f1, kp f2, kp f3, kp f4, kp f5, kp f6, kp f7, kp f8, kp f9, kp f10, kp f11, kp f12, kp f13, kp f14, kp f15, kp f16, kp f17, kp f18, kp f19, fun _ => rfl, kp f21, kp f22, kp f23, kp f24⟩
                        · -- 21
                          have d12 := f12 (hd' 12 (by kernel_rfl))
                          have d20 := f20 (hd' 20 (by kernel_rfl))
                          refine slot_step_yes (j := 12) (d := 82) rfl rfl rfl (by decide) (d12) (fun az hs K hK => ?_)
                          have hK : Shut _ := hK
                          have cz := (hbz.cell _).trans cx
                          have e82 := hs.get 82
                          rw [d12] at e82
                          have e90 := hs.get 90
                          rw [d20] at e90
                          go_simp
                          exact hK.out _ _ ⟨r0, r5, r10, r12, hbz, kp f0, kp f1, kp f2, kp f3, kp f4, kp f5, kp f6, kp f7, kp f8, kp f9, kp f10, kp f11, kp f12, kp f13, kp f14, kp f15, kp f16, kp f17, kp f18, kp f19, kp f20, fun _ => rfl, kp f22, kp f23, kp f24⟩
                        · -- 22
                          have d12 := f12 (hd' 12 (by kernel_rfl))
                          have d21 := f21 (hd' 21 (by kernel_rfl))
                          refine slot_step_yes (j := 12) (d := 82) rfl rfl rfl (by decide) (d12) (fun az hs K hK => ?_)
                          have hK : Shut _ := hK
                          have e82 := hs.get 82
                          rw [d12] at e82
                          have e91 := hs.get 91
                          rw [d21] at e91
                          go_wp2_with (go_at_call 34; refine (HN.out wz).mono ?_; rintro e wy ⟨rfl, rfl⟩; have hdr := Dr.refl wz)
                          exact ⟨r0, r5, r10, r12, hbz.trans hdr, kp f0, kp f1, kp f2, kp f3, kp f4, kp f5, kp f6, kp f7, kp f8, kp f9, kp f10, kp f11, kp f12, kp f13, kp f14, kp f15, kp f16, kp f17, kp f18, kp f19, kp f20, kp f21, fun _ => rfl, kp f23, kp f24⟩
                        · -- 23
                          have d12 := f12 (hd' 12 (by kernel_rfl))
                          have d17 := f17 (hd' 17 (by kernel_rfl))
                          have d22 := f22 (hd' 22 (by kernel_rfl))
                          refine slot_step_yes (j := 12) (d := 82) rfl rfl rfl (by decide) (d12) (fun az hs K hK => ?_)
                          have hK : Shut _ := hK
                          have e82 := hs.get 82
                          rw [d12] at e82
                          have e87 := hs.get 87
                          rw [d17] at e87
                          have e92 := hs.get 92
                          rw [d22] at e92
                          go_simp
                          exact hK.out _ _ ⟨r0, r5, r10, r12, hbz, kp f0, kp f1, kp f2, kp f3, kp f4, kp f5, kp f6, kp f7, kp f8, kp f9, kp f10, kp f11, kp f12, kp f13, kp f14, kp f15, kp f16, kp f17, kp f18, kp f19, kp f20, kp f21, kp f22, fun _ => rfl, kp f24⟩
                        · -- 24
                          have d12 := f12 (hd' 12 (by kernel_rfl))
                          have d23 := f23 (hd' 23 (by kernel_rfl))
                          refine slot_step rfl rfl (fun az hs K hK => ?_)
                          have hK : Shut _ := hK
                          have e82 := hs.get 82
                          rw [d12] at e82
                          have e93 := hs.get 93
                          rw [d23] at e93
                          go_simp
                          exact hK.out _ _ ⟨r0, r5, r10, r12, hbz, kp f0, kp f1, kp f2, kp f3, kp f4, kp f5, kp f6, kp f7, kp f8, kp f9, kp f10, kp f11, kp f12, kp f13, kp f14, kp f15, kp f16, kp f17, kp f18, kp f19, kp f20, kp f21, kp f22, kp f23, fun _ => rfl⟩
                      case hdone =>
                        rintro D g wz hD ⟨r0, r5, r10, r12, hbz, f0, f1, f2, f3, f4, f5, f6, f7, f8, f9, f10, f11, f12, f13, f14, f15, f16, f17, f18, f19, f20, f21, f22, f23, f24⟩
                        simp only [setAll, List.foldl_cons, List.foldl_nil, List.setIfInBounds_toArray, List.set_cons_succ, List.set_cons_zero]
                        have e94 := f24 (hD 24)
                        rw [e94]
                        clear f0 f1 f2 f3 f4 f5 f6 f7 f8 f9 f10 f11 f12 f13 f14 f15 f16 f17 f18 f19 f20 f21 f22 f23 f24 hD r0 r5 r10 r12 e94
                        have hd3 := hide (hd2.out.trans hbz)
                        obtain ⟨w8, hw8⟩ : ∃ w8, w8 = wz := ⟨_, rfl⟩
                        subst hw8
                        clear hbz cx c4 hltq hB4
                        go_wp2
                        go_roundw
                        case rel => exact ⟨q + 1, _, hqn, by go_num, rfl, hide (by rw [hav.out]; by_cases h : P < q; rw [if_pos h, if_pos (by omega)]; rw [if_neg h, if_neg (by omega)]), hd3⟩
                        case measure => simp [intOf]; omega
                  · have hqq : n = q := by omega
                    subst hqq
                    have cP := (hd2.out.cell _).trans ((hB6.out.cell (p := ⟨(ad.add (P * 3)).block, (ad.add (P * 3)).off + 1, none⟩) hltP).trans cPw)
                    have dP : decide ((P : Int) < 0) = false := decide_eq_false (by omega)
                    have dPn : ¬ (P : Int) < 0 := by omega
                    have dl : decide (lv1 < 1) = false := decide_eq_false (by have := hlev0.out; omega)
                    have hav2 := hav.out
                    rw [if_pos hPn] at hav2
                    subst hav2
                    clear hpi hBP hav
                    by_cases hlc : lv1 = lv
                    · have e5 : (lv1 == lv) = true := by simp [hlc]
                      replace hnx := hide (hnx.out.trans (if_pos hlc))
                      clear hlc
                      go_wp2
                      go_roundw
                      case rel => exact ⟨k + 1, hlt, by go_num, by rw [hnx.out]; go_num, hd2⟩
                      case measure => simp [intOf]; omega
                    · have e5 : (lv1 == lv) = false := by simp [hlc]
                      replace hnx := hide (hnx.out.trans (if_neg hlc))
                      have hbk2 := hbk.out (by have := hle.out; omega)
                      have db : decide (b < lv1) = false := decide_eq_false (by omega)
                      clear hlc hbk2
                      go_wp2
                      go_roundw
                      case rel => exact ⟨k + 1, hlt, by go_num, by rw [hnx.out], hd2⟩
                      case measure => simp [intOf]; omega
              · have hkk : n5 = k := by omega
                subst hkk
                have hfull : hereP l (cc.take n5) = 1 := by rw [← h5l.out, List.take_length]; exact hLd.out.here
                rw [hh0] at hfull
                subst hfull
                clear hh0
                have hB7 := hide (hB6.out.trans ((hd.out.below _).mono hB6.out.size))
                have hr7 := hide (hr6.out.below (hd.out.below _) (Nat.le_refl _))
                clear hB6 hr6 hd
                obtain ⟨w7, hw7⟩ : ∃ w7, w7 = wo := ⟨_, rfl⟩
                subst hw7
                have ho1 := hide ((World.ownsRow_lit (base := w7.heap.size) (e := 3) (size := 1) w7 #[.int .i64 0] 1 (Nat.le_refl _) (by unfold maxLen; omega) rfl).alloc (.cells #[.slice B m cb] 40))
                have ho2 := World.ownsRow_lit (base := w7.heap.size) (e := 40) (size := 1) (w7.alloc (.cells #[.int .i64 0] 3)) #[.slice B m cb] 1 (by simp) (by unfold maxLen; omega) rfl
                rw [World.size_alloc] at ho2
                replace ho2 := hide ho2
                have hb0 := hide (((Below.refl w7.heap.size w7).alloc (Nat.le_refl _) (.cells #[.int .i64 0] 3)).alloc (by simp) (.cells #[.slice B m cb] 40))
                have hro := hide (show RowsW w [(bad, ⟨B, m, cb⟩)] from fun y hy => by rw [List.mem_singleton] at hy; subst hy; exact hrb)
                go_wp2
                go_loopw [13, 14, 15] (fun v a i wr => ∃ (k q nv : Nat) (ys : List (List Int × Sl)), k ≤ n ∧ nv ≤ 2001 ∧ Hid (nv = q + 1) ∧ ys.length ≤ k + 1 ∧ i = .int .i64 k ∧ wr.ownsRow w7.heap.size 3 1 v nv (ivs (valsQ q)) ∧ wr.ownsRow w7.heap.size 40 1 a ys.length (rowCells ys) ∧ Hid (ys.map (·.1) = rowsTo l bad k) ∧ Hid (RowsW w ys) ∧ Hid (∀ j, j < k → (stAt l j).lit / 2 < (q : Int) + 1) ∧ Hid (Below w7.heap.size w7 wr)) (fun _ _ i _ => n - (intOf i).toNat)
                case atStart => exact ⟨0, 0, 1, [(bad, ⟨B, m, cb⟩)], Nat.zero_le _, by omega, hide rfl, Nat.le_refl _, rfl, ho1.out, ho2.out, hide rfl, hro, hide (fun j hj => absurd hj (Nat.not_lt_zero _)), hb0⟩
                case round =>
                  obtain ⟨k, q, nv, ys, hk, hnv, hnq, hyl, rfl, how1, how2, hys, hrw, hlq, hb⟩ := hrel
                  clear ho1 ho2 hro hb0
                  have hkI : (k : Int) ≤ 60 := by omega
                  have hnvI : (nv : Int) ≤ 2001 := by omega
                  obtain ⟨A1v, c1v, rfl, _, _, _⟩ := Rd.of_own how1
                  obtain ⟨A2v, c2v, rfl, _, _, _⟩ := Rd.of_own how2
                  obtain ⟨wo, hwo⟩ : ∃ wo, wo = wr := ⟨_, rfl⟩
                  subst hwo
                  by_cases hkn : k < n
                  · have hknI : (k : Int) < n := by omega
                    obtain ⟨ad3, s1, z1, had, hBK, hs1, c0w, _, c3w, hwy⟩ := hr.get hkn
                    injection had with had
                    subst had
                    have hst1 := stAt_is hs1
                    have hgk := hLd.out.good.1 k (by rw [hll.out]; exact hkn)
                    rw [hst1] at hgk
                    have hlt0 := hgk.two
                    have hltb := hgk.good
                    have hrn := hide (rows_next (bad := bad) hs1)
                    have hwl := hw.out s1 (List.mem_of_getElem? hs1)
                    have hzl := Rd.len hwy
                    obtain ⟨lt1, lv1, wy1⟩ := s1
                    obtain ⟨zA, zn, zc⟩ := z1
                    simp only [Sl.val] at hlt0 hltb c0w c3w hwy hwl hzl
                    have hltK : (ad.add (k * 3)).block < w.heap.size := by rw [add_block]; exact hBK
                    have h00 : 0 ≤ lt1 := by omega
                    obtain ⟨hl, hhl⟩ : ∃ hl : Nat, lt1 / 2 = (hl : Int) := ⟨(lt1 / 2).toNat, by omega⟩
                    replace hst1 := hide hst1
                    clear hs1 hgk hBK
                    by_cases h4k : lt1 < 4000
                    · have d4 : True → decide (lt1 < 4000) = true := fun _ => decide_eq_true h4k
                      have d5 : True → decide (4000 ≤ lt1) = false := fun _ => decide_eq_false (by omega)
                      have hhl2 : hl ≤ 1999 := by omega
                      replace h4k := hide h4k
                      have c00 := ((hB7.out.trans (hb.out.mono hB7.out.size)).cell hltK).trans c0w
                      replace how1 := hide how1
                      replace how2 := hide how2
                      go_wp2
                      go_loopg [13] (2001 - nv) (fun gk s13 wr => ∃ (q2 nv2 : Nat), wr.ownsRow w7.heap.size 3 1 s13 nv2 (ivs (valsQ q2)) ∧ Hid (nv2 = q2 + 1) ∧ nv2 ≤ 2001 ∧ 2001 - nv2 ≤ gk ∧ nv ≤ nv2 ∧ Hid (wr.ownsRow w7.heap.size 40 1 (.slice A2v ys.length c2v) ys.length (rowCells ys)) ∧ Hid (Below w7.heap.size w7 wr))
                      case atStart => exact ⟨q, nv, how1.out, hnq, hnv, Nat.le_refl _, Nat.le_refl _, how2, hb⟩
                      case round =>
                        obtain ⟨q2, nv2, how, hnq2, hnv2, hgk2, hnn, how2b, hb2⟩ := hrel
                        clear how1 how2 hb c00
                        have how2 := how2b.out
                        obtain ⟨A3v, c3v, rfl, _, _, _⟩ := Rd.of_own how
                        have hBw := hide (hB7.out.trans (hb2.out.mono hB7.out.size))
                        have c0 := (hBw.out.cell hltK).trans c0w
                        have c3 := (hBw.out.cell (p := ⟨(ad.add (k * 3)).block, (ad.add (k * 3)).off + 2, none⟩) hltK).trans c3w
                        by_cases hle : nv2 ≤ hl
                        · have dle : decide ((nv2 : Int) ≤ hl) = true := decide_eq_true (by omega)
                          go_wp2_with (at_builtin; refine wpList_pushG rfl _ _ _ rfl Try.underlying40 info_n rfl (by decide) rfl rfl how hb2.out (Nat.le_refl _) rfl (by simp [Value.oneCell']) (by unfold maxLen; omega) (by omega) ?_; intro v8 w8 hown8 hb8 hg8)
                          have hown9 : w8.ownsRow w7.heap.size 3 1 v8 (nv2 + 1) (ivs (valsQ (q2 + 1))) := by rw [← valsQ_next, ivs_app]; exact hown8
                          have hoN := hide (push_other how2 how (by decide) hg8)
                          replace hb8 := hide hb8
                          clear hg8 how how2 how2b hb2
                          go_roundg (2001 - (nv2 + 1))
                          case measure => omega
                          case rel => exact ⟨q2 + 1, nv2 + 1, hown9, hide (by rw [hnq2.out]), by omega, Nat.le_refl _, by omega, hoN, hb8⟩
                        · have dle : decide ((nv2 : Int) ≤ hl) = false := decide_eq_false (by omega)
                          have hlqN := hide (show ∀ j, j < k + 1 → (stAt l j).lit / 2 < (q2 : Int) + 1 from fun j hj => by
                            have h1 := hnq.out
                            have h2 := hnq2.out
                            by_cases e : j = k
                            · subst e
                              have h3 : (stAt l j).lit = lt1 := by rw [hst1.out]
                              rw [h3]; omega
                            · have := hlq.out j (by omega)
                              omega)
                          by_cases hz : zn = 0
                          · have dz : decide ((0 : Int) < zn) = false := decide_eq_false (by omega)
                            have hysN := hide (show ys.map (·.1) = rowsTo l bad (k + 1) by rw [hrn.out, if_pos (List.eq_nil_of_length_eq_zero (by omega))]; exact hys.out)
                            go_wp2
                            go_roundw
                            case rel => exact ⟨k + 1, q2, nv2, ys, hkn, hnv2, hnq2, by omega, by go_num, how, how2, hysN, hrw, hlqN, hb2⟩
                            case measure => simp [intOf]; omega
                          · have dz : decide ((0 : Int) < zn) = true := decide_eq_true (by omega)
                            have hrwN := hide (show RowsW w (ys ++ [(wy1, ⟨zA, zn, zc⟩)]) from fun y hy => by
                              rcases List.mem_append.1 hy with hy | hy
                              · exact hrw.out y hy
                              · rw [List.mem_singleton] at hy; subst hy; exact hwy)
                            have hysN := hide (show (ys ++ [(wy1, (⟨zA, zn, zc⟩ : Sl))]).map (·.1) = rowsTo l bad (k + 1) by rw [hrn.out, if_neg (fun e => by rw [e] at hzl; simp at hzl; omega), List.map_append, hys.out]; rfl)
                            go_wp2_with (at_builtin; refine wpList_pushG rfl _ _ _ rfl Try.underlying54 info_rows rfl (by decide) rfl rfl how2 hb2.out (Nat.le_refl _) rfl (by simp [Value.oneCell']) (by unfold maxLen; omega) (by omega) ?_; intro v8 w8 hown8 hb8 hg8; have hBw8 := hB7.out.trans (hb8.mono hB7.out.size); have c08 := (hBw8.cell hltK).trans c0w; replace hBw8 := hide hBw8)
                            have hoN := push_other how how2 (by decide) hg8
                            have hown9 : w8.ownsRow w7.heap.size 40 1 v8 (ys ++ [(wy1, (⟨zA, zn, zc⟩ : Sl))]).length (rowCells (ys ++ [(wy1, (⟨zA, zn, zc⟩ : Sl))])) := by
                              rw [List.length_append]; unfold rowCells; rw [List.map_append]; exact hown8
                            replace hb8 := hide hb8
                            go_roundw
                            case rel => exact ⟨k + 1, q2, nv2, _, hkn, hnv2, hnq2, by rw [List.length_append]; simp; omega, by go_num, hoN, hown9, hysN, hrwN, hlqN, hb8⟩
                            case measure => simp [intOf]; omega
                    · have d4 : True → decide (lt1 < 4000) = false := fun _ => decide_eq_false h4k
                      have d5 : True → decide (4000 ≤ lt1) = true := fun _ => decide_eq_true (by omega)
                      replace h4k := hide h4k
                      have hBw := hide (hB7.out.trans (hb.out.mono hB7.out.size))
                      have c0 := (hBw.out.cell hltK).trans c0w
                      have c3 := (hBw.out.cell (p := ⟨(ad.add (k * 3)).block, (ad.add (k * 3)).off + 2, none⟩) hltK).trans c3w
                      go_wp2
                      go_loopg [13] 0 (fun gk s13 wr => s13 = .slice A1v nv c1v ∧ wr = wo)
                      case atStart => exact ⟨rfl, rfl⟩
                      case round =>
                        obtain ⟨rfl, rfl⟩ := hrel
                        by_cases hle : nv ≤ hl
                        · have dle : decide ((nv : Int) ≤ hl) = true := decide_eq_true (by omega)
                          by_cases hz : zn = 0
                          · have dz : decide ((0 : Int) < zn) = false := decide_eq_false (by omega)
                            go_wp2_with fail
                            refine (HL.out wr).mono ?_
                            rintro e w9 ⟨rfl, hb9⟩
                            have hB9 := hide (hBw.out.trans (hb9.mono hBw.out.size))
                            clear hb9
                            go_wp2
                            go_ret
                            exact ⟨rfl, hB9.out⟩
                          · have dz : decide ((0 : Int) < zn) = true := decide_eq_true (by omega)
                            go_wp2_with (at_builtin; refine wpList_pushG rfl _ _ _ rfl Try.underlying54 info_rows rfl (by decide) rfl rfl how2 hb.out (Nat.le_refl _) rfl (by simp [Value.oneCell']) (by unfold maxLen; omega) (by omega) ?_; intro v8 w8 hown8 hb8 hg8; have hBw8 := hB7.out.trans (hb8.mono hB7.out.size); have c08 := (hBw8.cell hltK).trans c0w; replace hBw8 := hide hBw8)
                            refine (HL.out w8).mono ?_
                            rintro e w9 ⟨rfl, hb9⟩
                            have hB9 := hide (hBw8.out.trans (hb9.mono hBw8.out.size))
                            clear hb9
                            go_wp2
                            go_ret
                            exact ⟨rfl, hB9.out⟩
                        · have dle : decide ((nv : Int) ≤ hl) = false := decide_eq_false (by omega)
                          by_cases hz : zn = 0
                          · have dz : decide ((0 : Int) < zn) = false := decide_eq_false (by omega)
                            go_wp2_with fail
                            refine (HL.out wr).mono ?_
                            rintro e w9 ⟨rfl, hb9⟩
                            have hB9 := hide (hBw.out.trans (hb9.mono hBw.out.size))
                            clear hb9
                            go_wp2
                            go_ret
                            exact ⟨rfl, hB9.out⟩
                          · have dz : decide ((0 : Int) < zn) = true := decide_eq_true (by omega)
                            go_wp2_with (at_builtin; refine wpList_pushG rfl _ _ _ rfl Try.underlying54 info_rows rfl (by decide) rfl rfl how2 hb.out (Nat.le_refl _) rfl (by simp [Value.oneCell']) (by unfold maxLen; omega) (by omega) ?_; intro v8 w8 hown8 hb8 hg8; have hBw8 := hB7.out.trans (hb8.mono hB7.out.size); have c08 := (hBw8.cell hltK).trans c0w; replace hBw8 := hide hBw8)
                            refine (HL.out w8).mono ?_
                            rintro e w9 ⟨rfl, hb9⟩
                            have hB9 := hide (hBw8.out.trans (hb9.mono hBw8.out.size))
                            clear hb9
                            go_wp2
                            go_ret
                            exact ⟨rfl, hB9.out⟩
                  · have hkk : n = k := by omega
                    subst hkk
                    have hq2 := hide (show ∀ j, j < l.length → (stAt l j).lit / 2 < (q : Int) + 1 from fun j hj => hlq.out j (by rw [← hll.out]; exact hj))
                    have hys : Hid (ys.map (·.1) = rowsTo l bad l.length ++ ((cc.take 0).map fun x => [litNot x])) := hide (by rw [hys.out, hll.out]; simp)
                    have hro := hide (show RowsOk w wo ys from fun y hy => .inl (hrw.out y hy))
                    replace how1 := hide how1
                    replace how2 := hide how2
                    clear hlq hrw
                    go_wp2
                    go_loopw [14, 16] (fun a i wr => ∃ (k : Nat) (ys : List (List Int × Sl)), k ≤ n5 ∧ ys.length ≤ n + 1 + k ∧ i = .int .i64 k ∧ Hid (wr.ownsRow w7.heap.size 40 1 a ys.length (rowCells ys)) ∧ Hid (wr.ownsRow w7.heap.size 3 1 (.slice A1v nv c1v) nv (ivs (valsQ q))) ∧ Hid (ys.map (·.1) = rowsTo l bad l.length ++ (cc.take k).map fun x => [litNot x]) ∧ Hid (RowsOk w wr ys) ∧ Hid (Below w7.heap.size w7 wr)) (fun _ i _ => n5 - (intOf i).toNat)
                    case atStart => exact ⟨0, ys, Nat.zero_le _, by omega, rfl, how2, how1, hys, hro, hb⟩
                    case round =>
                      obtain ⟨k, ys2, hk5, hyl2, rfl, how2b, how1b, hys2, hro2, hb2⟩ := hrel
                      clear how1 how2 hys hro hb
                      have how2 := how2b.out
                      have how1 := how1b.out
                      have hk5I : (k : Int) ≤ 60 := by omega
                      obtain ⟨A4v, c4v, rfl, _, _, _⟩ := Rd.of_own how2
                      by_cases hk5n : k < n5
                      · have hk5nI : (k : Int) < n5 := by omega
                        obtain ⟨a5, x, rfl, hB5, hx, cx7⟩ := (hr7.out.below hb2.out (Nat.le_refl _)).get hk5n
                        obtain ⟨NX, hNX⟩ : ∃ NX, litNot x = NX := ⟨_, rfl⟩
                        have HN := ref_Not x wr
                        rw [hNX] at HN
                        replace HN := hide HN
                        have htk := hide (show (cc.take (k + 1)).map (fun x => [litNot x]) = (cc.take k).map (fun x => [litNot x]) ++ [[NX]] by rw [List.take_add_one, hx, List.map_append]; show _ ++ [[litNot x]] = _; rw [hNX])
                        clear hx hNX
                        have hbA := hb2.out.alloc hb2.out.size (.cells #[.int .i64 NX] 3)
                        have howA := how2.alloc (.cells #[.int .i64 NX] 3)
                        have how1A := how1.alloc (.cells #[.int .i64 NX] 3)
                        go_wp2_with first | (go_at_call 34; refine HN.out.mono ?_; rintro e wy ⟨rfl, rfl⟩) | (at_builtin; refine wpList_pushG rfl _ _ _ rfl Try.underlying54 info_rows rfl (by decide) rfl (by rw [World.size_alloc]; rfl) howA hbA (Nat.le_refl _) rfl (by simp [Value.oneCell']) (by unfold maxLen; omega) (by omega) ?_; intro v8 w8 hown8 hb8 hg8)
                        have ho1N := hide (push_other how1A howA (by decide) hg8)
                        have hbk : Blk (wr.alloc (.cells #[.int .i64 NX] 3)) wr.heap.size 3 #[.int .i64 NX] := Blk.new wr _ _
                        have hroN := hide (show RowsOk w w8 (ys2 ++ [([NX], ⟨some ⟨wr.heap.size, 0, none⟩, 1, 1⟩)]) from fun y hy => by
                          have hA : RowsOk w (wr.alloc (.cells #[.int .i64 NX] 3)) (ys2 ++ [([NX], ⟨some ⟨wr.heap.size, 0, none⟩, 1, 1⟩)]) := fun y hy => by
                            rcases List.mem_append.1 hy with hy | hy
                            · exact hro2.out.keep ((Below.refl wr.heap.size wr).alloc (Nat.le_refl _) _) y hy
                            · rw [List.mem_singleton] at hy; subst hy; exact .inr ⟨_, _, rfl, hbk⟩
                          exact (hA.keep ((Below.refl _ _).alloc (Nat.le_refl _) (.cells #[.slice (some ⟨wr.heap.size, 0, none⟩) 1 1] 40))).grown (howA.alloc _) (by decide) hg8 y hy)
                        have hown9 := hide (show w8.ownsRow w7.heap.size 40 1 v8 (ys2 ++ [([NX], (⟨some ⟨wr.heap.size, 0, none⟩, 1, 1⟩ : Sl))]).length (rowCells (ys2 ++ [([NX], (⟨some ⟨wr.heap.size, 0, none⟩, 1, 1⟩ : Sl))])) by
                          rw [List.length_append]; unfold rowCells; rw [List.map_append]; exact hown8)
                        have hysN := hide (show (ys2 ++ [([NX], (⟨some ⟨wr.heap.size, 0, none⟩, 1, 1⟩ : Sl))]).map (·.1) = rowsTo l bad l.length ++ (cc.take (k + 1)).map fun x => [litNot x] by rw [htk.out, List.map_append, hys2.out, List.append_assoc]; rfl)
                        replace hb8 := hide hb8
                        clear hbA howA how1A hbk hown8 hg8 how1 how2
                        go_roundw
                        case rel => exact ⟨k + 1, _, hk5n, by rw [List.length_append]; simp; omega, by go_num, hown9, ho1N, hysN, hroN, hb8⟩
                        case measure => simp [intOf]; omega
                      · have hkk : n5 = k := by omega
                        subst hkk
                        rw [List.take_of_length_le (by rw [h5l.out]; exact Nat.le_refl _)] at hys2
                        have hBw := hide (hB7.out.trans (hb2.out.mono hB7.out.size))
                        obtain ⟨_, _, he, _, _, hrv⟩ := Rd.of_own how1
                        injection he with he1 _ he2
                        subst he1 he2
                        obtain ⟨_, _, he, _, _, hrr⟩ := RdR.of_own how2 hro2.out hBw.out
                        injection he with he1 _ he2
                        subst he1 he2
                        rw [hys2.out] at hrr
                        have hin := hide (show ∀ row ∈ rowsTo l bad l.length ++ cc.map (fun x => [litNot x]), ∀ x ∈ row, litGood x = true → x / 2 < (nv : Int) from fun row hrow x hx _ => by
                          have hnq2 := hnq.out
                          rcases List.mem_append.1 hrow with h | h
                          · have := rows_in hLd.out.good hq2.out h x hx; omega
                          · obtain ⟨y, hy, rfl⟩ := List.mem_map.1 h
                            rw [List.mem_singleton] at hx
                            subst hx
                            have hM := hLd.out.mem y hy
                            have h1 := hq2.out _ hM.lt
                            rw [hM.at_] at h1
                            omega)
                        have hsz := hide (show ∀ row ∈ rowsTo l bad l.length ++ cc.map (fun x => [litNot x]), row.length ≤ 1000000 from fun row hrow => by
                          rcases List.mem_append.1 hrow with h | h
                          · rcases rows_mem h with rfl | ⟨j, hj, rfl⟩
                            · have := hbl.out; omega
                            · have := hwb.out _ (List.mem_of_getElem? (stAt_get hj)); omega
                          · obtain ⟨y, _, rfl⟩ := List.mem_map.1 h
                            simp)
                        have HU := hide (ref22_Units A1v nv c1v (valsQ q) A4v ys2.length c4v _ wr (by omega) hrv (by omega) hrr hsz.out hin.out)
                        have hvn := hide (fun r h => units_none (q := q) (r := r) hLd.out h)
                        have hval : valG (litV (valsQ q)) 0 cc ≠ 1 := val_not cc 0 (by omega) (fun x hx => by
                          have hM := hLd.out.mem x hx
                          have h1 := hq2.out _ hM.lt
                          rw [hM.at_, not_half hM.good] at h1
                          exact valsQ_open hM.one h1)
                        obtain ⟨vv, hvv⟩ : ∃ vv, valG (litV (valsQ q)) 0 cc = vv := ⟨_, rfl⟩
                        rw [hvv] at hval
                        have dv : (vv != 1) = true := by simp [hval]
                        have dv2 : (vv == 1) = false := by simp [hval]
                        have HV := hide (fun (W : World) (hb : Below wr.heap.size wr W) => ref20_Value A1v nv c1v (valsQ q) A5 n5 c5 cc W (by omega) (hrv.below hb (Nat.le_refl _)) (by omega) ((hr7.out.below hb2.out (Nat.le_refl _)).below hb (Nat.le_refl _)))
                        rw [hvv] at HV
                        clear hval hvv hin hsz hrr hrv how1 how2
                        go_wp2_with fail
                        refine HU.out.mono ?_
                        rintro e w8 ⟨r, hr8, hv8, hb8⟩
                        have := hvn.out r hr8
                        subst this
                        have hv8 : e = .returned (.tuple #[.slice none 0 0, .bool false]) := hv8
                        subst hv8
                        have HV2 := hide (HV.out w8 hb8)
                        have hB8 := hide (hBw.out.trans (hb8.mono hBw.out.size))
                        clear hr8 hb8 HU HV
                        go_wp2_with fail
                        refine HV2.out.mono ?_
                        rintro e w9 ⟨rfl, rfl⟩
                        go_wp2_with fail
                        refine (HL.out w8).mono ?_
                        rintro e w9 ⟨rfl, hb9⟩
                        have hB9 := hide (hB8.out.trans (hb9.mono hB8.out.size))
                        clear hb9 hB8
                        go_wp2
                        go_ret
                        exact ⟨rfl, hB9.out⟩
end Go.Proofs.Ytcjoohaagdihlaa.Learn
