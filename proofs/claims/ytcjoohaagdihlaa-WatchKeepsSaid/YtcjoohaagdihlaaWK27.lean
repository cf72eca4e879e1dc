/- Texts behind a row, one behind the other: WatchK6. -/
import Derived.Test.YtcjoohaagdihlaaWK23
import Derived.Test.YtcjoohaagdihlaaWK26
import Derived.Test.YtcjoohaagdihlaaWK20
import Derived.Deep.CutRange
import Derived.Deep.LoopGhost
section
/- The law WatchKeeps. -/
namespace Go.Proofs.Ytcjoohaagdihlaa.Watch
open Go.RowKit Go.Lt Go.Proofs.Ytcjoohaagdihlaa.Lit Go.Proofs.Ytcjoohaagdihlaa.Sorted Go.Proofs.Ytcjoohaagdihlaa.Learn Go.Instr
open Go.Proofs.Ytcjoohaagdihlaa.Kept (Sl Sl.val addr_off)
set_option linter.unusedVariables false
set_option linter.unusedSimpArgs false

theorem ref25_Good {n : Int} {b : Bool} (hb : decide (0 ≤ n ∧ n ≤ 1048576) = b) (w : World) : Calls Try.prog 64 #[.int .i64 n] w fun e w' => e = .returned (.bool b) ∧ w = w' := by
  by_cases h0 : 0 ≤ n
  · have d0 : decide (0 ≤ n) = true := decide_eq_true h0
    obtain ⟨b1, hb1⟩ : ∃ b1, decide (n ≤ 1048576) = b1 := ⟨_, rfl⟩
    have d1 : True → decide (n ≤ 1048576) = b1 := fun _ => hb1
    have e : b1 = b := by rw [← hb, ← hb1]; simp [h0]
    subst e
    replace hb1 := hide hb1
    clear hb
    go_enter Try.func64, Try.ntmps64
    go_wp2
    go_ret
    exact ⟨rfl, rfl⟩
  · have d0 : decide (0 ≤ n) = false := decide_eq_false h0
    have e : b = false := by rw [← hb]; simp [h0]
    subst e
    clear hb
    go_enter Try.func64, Try.ntmps64
    go_wp2
    go_ret
    exact ⟨rfl, rfl⟩
/-- asks are few, and clauses short -/
def fewA (l : List St) : Bool := (l.all fun s => decide (s.why.length ≤ 12)) && decide (l.length ≤ 60)
theorem fewA_iff {l : List St} : fewA l = true ↔ (∀ s ∈ l, s.why.length ≤ 12) ∧ l.length ≤ 60 := by unfold fewA; simp
theorem fewA_no {l : List St} {s : St} (hs : s ∈ l) (h : 12 < s.why.length) : fewA l = false := by
  cases hf : fewA l with
  | false => rfl
  | true => have := (fewA_iff.1 hf).1 s hs; omega
theorem fewA_end {l : List St} (h : ∀ s ∈ l, s.why.length ≤ 12) : fewA l = decide (l.length ≤ 60) := by
  have : (l.all fun s => decide (s.why.length ≤ 12)) = true := by rw [List.all_eq_true]; exact fun s hs => by simpa using h s hs
  unfold fewA
  rw [this, Bool.true_and]
set_option maxRecDepth 8000 in
theorem law25_few (A : Option Addr) (n c : Nat) (l : List St) (w : World) (hn : n ≤ maxLen) (hr : RdT w A n l) :
    Calls Try.prog 53 #[.slice A n c] w fun e w' => e = .returned (.bool (fewA l)) ∧ w = w' := by
  have hll := hide hr.1
  replace hn := hide (show (n : Int) ≤ 9223372036854775807 by unfold maxLen at hn; omega)
  go_enter Try.func53, Try.ntmps53
  go_wp2
  go_loopw [3] (fun i wr => ∃ k : Nat, k ≤ n ∧ i = .int .i64 k ∧ Hid (∀ j, j < k → (stAt l j).why.length ≤ 12) ∧ w = wr) (fun i _ => n - (intOf i).toNat)
  case atStart => exact ⟨0, Nat.zero_le _, rfl, hide (fun j hj => absurd hj (Nat.not_lt_zero _)), rfl⟩
  case round =>
    obtain ⟨k, hk, rfl, hj, rfl⟩ := hrel
    by_cases hlt : k < n
    · have hltI : (k : Int) < n := by omega
      have hkw : IntKind.i64.wrap ((k : Int) + 1) = ((k + 1 : Nat) : Int) := by rw [IntWalk.i64_in _ (by have := hn.out; omega)]; omega
      obtain ⟨ad, s, z, rfl, hB, hs, c0, c1, c3, hw⟩ := hr.get hlt
      have hsm := List.mem_of_getElem? hs
      have hst := hide (stAt_is hs)
      have hwl := Rd.len hw
      obtain ⟨lt, lv, wy⟩ := s
      obtain ⟨zA, zn, zc⟩ := z
      simp only [Sl.val] at c0 c1 c3 hwl
      by_cases h30 : (12 : Int) < zn
      · have d30 : decide ((12 : Int) < zn) = true := decide_eq_true h30
        have hF := hide (fewA_no hsm (show 12 < wy.length by omega))
        clear hs hw hsm hj
        go_wp2
        go_ret
        exact ⟨by rw [hF.out]; rfl, rfl⟩
      · have d30 : decide ((12 : Int) < zn) = false := decide_eq_false h30
        have hjN := hide (show ∀ j, j < k + 1 → (stAt l j).why.length ≤ 12 from fun j hj2 => by
          by_cases h : j = k
          · subst h; rw [hst.out]; show wy.length ≤ 12; omega
          · exact hj.out j (by omega))
        clear hs hw hsm hj
        go_wp2
        go_roundw
        case rel => exact ⟨k + 1, hlt, by go_num, hjN, trivial⟩
        case measure => simp [intOf]; omega
    · have hkn : n = k := by omega
      subst hkn
      have hF := hide (fewA_end (show ∀ s ∈ l, s.why.length ≤ 12 from fun s hs => by
        obtain ⟨j, hj2, e⟩ := List.getElem_of_mem hs
        have := hj.out j (by rw [← hll.out]; exact hj2)
        rwa [stAt_is (by rw [List.getElem?_eq_getElem hj2, e])] at this))
      rw [hll.out] at hF
      obtain ⟨b1, hb1⟩ : ∃ b1, decide (n ≤ 60) = b1 := ⟨_, rfl⟩
      have e1 : decide ((n : Int) ≤ 60) = b1 := by rw [← hb1]; exact decide_eq_decide.2 (by omega)
      rw [hb1] at hF
      replace hb1 := hide hb1
      clear hj
      go_wp2
      go_ret
      exact ⟨by rw [hF.out]; rfl, rfl⟩
theorem few_is {A : Option Addr} {n c : Nat} {l : List St} {b : Bool} (h : fewA l = b) {w : World} (hn : n ≤ maxLen) (hr : RdT w A n l) :
    Calls Try.prog 53 #[.slice A n c] w fun e w' => e = .returned (.bool b) ∧ w = w' := h ▸ law25_few A n c l w hn hr
theorem watch_NewOk {n : Int} (hn : 0 ≤ n ∧ n ≤ 60) (w : World) : Calls Try.prog 55 #[.int .i64 n] w fun e w' => ∃ p mA mN mS mB, e = .returned (.pointer (some ⟨p, 0, none⟩)) ∧ StM w.heap.size w' p mA mN mS mB n 0 (.slice none 0 0) [] [] [] [] [] ∧ Below w.heap.size w w' := watch_New n (by omega) w
theorem same_is {A B : Option Addr} {n m ca cb : Nat} {a b : List Int} {W : World} (hn : n ≤ 1000000) (hra : Rd W A n (ivs a)) (hrb : Rd W B m (ivs b)) (e : a = b) : Calls Try.prog 32 #[.slice A n ca, .slice B m cb] W fun e w' => e = .returned (.bool true) ∧ Dr W w' := by
  subst e
  have := ref_Ints A B n m ca cb a a W hn hra hrb
  rw [show sameI a a = true from decide_eq_true rfl] at this
  exact this
theorem bne_self_int (V : Int) : (V != V) = false := by simp
theorem addI_len {n : Int} {rows R : List (List Int)} {is I : List Bool} {l : List Int} (h : is.length = rows.length) (hR : addP n rows l = R) (hI : addI n is l = I) : I.length = R.length := by
  subst hR hI
  unfold addP addI
  split
  · simp [h]
  · exact h
theorem cl_len2 {rows : List (List Int)} {is : List Bool} (h : is.length = rows.length) (hr : ∀ r ∈ rows, r.length ≤ 1000) (id : Int) : (clP rows is id).length ≤ 1000000 := by
  unfold clP
  split
  · rename_i hk
    have h2 := (kept_lt hk).2.1
    rw [h] at h2
    have := hr _ (List.getElem_mem h2)
    rw [List.getD_eq_getElem?_getD, List.getElem?_eq_getElem h2]
    simp only [Option.getD_some]
    omega
  · simp
set_option maxRecDepth 8000 in
set_option maxHeartbeats 4000000 in
theorem law_WatchKeeps (x : Int) (A : Option Addr) (n c : Nat) (l : List St) (w0 : World) (hn : n ≤ maxLen) (hr : RdT w0 A n l) :
    Calls Try.prog 11 #[.int .i64 x, .slice A n c] w0 fun e w' => e = .returned (.bool true) ∧ Below w0.heap.size w0 w' := by
  obtain ⟨fb, hfb⟩ : ∃ fb, fewA l = fb := ⟨_, rfl⟩
  obtain ⟨b13, hb13⟩ : ∃ b, decide (60 < x ∧ x ≤ 1048576) = b := ⟨_, rfl⟩
  go_enter Try.func11, Try.ntmps11
  go_upto_region 1 with fail
  go_cut [13] from 8 to 12 (fun s13 wx => s13 = .bool b13 ∧ w0 = wx)
  case first =>
    by_cases h60 : 60 < x
    · have d60 : decide (60 < x) = true := decide_eq_true h60
      have HG := fun w => hide (ref25_Good (n := x) (b := b13) (by rw [← hb13]; exact decide_eq_decide.2 (by omega)) w)
      replace hb13 := hide hb13
      clear h60
      go_wp2_with (go_at_call 64; refine (HG _).out.mono ?_; rintro e w2 ⟨rfl, rfl⟩)
      go_meet
      case rel => exact ⟨rfl, rfl⟩
    · have d60 : decide (60 < x) = false := decide_eq_false h60
      have hbf : b13 = false := by rw [← hb13]; simp [h60]
      subst hbf
      clear h60 hb13
      go_wp2
      go_meet
      case rel => exact ⟨rfl, rfl⟩
  case rest =>
    obtain ⟨rfl, rfl⟩ := hcut
    go_upto_if 13 with fail
    go_cut [0] from 14 to 15 (fun s0 wx => w0 = wx ∧ ∃ N : Int, s0 = .int .i64 N ∧ ((0 ≤ N ∧ N ≤ 60) ∨ ¬ (0 ≤ N ∧ N ≤ 1048576)))
    case first =>
      cases b13 with
      | true =>
        have hxa : 60 < x ∧ x ≤ 1048576 := of_decide_eq_true hb13
        obtain ⟨N, hNe⟩ : ∃ N, x.tmod 60 = N := ⟨_, rfl⟩
        have hN : 0 ≤ N ∧ N ≤ 60 := by rw [← hNe, Int.tmod_eq_emod_of_nonneg (by omega)]; omega
        have hNw : IntKind.i64.wrap (x.tmod 60) = N := by rw [hNe]; exact IntWalk.i64_in _ (by omega)
        replace hxa := hide hxa
        replace hN := hide hN
        clear hb13
        go_wp2
        go_meet
        case rel => exact ⟨rfl, N, rfl, .inl hN.out⟩
      | false =>
        have hxa : ¬ (60 < x ∧ x ≤ 1048576) := of_decide_eq_false hb13
        have hN : (0 ≤ x ∧ x ≤ 60) ∨ ¬ (0 ≤ x ∧ x ≤ 1048576) := by omega
        replace hN := hide hN
        clear hb13 hxa
        go_wp2
        go_meet
        case rel => exact ⟨rfl, x, rfl, hN.out⟩
    case rest =>
      obtain ⟨hwc, N, rfl, hN | hbad⟩ := hcut
      · subst hwc
        have HG2 := fun w => hide (ref25_Good (n := N) (b := true) (decide_eq_true (by omega)) w)
        have HW := hide (watch_NewOk hN w0)
        have hN2 := hide (show 0 ≤ N ∧ N ≤ 1048576 by omega)
        replace hN := hide hN
        go_wp2_with fail
        refine HW.out.mono ?_
        rintro e w1 ⟨p, mA, mN, mS, mB, rfl, hst, hb1⟩
        have HF : Hid _ := hide (few_is (c := c) hfb hn (hr.below hb1 (Nat.le_refl _)))
        replace hst := hide hst
        replace hb1 := hide hb1
        replace hfb := hide hfb
        clear HW
        cases fb with
        | false =>
          go_wp2_with (first | (go_at_call 53; refine HF.out.mono ?_; rintro e w2 ⟨rfl, rfl⟩) | (go_at_call 64; refine (HG2 _).out.mono ?_; rintro e w2 ⟨rfl, rfl⟩) | (go_at_call 54; refine (lives25 _).mono ?_; rintro e w9 ⟨rfl, hb9⟩; replace hb9 := hide hb9))
          go_ret
          exact ⟨rfl, hb1.out.trans (hb9.out.mono hb1.out.size)⟩
        | true =>
          go_wp2_with (first | (go_at_call 53; refine HF.out.mono ?_; rintro e w2 ⟨rfl, rfl⟩) | (go_at_call 64; refine (HG2 _).out.mono ?_; rintro e w2 ⟨rfl, rfl⟩))
          obtain ⟨hw, hn60⟩ := fewA_iff.1 hfb.out
          rw [hr.1] at hn60
          have hnI : (n : Int) ≤ 60 := by omega
          replace hw := hide hw
          clear hn
          go_wp2
          obtain ⟨w2, hw2⟩ : ∃ w2, w1.alloc (.cells (boxR N (.slice none 0 0) (.slice none 0 0)) 87) = w2 := ⟨_, rfl⟩
          have hq := Blk.new w1 87 (boxR N (.slice none 0 0) (.slice none 0 0))
          have hb2 := (Below.refl w1.heap.size w1).alloc (Nat.le_refl _) (.cells (boxR N (.slice none 0 0) (.slice none 0 0)) 87)
          rw [hw2] at hq hb2 ⊢
          have hB0 := hide (both_new hst.out hb1.out.size hb2 hq (Nat.le_refl _))
          have hb0 := hide (hb1.out.trans (hb2.mono hb1.out.size))
          obtain ⟨lo, hlo⟩ : ∃ lo, w1.heap.size = lo := ⟨_, rfl⟩
          rw [hlo] at hB0 ⊢
          obtain ⟨q, hqe⟩ : ∃ q, lo = q := ⟨_, rfl⟩
          rw [show Both w0.heap.size lo p mA mN mS mB lo N = Both w0.heap.size lo p mA mN mS mB q N from by rw [← hqe]] at hB0
          rw [hqe]
          clear hq hb2 hst hb1 hw2 hlo
          replace hqe := hide hqe
          go_loopg [7] n (fun gk i wr => ∃ (k : Nat) (rows : List (List Int)) (is : List Bool), k ≤ n ∧ n - k ≤ gk ∧ i = .int .i64 k ∧ rows.length ≤ k ∧ is.length = rows.length ∧ Hid (∀ r ∈ rows, r.length ≤ 1000) ∧ Hid (Both w0.heap.size lo p mA mN mS mB q N rows is rows is wr) ∧ Hid (Below w0.heap.size w0 wr))
          case atStart => exact ⟨0, [], [], Nat.zero_le _, Nat.le_refl _, rfl, Nat.le_refl _, rfl, hide (fun r hr => absurd hr List.not_mem_nil), hB0, hb0⟩
          case round =>
            obtain ⟨k, rows, is, hk, hgk, rfl, hrk, hil, hrr, hBo, hb⟩ := hrel
            clear hB0 hb0
            have hkI : (k : Int) ≤ 60 := by omega
            by_cases hlt : k < n
            · have hltI : (k : Int) < n := by omega
              obtain ⟨ad, s, z, rfl, hB, hs, c0, c1, c3, hwr⟩ := hr.get hlt
              have hwl := hw.out s (List.mem_of_getElem? hs)
              have hzn := Rd.len hwr
              obtain ⟨lt, lv, wy⟩ := s
              obtain ⟨zA, zn, zc⟩ := z
              simp only [Sl.val] at c0 c1 c3 hwl hzn hwr
              have hzn2 : zn ≤ 12 := by omega
              have hwl1 : wy.length ≤ 1000 := by omega
              have hltA : (ad.add (k * 3)).block < w0.heap.size := by rw [add_block]; exact hB
              have hrl : rows.length ≤ 1000 := by omega
              clear hs
              go_upto_region 12 with fail
              go_cut [70] from 40 to 125 (fun s70 wx => s70 = .bool false ∧ ∃ (R : List (List Int)) (I : List Bool), R.length ≤ k + 1 ∧ I.length = R.length ∧ Hid (∀ r ∈ R, r.length ≤ 1000) ∧ Hid (Both w0.heap.size lo p mA mN mS mB q N R I R I wx) ∧ Hid (Below w0.heap.size w0 wx))
              case first =>
                by_cases hk0 : lt = 0
                · subst hk0
                  obtain ⟨V, hV⟩ : ∃ V, addV N rows wy = V := ⟨_, rfl⟩
                  replace hV := hide hV
                  refine wp_region_slots [46, 47, 48, 49, 50, 51, 52, 53, 54, 55, 56, 57, 58, 59, 60, 61, 62, 63, 64, 65, 66, 67, 68, 69, 70] (fun D g wz => g 1 = .slice (some ad) n c ∧ g 5 = .pointer (some ⟨p, 0, none⟩) ∧ g 6 = .pointer (some ⟨q, 0, none⟩) ∧ g 7 = .int .i64 k ∧ Below w0.heap.size w0 wz ∧ (¬ D 15 → Both w0.heap.size lo p mA mN mS mB q N rows is rows is wz) ∧ (D 15 → ¬ D 22 → Both w0.heap.size lo p mA mN mS mB q N (addP N rows wy) (addI N is wy) rows is wz) ∧ (D 22 → D 15) ∧ (D 15 → D 14) ∧ (D 14 → D 8) ∧ (D 0 → g 46 = .slice (some ad) n c) ∧ (D 1 → g 47 = .int .i64 k) ∧ (D 2 → g 48 = .pointer (some (ad.add (k * 3)))) ∧ (D 3 → g 49 = .pointer (some (ad.add (k * 3)))) ∧ (D 4 → g 50 = .int .i64 0) ∧ (D 5 → g 51 = .bool true) ∧ (D 6 → g 52 = .bool true) ∧ (D 7 → g 53 = .pointer (some ⟨p, 0, none⟩)) ∧ (D 8 → (¬ D 15 → ∃ gb, g 54 = .slice (some ⟨gb, 0, none⟩) 0 0 ∧ w0.heap.size ≤ gb ∧ Blk wz gb 3 #[])) ∧ (D 9 → g 55 = .slice (some ad) n c) ∧ (D 10 → g 56 = .int .i64 k) ∧ (D 11 → g 57 = .pointer (some (ad.add (k * 3)))) ∧ (D 12 → g 58 = .pointer (some ⟨(ad.add (k * 3)).block, (ad.add (k * 3)).off + 2, none⟩)) ∧ (D 13 → g 59 = .slice zA zn zc) ∧ (D 14 → (¬ D 15 → ∃ (A2 : Option Addr) (c2 : Nat), g 60 = .slice A2 zn c2 ∧ Rd wz A2 zn (ivs wy))) ∧ (D 15 → g 61 = .int .i64 V) ∧ (D 16 → g 62 = .pointer (some ⟨q, 0, none⟩)) ∧ (D 17 → g 63 = .slice (some ad) n c) ∧ (D 18 → g 64 = .int .i64 k) ∧ (D 19 → g 65 = .pointer (some (ad.add (k * 3)))) ∧ (D 20 → g 66 = .pointer (some ⟨(ad.add (k * 3)).block, (ad.add (k * 3)).off + 2, none⟩)) ∧ (D 21 → g 67 = .slice zA zn zc) ∧ (D 22 → g 68 = .int .i64 V ∧ Both w0.heap.size lo p mA mN mS mB q N (addP N rows wy) (addI N is wy) (addP N rows wy) (addI N is wy) wz) ∧ (D 23 → g 69 = .bool false) ∧ (D 24 → g 70 = .bool false)) (by kernel_rfl) (by kernel_rfl) 127 rfl (by kernel_rfl) ?h0 ?hstep ?hdone
                  case h0 => exact ⟨rfl, rfl, rfl, rfl, hb.out.trans (((Dr.refl wr).drew.below _).mono hb.out.size), (fun _ => hBo.out.keep ((Dr.refl wr).drew.below _)), nt0, nt0, nt0, nt0, nt0, nt0, nt0, nt0, nt0, nt0, nt0, nt0, nt0, nt0, nt0, nt0, nt0, nt0, nt0, nt0, nt0, nt0, nt0, nt0, nt0, nt0, nt0, nt0, nt0⟩
                  case hstep =>
                    intro D g wz i hi' hn hd' hI2
                    obtain ⟨r1, r5, r6, r7, hbz, s0, s1, c22, c15, c14, f0, f1, f2, f3, f4, f5, f6, f7, f8, f9, f10, f11, f12, f13, f14, f15, f16, f17, f18, f19, f20, f21, f22, f23, f24⟩ := hI2
                    have hi' : i < 25 := hi'
                    rcases (show i = 0 ∨ i = 1 ∨ i = 2 ∨ i = 3 ∨ i = 4 ∨ i = 5 ∨ i = 6 ∨ i = 7 ∨ i = 8 ∨ i = 9 ∨ i = 10 ∨ i = 11 ∨ i = 12 ∨ i = 13 ∨ i = 14 ∨ i = 15 ∨ i = 16 ∨ i = 17 ∨ i = 18 ∨ i = 19 ∨ i = 20 ∨ i = 21 ∨ i = 22 ∨ i = 23 ∨ i = 24 by omega) with rfl | rfl | rfl | rfl | rfl | rfl | rfl | rfl | rfl | rfl | rfl | rfl | rfl | rfl | rfl | rfl | rfl | rfl | rfl | rfl | rfl | rfl | rfl | rfl | rfl
                    · -- 0
                      refine slot_step rfl rfl (fun az hs K hK => ?_)
                      have hK : Shut _ := hK
                      have e1 := hs.get 1
                      rw [r1] at e1
                      go_simp
                      exact hK.out _ _ ⟨r1, r5, r6, r7, hbz, (fun h => s0 (fun e => h (Or.inr e))), (fun h h' => s1 (h.resolve_left (by decide)) (fun e => h' (Or.inr e))), (fun h => h.elim (fun e => absurd e (by decide)) (fun h => Or.inr (c22 h))), (fun h => h.elim (fun e => absurd e (by decide)) (fun h => Or.inr (c15 h))), (fun h => h.elim (fun e => absurd e (by decide)) (fun h => Or.inr (c14 h))), fun _ => rfl, kp f1, kp f2, kp f3, kp f4, kp f5, kp f6, kp f7, fun h h' => f8 (h.resolve_left (by decide)) (fun e => h' (Or.inr e)), kp f9, kp f10, kp f11, kp f12, kp f13, fun h h' => f14 (h.resolve_left (by decide)) (fun e => h' (Or.inr e)), kp f15, kp f16, kp f17, kp f18, kp f19, kp f20, kp f21, kp f22, kp f23, kp f24⟩
                    · -- 1
                      refine slot_step rfl rfl (fun az hs K hK => ?_)
                      have hK : Shut _ := hK
                      have e7 := hs.get 7
                      rw [r7] at e7
                      go_simp
                      exact hK.out _ _ ⟨r1, r5, r6, r7, hbz, (fun h => s0 (fun e => h (Or.inr e))), (fun h h' => s1 (h.resolve_left (by decide)) (fun e => h' (Or.inr e))), (fun h => h.elim (fun e => absurd e (by decide)) (fun h => Or.inr (c22 h))), (fun h => h.elim (fun e => absurd e (by decide)) (fun h => Or.inr (c15 h))), (fun h => h.elim (fun e => absurd e (by decide)) (fun h => Or.inr (c14 h))), kp f0, fun _ => rfl, kp f2, kp f3, kp f4, kp f5, kp f6, kp f7, fun h h' => f8 (h.resolve_left (by decide)) (fun e => h' (Or.inr e)), kp f9, kp f10, kp f11, kp f12, kp f13, fun h h' => f14 (h.resolve_left (by decide)) (fun e => h' (Or.inr e)), kp f15, kp f16, kp f17, kp f18, kp f19, kp f20, kp f21, kp f22, kp f23, kp f24⟩
                    · -- 2
                      have d0 := f0 (hd' 0 (by kernel_rfl))
                      have d1 := f1 (hd' 1 (by kernel_rfl))
                      refine slot_step rfl rfl (fun az hs K hK => ?_)
                      have hK : Shut _ := hK
                      have e46 := hs.get 46
                      rw [d0] at e46
                      have e47 := hs.get 47
                      rw [d1] at e47
                      go_simp
                      exact hK.out _ _ ⟨r1, r5, r6, r7, hbz, (fun h => s0 (fun e => h (Or.inr e))), (fun h h' => s1 (h.resolve_left (by decide)) (fun e => h' (Or.inr e))), (fun h => h.elim (fun e => absurd e (by decide)) (fun h => Or.inr (c22 h))), (fun h => h.elim (fun e => absurd e (by decide)) (fun h => Or.inr (c15 h))), (fun h => h.elim (fun e => absurd e (by decide)) (fun h => Or.inr (c14 h))), kp f0, kp f1, fun _ => rfl, kp f3, kp f4, kp f5, kp f6, kp f7, fun h h' => f8 (h.resolve_left (by decide)) (fun e => h' (Or.inr e)), kp f9, kp f10, kp f11, kp f12, kp f13, fun h h' => f14 (h.resolve_left (by decide)) (fun e => h' (Or.inr e)), kp f15, kp f16, kp f17, kp f18, kp f19, kp f20, kp f21, kp f22, kp f23, kp f24⟩
                    · -- 3
                      have d2 := f2 (hd' 2 (by kernel_rfl))
                      refine slot_step rfl rfl (fun az hs K hK => ?_)
                      have hK : Shut _ := hK
                      have e48 := hs.get 48
                      rw [d2] at e48
                      go_simp
                      exact hK.out _ _ ⟨r1, r5, r6, r7, hbz, (fun h => s0 (fun e => h (Or.inr e))), (fun h h' => s1 (h.resolve_left (by decide)) (fun e => h' (Or.inr e))), (fun h => h.elim (fun e => absurd e (by decide)) (fun h => Or.inr (c22 h))), (fun h => h.elim (fun e => absurd e (by decide)) (fun h => Or.inr (c15 h))), (fun h => h.elim (fun e => absurd e (by decide)) (fun h => Or.inr (c14 h))), kp f0, kp f1, kp f2, fun _ => rfl, kp f4, kp f5, kp f6, kp f7, fun h h' => f8 (h.resolve_left (by decide)) (fun e => h' (Or.inr e)), kp f9, kp f10, kp f11, kp f12, kp f13, fun h h' => f14 (h.resolve_left (by decide)) (fun e => h' (Or.inr e)), kp f15, kp f16, kp f17, kp f18, kp f19, kp f20, kp f21, kp f22, kp f23, kp f24⟩
                    · -- 4
                      have d3 := f3 (hd' 3 (by kernel_rfl))
                      refine slot_step rfl rfl (fun az hs K hK => ?_)
                      have hK : Shut _ := hK
                      have cz := (hbz.cell hltA).trans c0
                      have e49 := hs.get 49
                      rw [d3] at e49
                      go_simp
                      exact hK.out _ _ ⟨r1, r5, r6, r7, hbz, (fun h => s0 (fun e => h (Or.inr e))), (fun h h' => s1 (h.resolve_left (by decide)) (fun e => h' (Or.inr e))), (fun h => h.elim (fun e => absurd e (by decide)) (fun h => Or.inr (c22 h))), (fun h => h.elim (fun e => absurd e (by decide)) (fun h => Or.inr (c15 h))), (fun h => h.elim (fun e => absurd e (by decide)) (fun h => Or.inr (c14 h))), kp f0, kp f1, kp f2, kp f3, fun _ => rfl, kp f5, kp f6, kp f7, fun h h' => f8 (h.resolve_left (by decide)) (fun e => h' (Or.inr e)), kp f9, kp f10, kp f11, kp f12, kp f13, fun h h' => f14 (h.resolve_left (by decide)) (fun e => h' (Or.inr e)), kp f15, kp f16, kp f17, kp f18, kp f19, kp f20, kp f21, kp f22, kp f23, kp f24⟩
                    · -- 5
                      have d4 := f4 (hd' 4 (by kernel_rfl))
                      refine slot_step rfl rfl (fun az hs K hK => ?_)
                      have hK : Shut _ := hK
                      have e50 := hs.get 50
                      rw [d4] at e50
                      go_simp
                      exact hK.out _ _ ⟨r1, r5, r6, r7, hbz, (fun h => s0 (fun e => h (Or.inr e))), (fun h h' => s1 (h.resolve_left (by decide)) (fun e => h' (Or.inr e))), (fun h => h.elim (fun e => absurd e (by decide)) (fun h => Or.inr (c22 h))), (fun h => h.elim (fun e => absurd e (by decide)) (fun h => Or.inr (c15 h))), (fun h => h.elim (fun e => absurd e (by decide)) (fun h => Or.inr (c14 h))), kp f0, kp f1, kp f2, kp f3, kp f4, fun _ => rfl, kp f6, kp f7, fun h h' => f8 (h.resolve_left (by decide)) (fun e => h' (Or.inr e)), kp f9, kp f10, kp f11, kp f12, kp f13, fun h h' => f14 (h.resolve_left (by decide)) (fun e => h' (Or.inr e)), kp f15, kp f16, kp f17, kp f18, kp f19, kp f20, kp f21, kp f22, kp f23, kp f24⟩
                    · -- 6
                      have d5 := f5 (hd' 5 (by kernel_rfl))
                      refine slot_step rfl rfl (fun az hs K hK => ?_)
                      have hK : Shut _ := hK
                      have e51 := hs.get 51
                      rw [d5] at e51
                      go_simp
                      exact hK.out _ _ ⟨r1, r5, r6, r7, hbz, (fun h => s0 (fun e => h (Or.inr e))), (fun h h' => s1 (h.resolve_left (by decide)) (fun e => h' (Or.inr e))), (fun h => h.elim (fun e => absurd e (by decide)) (fun h => Or.inr (c22 h))), (fun h => h.elim (fun e => absurd e (by decide)) (fun h => Or.inr (c15 h))), (fun h => h.elim (fun e => absurd e (by decide)) (fun h => Or.inr (c14 h))), kp f0, kp f1, kp f2, kp f3, kp f4, kp f5, fun _ => rfl, kp f7, fun h h' => f8 (h.resolve_left (by decide)) (fun e => h' (Or.inr e)), kp f9, kp f10, kp f11, kp f12, kp f13, fun h h' => f14 (h.resolve_left (by decide)) (fun e => h' (Or.inr e)), kp f15, kp f16, kp f17, kp f18, kp f19, kp f20, kp f21, kp f22, kp f23, kp f24⟩
                    · -- 7
                      have d6 := f6 (hd' 6 (by kernel_rfl))
                      refine slot_step_yes (j := 6) (d := 52) rfl rfl rfl (by decide) (d6) (fun az hs K hK => ?_)
                      have hK : Shut _ := hK
                      have e52 := hs.get 52
                      rw [d6] at e52
                      have e5 := hs.get 5
                      rw [r5] at e5
                      go_simp
                      exact hK.out _ _ ⟨r1, r5, r6, r7, hbz, (fun h => s0 (fun e => h (Or.inr e))), (fun h h' => s1 (h.resolve_left (by decide)) (fun e => h' (Or.inr e))), (fun h => h.elim (fun e => absurd e (by decide)) (fun h => Or.inr (c22 h))), (fun h => h.elim (fun e => absurd e (by decide)) (fun h => Or.inr (c15 h))), (fun h => h.elim (fun e => absurd e (by decide)) (fun h => Or.inr (c14 h))), kp f0, kp f1, kp f2, kp f3, kp f4, kp f5, kp f6, fun _ => rfl, fun h h' => f8 (h.resolve_left (by decide)) (fun e => h' (Or.inr e)), kp f9, kp f10, kp f11, kp f12, kp f13, fun h h' => f14 (h.resolve_left (by decide)) (fun e => h' (Or.inr e)), kp f15, kp f16, kp f17, kp f18, kp f19, kp f20, kp f21, kp f22, kp f23, kp f24⟩
                    · -- 8
                      have d6 := f6 (hd' 6 (by kernel_rfl))
                      refine slot_step_yes (j := 6) (d := 52) rfl rfl rfl (by decide) (d6) (fun az hs K hK => ?_)
                      have hK : Shut _ := hK
                      have hbw := (Below.refl wz.heap.size wz).alloc (Nat.le_refl _) (.cells #[] 3)
                      have e52 := hs.get 52
                      rw [d6] at e52
                      go_simp
                      exact hK.out (.slice (some ⟨wz.heap.size, 0, none⟩) 0 0) (wz.alloc (.cells #[] 3)) ⟨r1, r5, r6, r7, hbz.trans (hbw.mono hbz.size), (fun h => (s0 (fun e => h (Or.inr e))).keep hbw), (fun h h' => (s1 (h.resolve_left (by decide)) (fun e => h' (Or.inr e))).keep hbw), (fun h => h.elim (fun e => absurd e (by decide)) (fun h => Or.inr (c22 h))), (fun h => h.elim (fun e => absurd e (by decide)) (fun h => Or.inr (c15 h))), (fun h => h.elim (fun e => absurd e (by decide)) (fun h => Or.inr (c14 h))), kp f0, kp f1, kp f2, kp f3, kp f4, kp f5, kp f6, kp f7, fun _ _ => ⟨wz.heap.size, rfl, hbz.size, Blk.new wz _ _⟩, kp f9, kp f10, kp f11, kp f12, kp f13, fun h => h.elim (fun e => absurd e (by decide)) (fun h => absurd (c14 h) hn), fun h => h.elim (fun e => absurd e (by decide)) (fun h => absurd (c14 (c15 h)) hn), kp f16, kp f17, kp f18, kp f19, kp f20, kp f21, fun h => h.elim (fun e => absurd e (by decide)) (fun h => absurd (c14 (c15 (c22 h))) hn), kp f23, kp f24⟩
                    · -- 9
                      have d6 := f6 (hd' 6 (by kernel_rfl))
                      refine slot_step_yes (j := 6) (d := 52) rfl rfl rfl (by decide) (d6) (fun az hs K hK => ?_)
                      have hK : Shut _ := hK
                      have e52 := hs.get 52
                      rw [d6] at e52
                      have e1 := hs.get 1
                      rw [r1] at e1
                      go_simp
                      exact hK.out _ _ ⟨r1, r5, r6, r7, hbz, (fun h => s0 (fun e => h (Or.inr e))), (fun h h' => s1 (h.resolve_left (by decide)) (fun e => h' (Or.inr e))), (fun h => h.elim (fun e => absurd e (by decide)) (fun h => Or.inr (c22 h))), (fun h => h.elim (fun e => absurd e (by decide)) (fun h => Or.inr (c15 h))), (fun h => h.elim (fun e => absurd e (by decide)) (fun h => Or.inr (c14 h))), kp f0, kp f1, kp f2, kp f3, kp f4, kp f5, kp f6, kp f7, fun h h' => f8 (h.resolve_left (by decide)) (fun e => h' (Or.inr e)), fun _ => rfl, kp f10, kp f11, kp f12, kp f13, fun h h' => f14 (h.resolve_left (by decide)) (fun e => h' (Or.inr e)), kp f15, kp f16, kp f17, kp f18, kp f19, kp f20, kp f21, kp f22, kp f23, kp f24⟩
                    · -- 10
                      have d6 := f6 (hd' 6 (by kernel_rfl))
                      refine slot_step_yes (j := 6) (d := 52) rfl rfl rfl (by decide) (d6) (fun az hs K hK => ?_)
                      have hK : Shut _ := hK
                      have e52 := hs.get 52
                      rw [d6] at e52
                      have e7 := hs.get 7
                      rw [r7] at e7
                      go_simp
                      exact hK.out _ _ ⟨r1, r5, r6, r7, hbz, (fun h => s0 (fun e => h (Or.inr e))), (fun h h' => s1 (h.resolve_left (by decide)) (fun e => h' (Or.inr e))), (fun h => h.elim (fun e => absurd e (by decide)) (fun h => Or.inr (c22 h))), (fun h => h.elim (fun e => absurd e (by decide)) (fun h => Or.inr (c15 h))), (fun h => h.elim (fun e => absurd e (by decide)) (fun h => Or.inr (c14 h))), kp f0, kp f1, kp f2, kp f3, kp f4, kp f5, kp f6, kp f7, fun h h' => f8 (h.resolve_left (by decide)) (fun e => h' (Or.inr e)), kp f9, fun _ => rfl, kp f11, kp f12, kp f13, fun h h' => f14 (h.resolve_left (by decide)) (fun e => h' (Or.inr e)), kp f15, kp f16, kp f17, kp f18, kp f19, kp f20, kp f21, kp f22, kp f23, kp f24⟩
                    · -- 11
                      have d6 := f6 (hd' 6 (by kernel_rfl))
                      have d9 := f9 (hd' 9 (by kernel_rfl))
                      have d10 := f10 (hd' 10 (by kernel_rfl))
                      refine slot_step_yes (j := 6) (d := 52) rfl rfl rfl (by decide) (d6) (fun az hs K hK => ?_)
                      have hK : Shut _ := hK
                      have e52 := hs.get 52
                      rw [d6] at e52
                      have e55 := hs.get 55
                      rw [d9] at e55
                      have e56 := hs.get 56
                      rw [d10] at e56
                      go_simp
                      exact hK.out _ _ ⟨r1, r5, r6, r7, hbz, (fun h => s0 (fun e => h (Or.inr e))), (fun h h' => s1 (h.resolve_left (by decide)) (fun e => h' (Or.inr e))), (fun h => h.elim (fun e => absurd e (by decide)) (fun h => Or.inr (c22 h))), (fun h => h.elim (fun e => absurd e (by decide)) (fun h => Or.inr (c15 h))), (fun h => h.elim (fun e => absurd e (by decide)) (fun h => Or.inr (c14 h))), kp f0, kp f1, kp f2, kp f3, kp f4, kp f5, kp f6, kp f7, fun h h' => f8 (h.resolve_left (by decide)) (fun e => h' (Or.inr e)), kp f9, kp f10, fun _ => rfl, kp f12, kp f13, fun h h' => f14 (h.resolve_left (by decide)) (fun e => h' (Or.inr e)), kp f15, kp f16, kp f17, kp f18, kp f19, kp f20, kp f21, kp f22, kp f23, kp f24⟩
                    · -- 12
                      have d6 := f6 (hd' 6 (by kernel_rfl))
                      have d11 := f11 (hd' 11 (by kernel_rfl))
                      refine slot_step_yes (j := 6) (d := 52) rfl rfl rfl (by decide) (d6) (fun az hs K hK => ?_)
                      have hK : Shut _ := hK
                      have e52 := hs.get 52
                      rw [d6] at e52
                      have e57 := hs.get 57
                      rw [d11] at e57
                      go_simp
                      exact hK.out _ _ ⟨r1, r5, r6, r7, hbz, (fun h => s0 (fun e => h (Or.inr e))), (fun h h' => s1 (h.resolve_left (by decide)) (fun e => h' (Or.inr e))), (fun h => h.elim (fun e => absurd e (by decide)) (fun h => Or.inr (c22 h))), (fun h => h.elim (fun e => absurd e (by decide)) (fun h => Or.inr (c15 h))), (fun h => h.elim (fun e => absurd e (by decide)) (fun h => Or.inr (c14 h))), kp f0, kp f1, kp f2, kp f3, kp f4, kp f5, kp f6, kp f7, fun h h' => f8 (h.resolve_left (by decide)) (fun e => h' (Or.inr e)), kp f9, kp f10, kp f11, fun _ => rfl, kp f13, fun h h' => f14 (h.resolve_left (by decide)) (fun e => h' (Or.inr e)), kp f15, kp f16, kp f17, kp f18, kp f19, kp f20, kp f21, kp f22, kp f23, kp f24⟩
                    · -- 13
                      have d6 := f6 (hd' 6 (by kernel_rfl))
                      have d12 := f12 (hd' 12 (by kernel_rfl))
                      refine slot_step_yes (j := 6) (d := 52) rfl rfl rfl (by decide) (d6) (fun az hs K hK => ?_)
                      have hK : Shut _ := hK
                      have cz := (hbz.cell (p := ⟨(ad.add (k * 3)).block, (ad.add (k * 3)).off + 2, none⟩) hltA).trans c3
                      have e52 := hs.get 52
                      rw [d6] at e52
                      have e58 := hs.get 58
                      rw [d12] at e58
                      go_simp
                      exact hK.out _ _ ⟨r1, r5, r6, r7, hbz, (fun h => s0 (fun e => h (Or.inr e))), (fun h h' => s1 (h.resolve_left (by decide)) (fun e => h' (Or.inr e))), (fun h => h.elim (fun e => absurd e (by decide)) (fun h => Or.inr (c22 h))), (fun h => h.elim (fun e => absurd e (by decide)) (fun h => Or.inr (c15 h))), (fun h => h.elim (fun e => absurd e (by decide)) (fun h => Or.inr (c14 h))), kp f0, kp f1, kp f2, kp f3, kp f4, kp f5, kp f6, kp f7, fun h h' => f8 (h.resolve_left (by decide)) (fun e => h' (Or.inr e)), kp f9, kp f10, kp f11, kp f12, fun _ => rfl, fun h h' => f14 (h.resolve_left (by decide)) (fun e => h' (Or.inr e)), kp f15, kp f16, kp f17, kp f18, kp f19, kp f20, kp f21, kp f22, kp f23, kp f24⟩
                    · -- 14
                      have d6 := f6 (hd' 6 (by kernel_rfl))
                      have d8 := f8 (hd' 8 (by kernel_rfl))
                      have d13 := f13 (hd' 13 (by kernel_rfl))
                      refine slot_step_yes (j := 6) (d := 52) rfl rfl rfl (by decide) (d6) (fun az hs K hK => ?_)
                      have hK : Shut _ := hK
                      have nd15 : ¬ D 15 := fun e => hn (c15 e)
                      obtain ⟨gb, eg, hgb, hbk⟩ := d8 nd15
                      have e52 := hs.get 52
                      rw [d6] at e52
                      have e59 := hs.get 59
                      rw [d13] at e59
                      refine oper_append_lit (base := w0.heap.size) (.tmp 54) (.tmp 59) 40 rfl Try.underlying40 info_i rfl (by decide) (hs.eval eg) (hs.eval d13) hbk hgb (rd_rdS (hwr.below hbz (Nat.le_refl _))) ivs_cell (by unfold maxLen; omega) (by omega) ?_
                      intro v2 w2 hown2 hbw
                      obtain ⟨A2, c2, rfl, _, _, hr2⟩ := Rd.of_own hown2
                      exact hK.out _ _ ⟨r1, r5, r6, r7, hbz.trans (hbw.mono hbz.size), (fun h => (s0 (fun e => h (Or.inr e))).keep hbw), (fun h h' => (s1 (h.resolve_left (by decide)) (fun e => h' (Or.inr e))).keep hbw), (fun h => h.elim (fun e => absurd e (by decide)) (fun h => Or.inr (c22 h))), (fun h => h.elim (fun e => absurd e (by decide)) (fun h => Or.inr (c15 h))), (fun _ => Or.inr (hd' 8 (by kernel_rfl))), kp f0, kp f1, kp f2, kp f3, kp f4, kp f5, kp f6, kp f7, fun _ _ => ⟨gb, eg, hgb, hbk.below hbw hbk.lt⟩, kp f9, kp f10, kp f11, kp f12, kp f13, fun _ _ => ⟨A2, c2, rfl, hr2⟩, fun h => h.elim (fun e => absurd e (by decide)) (fun h => absurd (c15 h) hn), kp f16, kp f17, kp f18, kp f19, kp f20, kp f21, fun h => h.elim (fun e => absurd e (by decide)) (fun h => absurd (c15 (c22 h)) hn), kp f23, kp f24⟩
                    · -- 15
                      have d6 := f6 (hd' 6 (by kernel_rfl))
                      have d7 := f7 (hd' 7 (by kernel_rfl))
                      have d14 := f14 (hd' 14 (by kernel_rfl))
                      refine slot_step_yes (j := 6) (d := 52) rfl rfl rfl (by decide) (d6) (fun az hs K hK => ?_)
                      have hK : Shut _ := hK
                      obtain ⟨A2, c2, es, hrd⟩ := d14 hn
                      have e60 := hs.get 60
                      rw [es] at e60
                      have e52 := hs.get 52
                      rw [d6] at e52
                      have e53 := hs.get 53
                      rw [d7] at e53
                      have h1000 : zn ≤ 1000 := by omega
                      have hS0 := s0 hn
                      have HA := both_Add hS0 hN2.out hrl A2 zn c2 wy h1000 hrd
                      rw [hV.out] at HA
                      replace HA := hide HA
                      go_wp2_with (go_at_call 57; refine HA.out.mono ?_; rintro e wy2 ⟨rfl, hB2, hb2⟩)
                      exact ⟨r1, r5, r6, r7, hbz.trans hb2, (fun h => (h (by simp)).elim), (fun h h' => hB2), (fun h => h.elim (fun e => absurd e (by decide)) (fun h => Or.inr (c22 h))), (fun _ => Or.inr (hd' 14 (by kernel_rfl))), (fun h => h.elim (fun e => absurd e (by decide)) (fun h => Or.inr (c14 h))), kp f0, kp f1, kp f2, kp f3, kp f4, kp f5, kp f6, kp f7, fun _ h' => (h' (by simp)).elim, kp f9, kp f10, kp f11, kp f12, kp f13, fun _ h' => (h' (by simp)).elim, fun _ => rfl, kp f16, kp f17, kp f18, kp f19, kp f20, kp f21, fun h => h.elim (fun e => absurd e (by decide)) (fun h => absurd (c22 h) hn), kp f23, kp f24⟩
                    · -- 16
                      have d6 := f6 (hd' 6 (by kernel_rfl))
                      refine slot_step_yes (j := 6) (d := 52) rfl rfl rfl (by decide) (d6) (fun az hs K hK => ?_)
                      have hK : Shut _ := hK
                      have e52 := hs.get 52
                      rw [d6] at e52
                      have e6 := hs.get 6
                      rw [r6] at e6
                      go_simp
                      exact hK.out _ _ ⟨r1, r5, r6, r7, hbz, (fun h => s0 (fun e => h (Or.inr e))), (fun h h' => s1 (h.resolve_left (by decide)) (fun e => h' (Or.inr e))), (fun h => h.elim (fun e => absurd e (by decide)) (fun h => Or.inr (c22 h))), (fun h => h.elim (fun e => absurd e (by decide)) (fun h => Or.inr (c15 h))), (fun h => h.elim (fun e => absurd e (by decide)) (fun h => Or.inr (c14 h))), kp f0, kp f1, kp f2, kp f3, kp f4, kp f5, kp f6, kp f7, fun h h' => f8 (h.resolve_left (by decide)) (fun e => h' (Or.inr e)), kp f9, kp f10, kp f11, kp f12, kp f13, fun h h' => f14 (h.resolve_left (by decide)) (fun e => h' (Or.inr e)), kp f15, fun _ => rfl, kp f17, kp f18, kp f19, kp f20, kp f21, kp f22, kp f23, kp f24⟩
                    · -- 17
                      have d6 := f6 (hd' 6 (by kernel_rfl))
                      refine slot_step_yes (j := 6) (d := 52) rfl rfl rfl (by decide) (d6) (fun az hs K hK => ?_)
                      have hK : Shut _ := hK
                      have e52 := hs.get 52
                      rw [d6] at e52
                      have e1 := hs.get 1
                      rw [r1] at e1
                      go_simp
                      exact hK.out _ _ ⟨r1, r5, r6, r7, hbz, (fun h => s0 (fun e => h (Or.inr e))), (fun h h' => s1 (h.resolve_left (by decide)) (fun e => h' (Or.inr e))), (fun h => h.elim (fun e => absurd e (by decide)) (fun h => Or.inr (c22 h))), (fun h => h.elim (fun e => absurd e (by decide)) (fun h => Or.inr (c15 h))), (fun h => h.elim (fun e => absurd e (by decide)) (fun h => Or.inr (c14 h))), kp f0, kp f1, kp f2, kp f3, kp f4, kp f5, kp f6, kp f7, fun h h' => f8 (h.resolve_left (by decide)) (fun e => h' (Or.inr e)), kp f9, kp f10, kp f11, kp f12, kp f13, fun h h' => f14 (h.resolve_left (by decide)) (fun e => h' (Or.inr e)), kp f15, kp f16, fun _ => rfl, kp f18, kp f19, kp f20, kp f21, kp f22, kp f23, kp f24⟩
                    · -- 18
                      have d6 := f6 (hd' 6 (by kernel_rfl))
                      refine slot_step_yes (j := 6) (d := 52) rfl rfl rfl (by decide) (d6) (fun az hs K hK => ?_)
                      have hK : Shut _ := hK
                      have e52 := hs.get 52
                      rw [d6] at e52
                      have e7 := hs.get 7
                      rw [r7] at e7
                      go_simp
                      exact hK.out _ _ ⟨r1, r5, r6, r7, hbz, (fun h => s0 (fun e => h (Or.inr e))), (fun h h' => s1 (h.resolve_left (by decide)) (fun e => h' (Or.inr e))), (fun h => h.elim (fun e => absurd e (by decide)) (fun h => Or.inr (c22 h))), (fun h => h.elim (fun e => absurd e (by decide)) (fun h => Or.inr (c15 h))), (fun h => h.elim (fun e => absurd e (by decide)) (fun h => Or.inr (c14 h))), kp f0, kp f1, kp f2, kp f3, kp f4, kp f5, kp f6, kp f7, fun h h' => f8 (h.resolve_left (by decide)) (fun e => h' (Or.inr e)), kp f9, kp f10, kp f11, kp f12, kp f13, fun h h' => f14 (h.resolve_left (by decide)) (fun e => h' (Or.inr e)), kp f15, kp f16, kp f17, fun _ => rfl, kp f19, kp f20, kp f21, kp f22, kp f23, kp f24⟩
                    · -- 19
                      have d6 := f6 (hd' 6 (by kernel_rfl))
                      have d17 := f17 (hd' 17 (by kernel_rfl))
                      have d18 := f18 (hd' 18 (by kernel_rfl))
                      refine slot_step_yes (j := 6) (d := 52) rfl rfl rfl (by decide) (d6) (fun az hs K hK => ?_)
                      have hK : Shut _ := hK
                      have e52 := hs.get 52
                      rw [d6] at e52
                      have e63 := hs.get 63
                      rw [d17] at e63
                      have e64 := hs.get 64
                      rw [d18] at e64
                      go_simp
                      exact hK.out _ _ ⟨r1, r5, r6, r7, hbz, (fun h => s0 (fun e => h (Or.inr e))), (fun h h' => s1 (h.resolve_left (by decide)) (fun e => h' (Or.inr e))), (fun h => h.elim (fun e => absurd e (by decide)) (fun h => Or.inr (c22 h))), (fun h => h.elim (fun e => absurd e (by decide)) (fun h => Or.inr (c15 h))), (fun h => h.elim (fun e => absurd e (by decide)) (fun h => Or.inr (c14 h))), kp f0, kp f1, kp f2, kp f3, kp f4, kp f5, kp f6, kp f7, fun h h' => f8 (h.resolve_left (by decide)) (fun e => h' (Or.inr e)), kp f9, kp f10, kp f11, kp f12, kp f13, fun h h' => f14 (h.resolve_left (by decide)) (fun e => h' (Or.inr e)), kp f15, kp f16, kp f17, kp f18, fun _ => rfl, kp f20, kp f21, kp f22, kp f23, kp f24⟩
                    · -- 20
                      have d6 := f6 (hd' 6 (by kernel_rfl))
                      have d19 := f19 (hd' 19 (by kernel_rfl))
                      refine slot_step_yes (j := 6) (d := 52) rfl rfl rfl (by decide) (d6) (fun az hs K hK => ?_)
                      have hK : Shut _ := hK
                      have e52 := hs.get 52
                      rw [d6] at e52
                      have e65 := hs.get 65
                      rw [d19] at e65
                      go_simp
                      exact hK.out _ _ ⟨r1, r5, r6, r7, hbz, (fun h => s0 (fun e => h (Or.inr e))), (fun h h' => s1 (h.resolve_left (by decide)) (fun e => h' (Or.inr e))), (fun h => h.elim (fun e => absurd e (by decide)) (fun h => Or.inr (c22 h))), (fun h => h.elim (fun e => absurd e (by decide)) (fun h => Or.inr (c15 h))), (fun h => h.elim (fun e => absurd e (by decide)) (fun h => Or.inr (c14 h))), kp f0, kp f1, kp f2, kp f3, kp f4, kp f5, kp f6, kp f7, fun h h' => f8 (h.resolve_left (by decide)) (fun e => h' (Or.inr e)), kp f9, kp f10, kp f11, kp f12, kp f13, fun h h' => f14 (h.resolve_left (by decide)) (fun e => h' (Or.inr e)), kp f15, kp f16, kp f17, kp f18, kp f19, fun _ => rfl, kp f21, kp f22, kp f23, kp f24⟩
                    · -- 21
                      have d6 := f6 (hd' 6 (by kernel_rfl))
                      have d20 := f20 (hd' 20 (by kernel_rfl))
                      refine slot_step_yes (j := 6) (d := 52) rfl rfl rfl (by decide) (d6) (fun az hs K hK => ?_)
                      have hK : Shut _ := hK
                      have cz := (hbz.cell (p := ⟨(ad.add (k * 3)).block, (ad.add (k * 3)).off + 2, none⟩) hltA).trans c3
                      have e52 := hs.get 52
                      rw [d6] at e52
                      have e66 := hs.get 66
                      rw [d20] at e66
                      go_simp
                      exact hK.out _ _ ⟨r1, r5, r6, r7, hbz, (fun h => s0 (fun e => h (Or.inr e))), (fun h h' => s1 (h.resolve_left (by decide)) (fun e => h' (Or.inr e))), (fun h => h.elim (fun e => absurd e (by decide)) (fun h => Or.inr (c22 h))), (fun h => h.elim (fun e => absurd e (by decide)) (fun h => Or.inr (c15 h))), (fun h => h.elim (fun e => absurd e (by decide)) (fun h => Or.inr (c14 h))), kp f0, kp f1, kp f2, kp f3, kp f4, kp f5, kp f6, kp f7, fun h h' => f8 (h.resolve_left (by decide)) (fun e => h' (Or.inr e)), kp f9, kp f10, kp f11, kp f12, kp f13, fun h h' => f14 (h.resolve_left (by decide)) (fun e => h' (Or.inr e)), kp f15, kp f16, kp f17, kp f18, kp f19, kp f20, fun _ => rfl, kp f22, kp f23, kp f24⟩
                    · -- 22
                      have d6 := f6 (hd' 6 (by kernel_rfl))
                      have d15 := f15 (hd' 15 (by kernel_rfl))
                      have d16 := f16 (hd' 16 (by kernel_rfl))
                      have d21 := f21 (hd' 21 (by kernel_rfl))
                      refine slot_step_yes (j := 6) (d := 52) rfl rfl rfl (by decide) (d6) (fun az hs K hK => ?_)
                      have hK : Shut _ := hK
                      have d15' := hd' 15 (by kernel_rfl)
                      have e52 := hs.get 52
                      rw [d6] at e52
                      have e62 := hs.get 62
                      rw [d16] at e62
                      have e67 := hs.get 67
                      rw [d21] at e67
                      go_wp2_with (go_at_call 58; refine (both_RefAdd (s1 d15' hn) hN2.out hrl zA zn zc wy (by omega) (hwr.below hbz (Nat.le_refl _))).mono ?_; rintro e wy2 ⟨rfl, hB2, hb2⟩; rw [hV.out])
                      exact ⟨r1, r5, r6, r7, hbz.trans hb2, (fun h => absurd (Or.inr d15') h), (fun h h' => (h' (by simp)).elim), (fun _ => Or.inr (hd' 15 (by kernel_rfl))), (fun h => h.elim (fun e => absurd e (by decide)) (fun h => Or.inr (c15 h))), (fun h => h.elim (fun e => absurd e (by decide)) (fun h => Or.inr (c14 h))), kp f0, kp f1, kp f2, kp f3, kp f4, kp f5, kp f6, kp f7, fun _ h' => absurd (Or.inr d15') h', kp f9, kp f10, kp f11, kp f12, kp f13, fun _ h' => absurd (Or.inr d15') h', kp f15, kp f16, kp f17, kp f18, kp f19, kp f20, kp f21, fun _ => ⟨rfl, hB2⟩, kp f23, kp f24⟩
                    · -- 23
                      have d6 := f6 (hd' 6 (by kernel_rfl))
                      have d15 := f15 (hd' 15 (by kernel_rfl))
                      have d22 := f22 (hd' 22 (by kernel_rfl))
                      refine slot_step_yes (j := 6) (d := 52) rfl rfl rfl (by decide) (d6) (fun az hs K hK => ?_)
                      have hK : Shut _ := hK
                      have d22 := d22.1
                      have e61 := hs.get 61
                      rw [d15] at e61
                      have e68 := hs.get 68
                      rw [d22] at e68
                      have e52 := hs.get 52
                      rw [d6] at e52
                      go_simp
                      exact hK.out _ _ ⟨r1, r5, r6, r7, hbz, (fun h => s0 (fun e => h (Or.inr e))), (fun h h' => s1 (h.resolve_left (by decide)) (fun e => h' (Or.inr e))), (fun h => h.elim (fun e => absurd e (by decide)) (fun h => Or.inr (c22 h))), (fun h => h.elim (fun e => absurd e (by decide)) (fun h => Or.inr (c15 h))), (fun h => h.elim (fun e => absurd e (by decide)) (fun h => Or.inr (c14 h))), kp f0, kp f1, kp f2, kp f3, kp f4, kp f5, kp f6, kp f7, fun h h' => f8 (h.resolve_left (by decide)) (fun e => h' (Or.inr e)), kp f9, kp f10, kp f11, kp f12, kp f13, fun h h' => f14 (h.resolve_left (by decide)) (fun e => h' (Or.inr e)), kp f15, kp f16, kp f17, kp f18, kp f19, kp f20, kp f21, kp f22, fun _ => rfl, kp f24⟩
                    · -- 24
                      have d6 := f6 (hd' 6 (by kernel_rfl))
                      have d23 := f23 (hd' 23 (by kernel_rfl))
                      refine slot_step rfl rfl (fun az hs K hK => ?_)
                      have hK : Shut _ := hK
                      have e52 := hs.get 52
                      rw [d6] at e52
                      have e69 := hs.get 69
                      rw [d23] at e69
                      go_simp
                      exact hK.out _ _ ⟨r1, r5, r6, r7, hbz, (fun h => s0 (fun e => h (Or.inr e))), (fun h h' => s1 (h.resolve_left (by decide)) (fun e => h' (Or.inr e))), (fun h => h.elim (fun e => absurd e (by decide)) (fun h => Or.inr (c22 h))), (fun h => h.elim (fun e => absurd e (by decide)) (fun h => Or.inr (c15 h))), (fun h => h.elim (fun e => absurd e (by decide)) (fun h => Or.inr (c14 h))), kp f0, kp f1, kp f2, kp f3, kp f4, kp f5, kp f6, kp f7, fun h h' => f8 (h.resolve_left (by decide)) (fun e => h' (Or.inr e)), kp f9, kp f10, kp f11, kp f12, kp f13, fun h h' => f14 (h.resolve_left (by decide)) (fun e => h' (Or.inr e)), kp f15, kp f16, kp f17, kp f18, kp f19, kp f20, kp f21, kp f22, kp f23, fun _ => rfl⟩
                  case hdone =>
                    rintro D g wz hD ⟨r1, r5, r6, r7, hbz, s0, s1, c22, c15, c14, f0, f1, f2, f3, f4, f5, f6, f7, f8, f9, f10, f11, f12, f13, f14, f15, f16, f17, f18, f19, f20, f21, f22, f23, f24⟩
                    simp only [setAll, List.foldl_cons, List.foldl_nil, List.setIfInBounds_toArray, List.set_cons_succ, List.set_cons_zero]
                    obtain ⟨_, hBN⟩ := f22 (hD 22)
                    have e24 := f24 (hD 24)
                    rw [e24]
                    clear f0 f1 f2 f3 f4 f5 f6 f7 f8 f9 f10 f11 f12 f13 f14 f15 f16 f17 f18 f19 f20 f21 f22 f23 f24 hD r1 r5 r6 r7 s0 s1 c22 c15 c14 e24
                    replace hBN := hide hBN
                    replace hbz := hide hbz
                    have hRl := addP_len N rows wy
                    have hIl := addI_len hil rfl (rfl : addI N is wy = addI N is wy)
                    have hRr := hide (addP_rows (n := N) hrr.out hwl1)
                    clear hBo hb hrr
                    obtain ⟨w3, hw3⟩ : ∃ w3, w3 = wz := ⟨_, rfl⟩
                    subst hw3
                    go_wp2
                    go_meet
                    case rel => exact ⟨rfl, _, _, Nat.le_trans hRl (by omega), hIl, hRr, hBN, hbz⟩
                · have hb0w := hb.out
                  have c0z := (hb0w.cell hltA).trans c0
                  have e0 : (lt == 0) = false := by simp [hk0]
                  clear hb0w
                  go_quiet (fail)
                  obtain ⟨wd, hwe, hde⟩ : ∃ wq, wr.drewN nq = wq ∧ Dr wr wq := ⟨_, rfl, (Dr.refl wr).more nq⟩
                  rw [hwe]
                  replace hBo := hide (hBo.out.keep (hde.below _))
                  replace hb := hide (hb.out.trans ((hde.below _).mono hb.out.size))
                  replace c0z := (hde.cell _).trans c0z
                  clear hwe hde
                  go_wp2
                  go_meet
                  case rel => exact ⟨rfl, _, _, by omega, hil, hrr, hBo, hb⟩
              case rest =>
                obtain ⟨rfl, R0, I0, hRl, hIl, hRr, hBN, hbz⟩ := hcut
                clear hBo hb hrr
                obtain ⟨wr2, hwr2⟩ : ∃ wr2, wr2 = wc := ⟨_, rfl⟩
                subst hwr2
                obtain ⟨rows2, hrw⟩ : ∃ rows2, rows2 = R0 := ⟨_, rfl⟩
                subst hrw
                obtain ⟨is2, hrw⟩ : ∃ is2, is2 = I0 := ⟨_, rfl⟩
                subst hrw
                go_upto_region 14 with fail
                go_cut [93] from 40 to 125 (fun s93 wx => s93 = .bool false ∧ ∃ (R : List (List Int)) (I : List Bool), R.length ≤ k + 1 ∧ I.length = R.length ∧ Hid (∀ r ∈ R, r.length ≤ 1000) ∧ Hid (Both w0.heap.size lo p mA mN mS mB q N R I R I wx) ∧ Hid (Below w0.heap.size w0 wx))
                case first =>
                  have hrl2 : rows2.length ≤ 1000 := by omega
                  by_cases hk1 : lt = 1
                  · subst hk1
                    obtain ⟨V, hV⟩ : ∃ V, keptB is2 lv = V := ⟨_, rfl⟩
                    replace hV := hide hV
                    refine wp_region_slots [71, 72, 73, 74, 75, 76, 77, 78, 79, 80, 81, 82, 83, 84, 85, 86, 87, 88, 89, 90, 91, 92, 93] (fun D g wz => g 1 = .slice (some ad) n c ∧ g 5 = .pointer (some ⟨p, 0, none⟩) ∧ g 6 = .pointer (some ⟨q, 0, none⟩) ∧ g 7 = .int .i64 k ∧ Below w0.heap.size w0 wz ∧ (¬ D 13 → Both w0.heap.size lo p mA mN mS mB q N rows2 is2 rows2 is2 wz) ∧ (D 13 → ¬ D 20 → Both w0.heap.size lo p mA mN mS mB q N rows2 (dropP is2 lv) rows2 is2 wz) ∧ (D 20 → D 13) ∧ (D 0 → g 71 = .slice (some ad) n c) ∧ (D 1 → g 72 = .int .i64 k) ∧ (D 2 → g 73 = .pointer (some (ad.add (k * 3)))) ∧ (D 3 → g 74 = .pointer (some (ad.add (k * 3)))) ∧ (D 4 → g 75 = .int .i64 1) ∧ (D 5 → g 76 = .bool true) ∧ (D 6 → g 77 = .bool true) ∧ (D 7 → g 78 = .pointer (some ⟨p, 0, none⟩)) ∧ (D 8 → g 79 = .slice (some ad) n c) ∧ (D 9 → g 80 = .int .i64 k) ∧ (D 10 → g 81 = .pointer (some (ad.add (k * 3)))) ∧ (D 11 → g 82 = .pointer (some ⟨(ad.add (k * 3)).block, (ad.add (k * 3)).off + 1, none⟩)) ∧ (D 12 → g 83 = .int .i64 lv) ∧ (D 13 → g 84 = .bool V) ∧ (D 14 → g 85 = .pointer (some ⟨q, 0, none⟩)) ∧ (D 15 → g 86 = .slice (some ad) n c) ∧ (D 16 → g 87 = .int .i64 k) ∧ (D 17 → g 88 = .pointer (some (ad.add (k * 3)))) ∧ (D 18 → g 89 = .pointer (some ⟨(ad.add (k * 3)).block, (ad.add (k * 3)).off + 1, none⟩)) ∧ (D 19 → g 90 = .int .i64 lv) ∧ (D 20 → g 91 = .bool V ∧ Both w0.heap.size lo p mA mN mS mB q N rows2 (dropP is2 lv) rows2 (dropP is2 lv) wz) ∧ (D 21 → g 92 = .bool false) ∧ (D 22 → g 93 = .bool false)) (by kernel_rfl) (by kernel_rfl) 127 rfl (by kernel_rfl) ?h0 ?hstep ?hdone
                    case h0 => exact ⟨rfl, rfl, rfl, rfl, hbz.out.trans (((Dr.refl wr2).drew.below _).mono hbz.out.size), (fun _ => hBN.out.keep ((Dr.refl wr2).drew.below _)), nt0, nt0, nt0, nt0, nt0, nt0, nt0, nt0, nt0, nt0, nt0, nt0, nt0, nt0, nt0, nt0, nt0, nt0, nt0, nt0, nt0, nt0, nt0, nt0, nt0⟩
                    case hstep =>
                      intro D g wz i hi' hn hd' hI2
                      obtain ⟨r1, r5, r6, r7, hbz, s0, s1, c20, f0, f1, f2, f3, f4, f5, f6, f7, f8, f9, f10, f11, f12, f13, f14, f15, f16, f17, f18, f19, f20, f21, f22⟩ := hI2
                      have hi' : i < 23 := hi'
                      rcases (show i = 0 ∨ i = 1 ∨ i = 2 ∨ i = 3 ∨ i = 4 ∨ i = 5 ∨ i = 6 ∨ i = 7 ∨ i = 8 ∨ i = 9 ∨ i = 10 ∨ i = 11 ∨ i = 12 ∨ i = 13 ∨ i = 14 ∨ i = 15 ∨ i = 16 ∨ i = 17 ∨ i = 18 ∨ i = 19 ∨ i = 20 ∨ i = 21 ∨ i = 22 by omega) with rfl | rfl | rfl | rfl | rfl | rfl | rfl | rfl | rfl | rfl | rfl | rfl | rfl | rfl | rfl | rfl | rfl | rfl | rfl | rfl | rfl | rfl | rfl
                      · -- 0
                        refine slot_step rfl rfl (fun az hs K hK => ?_)
                        have hK : Shut _ := hK
                        have e1 := hs.get 1
                        rw [r1] at e1
                        go_simp
                        exact hK.out _ _ ⟨r1, r5, r6, r7, hbz, (fun h => s0 (fun e => h (Or.inr e))), (fun h h' => s1 (h.resolve_left (by decide)) (fun e => h' (Or.inr e))), (fun h => h.elim (fun e => absurd e (by decide)) (fun h => Or.inr (c20 h))), fun _ => rfl, kp f1, kp f2, kp f3, kp f4, kp f5, kp f6, kp f7, kp f8, kp f9, kp f10, kp f11, kp f12, kp f13, kp f14, kp f15, kp f16, kp f17, kp f18, kp f19, kp f20, kp f21, kp f22⟩
                      · -- 1
                        refine slot_step rfl rfl (fun az hs K hK => ?_)
                        have hK : Shut _ := hK
                        have e7 := hs.get 7
                        rw [r7] at e7
                        go_simp
                        exact hK.out _ _ ⟨r1, r5, r6, r7, hbz, (fun h => s0 (fun e => h (Or.inr e))), (fun h h' => s1 (h.resolve_left (by decide)) (fun e => h' (Or.inr e))), (fun h => h.elim (fun e => absurd e (by decide)) (fun h => Or.inr (c20 h))), kp f0, fun _ => rfl, kp f2, kp f3, kp f4, kp f5, kp f6, kp f7, kp f8, kp f9, kp f10, kp f11, kp f12, kp f13, kp f14, kp f15, kp f16, kp f17, kp f18, kp f19, kp f20, kp f21, kp f22⟩
                      · -- 2
                        have d0 := f0 (hd' 0 (by kernel_rfl))
                        have d1 := f1 (hd' 1 (by kernel_rfl))
                        refine slot_step rfl rfl (fun az hs K hK => ?_)
                        have hK : Shut _ := hK
                        have e71 := hs.get 71
                        rw [d0] at e71
                        have e72 := hs.get 72
                        rw [d1] at e72
                        go_simp
                        exact hK.out _ _ ⟨r1, r5, r6, r7, hbz, (fun h => s0 (fun e => h (Or.inr e))), (fun h h' => s1 (h.resolve_left (by decide)) (fun e => h' (Or.inr e))), (fun h => h.elim (fun e => absurd e (by decide)) (fun h => Or.inr (c20 h))), kp f0, kp f1, fun _ => rfl, kp f3, kp f4, kp f5, kp f6, kp f7, kp f8, kp f9, kp f10, kp f11, kp f12, kp f13, kp f14, kp f15, kp f16, kp f17, kp f18, kp f19, kp f20, kp f21, kp f22⟩
                      · -- 3
                        have d2 := f2 (hd' 2 (by kernel_rfl))
                        refine slot_step rfl rfl (fun az hs K hK => ?_)
                        have hK : Shut _ := hK
                        have e73 := hs.get 73
                        rw [d2] at e73
                        go_simp
                        exact hK.out _ _ ⟨r1, r5, r6, r7, hbz, (fun h => s0 (fun e => h (Or.inr e))), (fun h h' => s1 (h.resolve_left (by decide)) (fun e => h' (Or.inr e))), (fun h => h.elim (fun e => absurd e (by decide)) (fun h => Or.inr (c20 h))), kp f0, kp f1, kp f2, fun _ => rfl, kp f4, kp f5, kp f6, kp f7, kp f8, kp f9, kp f10, kp f11, kp f12, kp f13, kp f14, kp f15, kp f16, kp f17, kp f18, kp f19, kp f20, kp f21, kp f22⟩
                      · -- 4
                        have d3 := f3 (hd' 3 (by kernel_rfl))
                        refine slot_step rfl rfl (fun az hs K hK => ?_)
                        have hK : Shut _ := hK
                        have cz := (hbz.cell hltA).trans c0
                        have e74 := hs.get 74
                        rw [d3] at e74
                        go_simp
                        exact hK.out _ _ ⟨r1, r5, r6, r7, hbz, (fun h => s0 (fun e => h (Or.inr e))), (fun h h' => s1 (h.resolve_left (by decide)) (fun e => h' (Or.inr e))), (fun h => h.elim (fun e => absurd e (by decide)) (fun h => Or.inr (c20 h))), kp f0, kp f1, kp f2, kp f3, fun _ => rfl, kp f5, kp f6, kp f7, kp f8, kp f9, kp f10, kp f11, kp f12, kp f13, kp f14, kp f15, kp f16, kp f17, kp f18, kp f19, kp f20, kp f21, kp f22⟩
                      · -- 5
                        have d4 := f4 (hd' 4 (by kernel_rfl))
                        refine slot_step rfl rfl (fun az hs K hK => ?_)
                        have hK : Shut _ := hK
                        have e75 := hs.get 75
                        rw [d4] at e75
                        go_simp
                        exact hK.out _ _ ⟨r1, r5, r6, r7, hbz, (fun h => s0 (fun e => h (Or.inr e))), (fun h h' => s1 (h.resolve_left (by decide)) (fun e => h' (Or.inr e))), (fun h => h.elim (fun e => absurd e (by decide)) (fun h => Or.inr (c20 h))), kp f0, kp f1, kp f2, kp f3, kp f4, fun _ => rfl, kp f6, kp f7, kp f8, kp f9, kp f10, kp f11, kp f12, kp f13, kp f14, kp f15, kp f16, kp f17, kp f18, kp f19, kp f20, kp f21, kp f22⟩
                      · -- 6
                        have d5 := f5 (hd' 5 (by kernel_rfl))
                        refine slot_step rfl rfl (fun az hs K hK => ?_)
                        have hK : Shut _ := hK
                        have e76 := hs.get 76
                        rw [d5] at e76
                        go_simp
                        exact hK.out _ _ ⟨r1, r5, r6, r7, hbz, (fun h => s0 (fun e => h (Or.inr e))), (fun h h' => s1 (h.resolve_left (by decide)) (fun e => h' (Or.inr e))), (fun h => h.elim (fun e => absurd e (by decide)) (fun h => Or.inr (c20 h))), kp f0, kp f1, kp f2, kp f3, kp f4, kp f5, fun _ => rfl, kp f7, kp f8, kp f9, kp f10, kp f11, kp f12, kp f13, kp f14, kp f15, kp f16, kp f17, kp f18, kp f19, kp f20, kp f21, kp f22⟩
                      · -- 7
                        have d6 := f6 (hd' 6 (by kernel_rfl))
                        refine slot_step_yes (j := 6) (d := 77) rfl rfl rfl (by decide) (d6) (fun az hs K hK => ?_)
                        have hK : Shut _ := hK
                        have e77 := hs.get 77
                        rw [d6] at e77
                        have e5 := hs.get 5
                        rw [r5] at e5
                        go_simp
                        exact hK.out _ _ ⟨r1, r5, r6, r7, hbz, (fun h => s0 (fun e => h (Or.inr e))), (fun h h' => s1 (h.resolve_left (by decide)) (fun e => h' (Or.inr e))), (fun h => h.elim (fun e => absurd e (by decide)) (fun h => Or.inr (c20 h))), kp f0, kp f1, kp f2, kp f3, kp f4, kp f5, kp f6, fun _ => rfl, kp f8, kp f9, kp f10, kp f11, kp f12, kp f13, kp f14, kp f15, kp f16, kp f17, kp f18, kp f19, kp f20, kp f21, kp f22⟩
                      · -- 8
                        have d6 := f6 (hd' 6 (by kernel_rfl))
                        refine slot_step_yes (j := 6) (d := 77) rfl rfl rfl (by decide) (d6) (fun az hs K hK => ?_)
                        have hK : Shut _ := hK
                        have e77 := hs.get 77
                        rw [d6] at e77
                        have e1 := hs.get 1
                        rw [r1] at e1
                        go_simp
                        exact hK.out _ _ ⟨r1, r5, r6, r7, hbz, (fun h => s0 (fun e => h (Or.inr e))), (fun h h' => s1 (h.resolve_left (by decide)) (fun e => h' (Or.inr e))), (fun h => h.elim (fun e => absurd e (by decide)) (fun h => Or.inr (c20 h))), kp f0, kp f1, kp f2, kp f3, kp f4, kp f5, kp f6, kp f7, fun _ => rfl, kp f9, kp f10, kp f11, kp f12, kp f13, kp f14, kp f15, kp f16, kp f17, kp f18, kp f19, kp f20, kp f21, kp f22⟩
                      · -- 9
                        have d6 := f6 (hd' 6 (by kernel_rfl))
                        refine slot_step_yes (j := 6) (d := 77) rfl rfl rfl (by decide) (d6) (fun az hs K hK => ?_)
                        have hK : Shut _ := hK
                        have e77 := hs.get 77
                        rw [d6] at e77
                        have e7 := hs.get 7
                        rw [r7] at e7
                        go_simp
                        exact hK.out _ _ ⟨r1, r5, r6, r7, hbz, (fun h => s0 (fun e => h (Or.inr e))), (fun h h' => s1 (h.resolve_left (by decide)) (fun e => h' (Or.inr e))), (fun h => h.elim (fun e => absurd e (by decide)) (fun h => Or.inr (c20 h))), kp f0, kp f1, kp f2, kp f3, kp f4, kp f5, kp f6, kp f7, kp f8, fun _ => rfl, kp f10, kp f11, kp f12, kp f13, kp f14, kp f15, kp f16, kp f17, kp f18, kp f19, kp f20, kp f21, kp f22⟩
                      · -- 10
                        have d6 := f6 (hd' 6 (by kernel_rfl))
                        have d8 := f8 (hd' 8 (by kernel_rfl))
                        have d9 := f9 (hd' 9 (by kernel_rfl))
                        refine slot_step_yes (j := 6) (d := 77) rfl rfl rfl (by decide) (d6) (fun az hs K hK => ?_)
                        have hK : Shut _ := hK
                        have e77 := hs.get 77
                        rw [d6] at e77
                        have e79 := hs.get 79
                        rw [d8] at e79
                        have e80 := hs.get 80
                        rw [d9] at e80
                        go_simp
                        exact hK.out _ _ ⟨r1, r5, r6, r7, hbz, (fun h => s0 (fun e => h (Or.inr e))), (fun h h' => s1 (h.resolve_left (by decide)) (fun e => h' (Or.inr e))), (fun h => h.elim (fun e => absurd e (by decide)) (fun h => Or.inr (c20 h))), kp f0, kp f1, kp f2, kp f3, kp f4, kp f5, kp f6, kp f7, kp f8, kp f9, fun _ => rfl, kp f11, kp f12, kp f13, kp f14, kp f15, kp f16, kp f17, kp f18, kp f19, kp f20, kp f21, kp f22⟩
                      · -- 11
                        have d6 := f6 (hd' 6 (by kernel_rfl))
                        have d10 := f10 (hd' 10 (by kernel_rfl))
                        refine slot_step_yes (j := 6) (d := 77) rfl rfl rfl (by decide) (d6) (fun az hs K hK => ?_)
                        have hK : Shut _ := hK
                        have e77 := hs.get 77
                        rw [d6] at e77
                        have e81 := hs.get 81
                        rw [d10] at e81
                        go_simp
                        exact hK.out _ _ ⟨r1, r5, r6, r7, hbz, (fun h => s0 (fun e => h (Or.inr e))), (fun h h' => s1 (h.resolve_left (by decide)) (fun e => h' (Or.inr e))), (fun h => h.elim (fun e => absurd e (by decide)) (fun h => Or.inr (c20 h))), kp f0, kp f1, kp f2, kp f3, kp f4, kp f5, kp f6, kp f7, kp f8, kp f9, kp f10, fun _ => rfl, kp f12, kp f13, kp f14, kp f15, kp f16, kp f17, kp f18, kp f19, kp f20, kp f21, kp f22⟩
                      · -- 12
                        have d6 := f6 (hd' 6 (by kernel_rfl))
                        have d11 := f11 (hd' 11 (by kernel_rfl))
                        refine slot_step_yes (j := 6) (d := 77) rfl rfl rfl (by decide) (d6) (fun az hs K hK => ?_)
                        have hK : Shut _ := hK
                        have cz := (hbz.cell (p := ⟨(ad.add (k * 3)).block, (ad.add (k * 3)).off + 1, none⟩) hltA).trans c1
                        have e77 := hs.get 77
                        rw [d6] at e77
                        have e82 := hs.get 82
                        rw [d11] at e82
                        go_simp
                        exact hK.out _ _ ⟨r1, r5, r6, r7, hbz, (fun h => s0 (fun e => h (Or.inr e))), (fun h h' => s1 (h.resolve_left (by decide)) (fun e => h' (Or.inr e))), (fun h => h.elim (fun e => absurd e (by decide)) (fun h => Or.inr (c20 h))), kp f0, kp f1, kp f2, kp f3, kp f4, kp f5, kp f6, kp f7, kp f8, kp f9, kp f10, kp f11, fun _ => rfl, kp f13, kp f14, kp f15, kp f16, kp f17, kp f18, kp f19, kp f20, kp f21, kp f22⟩
                      · -- 13
                        have d6 := f6 (hd' 6 (by kernel_rfl))
                        have d7 := f7 (hd' 7 (by kernel_rfl))
                        have d12 := f12 (hd' 12 (by kernel_rfl))
                        refine slot_step_yes (j := 6) (d := 77) rfl rfl rfl (by decide) (d6) (fun az hs K hK => ?_)
                        have hK : Shut _ := hK
                        have e77 := hs.get 77
                        rw [d6] at e77
                        have e78 := hs.get 78
                        rw [d7] at e78
                        have e83 := hs.get 83
                        rw [d12] at e83
                        go_wp2_with (go_at_call 65; refine (both_Drop (s0 hn) lv).mono ?_; rintro e wy2 ⟨rfl, hB2, hb2⟩; rw [hV.out])
                        exact ⟨r1, r5, r6, r7, hbz.trans hb2, (fun h => (h (by simp)).elim), (fun h h' => hB2), (fun h => h.elim (fun e => absurd e (by decide)) (fun h => Or.inr (c20 h))), kp f0, kp f1, kp f2, kp f3, kp f4, kp f5, kp f6, kp f7, kp f8, kp f9, kp f10, kp f11, kp f12, fun _ => rfl, kp f14, kp f15, kp f16, kp f17, kp f18, kp f19, fun h => h.elim (fun e => absurd e (by decide)) (fun h => absurd (c20 h) hn), kp f21, kp f22⟩
                      · -- 14
                        have d6 := f6 (hd' 6 (by kernel_rfl))
                        refine slot_step_yes (j := 6) (d := 77) rfl rfl rfl (by decide) (d6) (fun az hs K hK => ?_)
                        have hK : Shut _ := hK
                        have e77 := hs.get 77
                        rw [d6] at e77
                        have e6 := hs.get 6
                        rw [r6] at e6
                        go_simp
                        exact hK.out _ _ ⟨r1, r5, r6, r7, hbz, (fun h => s0 (fun e => h (Or.inr e))), (fun h h' => s1 (h.resolve_left (by decide)) (fun e => h' (Or.inr e))), (fun h => h.elim (fun e => absurd e (by decide)) (fun h => Or.inr (c20 h))), kp f0, kp f1, kp f2, kp f3, kp f4, kp f5, kp f6, kp f7, kp f8, kp f9, kp f10, kp f11, kp f12, kp f13, fun _ => rfl, kp f15, kp f16, kp f17, kp f18, kp f19, kp f20, kp f21, kp f22⟩
                      · -- 15
                        have d6 := f6 (hd' 6 (by kernel_rfl))
                        refine slot_step_yes (j := 6) (d := 77) rfl rfl rfl (by decide) (d6) (fun az hs K hK => ?_)
                        have hK : Shut _ := hK
                        have e77 := hs.get 77
                        rw [d6] at e77
                        have e1 := hs.get 1
                        rw [r1] at e1
                        go_simp
                        exact hK.out _ _ ⟨r1, r5, r6, r7, hbz, (fun h => s0 (fun e => h (Or.inr e))), (fun h h' => s1 (h.resolve_left (by decide)) (fun e => h' (Or.inr e))), (fun h => h.elim (fun e => absurd e (by decide)) (fun h => Or.inr (c20 h))), kp f0, kp f1, kp f2, kp f3, kp f4, kp f5, kp f6, kp f7, kp f8, kp f9, kp f10, kp f11, kp f12, kp f13, kp f14, fun _ => rfl, kp f16, kp f17, kp f18, kp f19, kp f20, kp f21, kp f22⟩
                      · -- 16
                        have d6 := f6 (hd' 6 (by kernel_rfl))
                        refine slot_step_yes (j := 6) (d := 77) rfl rfl rfl (by decide) (d6) (fun az hs K hK => ?_)
                        have hK : Shut _ := hK
                        have e77 := hs.get 77
                        rw [d6] at e77
                        have e7 := hs.get 7
                        rw [r7] at e7
                        go_simp
                        exact hK.out _ _ ⟨r1, r5, r6, r7, hbz, (fun h => s0 (fun e => h (Or.inr e))), (fun h h' => s1 (h.resolve_left (by decide)) (fun e => h' (Or.inr e))), (fun h => h.elim (fun e => absurd e (by decide)) (fun h => Or.inr (c20 h))), kp f0, kp f1, kp f2, kp f3, kp f4, kp f5, kp f6, kp f7, kp f8, kp f9, kp f10, kp f11, kp f12, kp f13, kp f14, kp f15, fun _ => rfl, kp f17, kp f18, kp f19, kp f20, kp f21, kp f22⟩
                      · -- 17
                        have d6 := f6 (hd' 6 (by kernel_rfl))
                        have d15 := f15 (hd' 15 (by kernel_rfl))
                        have d16 := f16 (hd' 16 (by kernel_rfl))
                        refine slot_step_yes (j := 6) (d := 77) rfl rfl rfl (by decide) (d6) (fun az hs K hK => ?_)
                        have hK : Shut _ := hK
                        have e77 := hs.get 77
                        rw [d6] at e77
                        have e86 := hs.get 86
                        rw [d15] at e86
                        have e87 := hs.get 87
                        rw [d16] at e87
                        go_simp
                        exact hK.out _ _ ⟨r1, r5, r6, r7, hbz, (fun h => s0 (fun e => h (Or.inr e))), (fun h h' => s1 (h.resolve_left (by decide)) (fun e => h' (Or.inr e))), (fun h => h.elim (fun e => absurd e (by decide)) (fun h => Or.inr (c20 h))), kp f0, kp f1, kp f2, kp f3, kp f4, kp f5, kp f6, kp f7, kp f8, kp f9, kp f10, kp f11, kp f12, kp f13, kp f14, kp f15, kp f16, fun _ => rfl, kp f18, kp f19, kp f20, kp f21, kp f22⟩
                      · -- 18
                        have d6 := f6 (hd' 6 (by kernel_rfl))
                        have d17 := f17 (hd' 17 (by kernel_rfl))
                        refine slot_step_yes (j := 6) (d := 77) rfl rfl rfl (by decide) (d6) (fun az hs K hK => ?_)
                        have hK : Shut _ := hK
                        have e77 := hs.get 77
                        rw [d6] at e77
                        have e88 := hs.get 88
                        rw [d17] at e88
                        go_simp
                        exact hK.out _ _ ⟨r1, r5, r6, r7, hbz, (fun h => s0 (fun e => h (Or.inr e))), (fun h h' => s1 (h.resolve_left (by decide)) (fun e => h' (Or.inr e))), (fun h => h.elim (fun e => absurd e (by decide)) (fun h => Or.inr (c20 h))), kp f0, kp f1, kp f2, kp f3, kp f4, kp f5, kp f6, kp f7, kp f8, kp f9, kp f10, kp f11, kp f12, kp f13, kp f14, kp f15, kp f16, kp f17, fun _ => rfl, kp f19, kp f20, kp f21, kp f22⟩
                      · -- 19
                        have d6 := f6 (hd' 6 (by kernel_rfl))
                        have d18 := f18 (hd' 18 (by kernel_rfl))
                        refine slot_step_yes (j := 6) (d := 77) rfl rfl rfl (by decide) (d6) (fun az hs K hK => ?_)
                        have hK : Shut _ := hK
                        have cz := (hbz.cell (p := ⟨(ad.add (k * 3)).block, (ad.add (k * 3)).off + 1, none⟩) hltA).trans c1
                        have e77 := hs.get 77
                        rw [d6] at e77
                        have e89 := hs.get 89
                        rw [d18] at e89
                        go_simp
                        exact hK.out _ _ ⟨r1, r5, r6, r7, hbz, (fun h => s0 (fun e => h (Or.inr e))), (fun h h' => s1 (h.resolve_left (by decide)) (fun e => h' (Or.inr e))), (fun h => h.elim (fun e => absurd e (by decide)) (fun h => Or.inr (c20 h))), kp f0, kp f1, kp f2, kp f3, kp f4, kp f5, kp f6, kp f7, kp f8, kp f9, kp f10, kp f11, kp f12, kp f13, kp f14, kp f15, kp f16, kp f17, kp f18, fun _ => rfl, kp f20, kp f21, kp f22⟩
                      · -- 20
                        have d6 := f6 (hd' 6 (by kernel_rfl))
                        have d13 := f13 (hd' 13 (by kernel_rfl))
                        have d14 := f14 (hd' 14 (by kernel_rfl))
                        have d19 := f19 (hd' 19 (by kernel_rfl))
                        refine slot_step_yes (j := 6) (d := 77) rfl rfl rfl (by decide) (d6) (fun az hs K hK => ?_)
                        have hK : Shut _ := hK
                        have d13' := hd' 13 (by kernel_rfl)
                        have e77 := hs.get 77
                        rw [d6] at e77
                        have e85 := hs.get 85
                        rw [d14] at e85
                        have e90 := hs.get 90
                        rw [d19] at e90
                        go_wp2_with (go_at_call 66; refine (both_RefDrop (s1 d13' hn) hrl2 lv).mono ?_; rintro e wy2 ⟨rfl, hB2, hb2⟩; rw [hV.out])
                        exact ⟨r1, r5, r6, r7, hbz.trans hb2, (fun h => absurd (Or.inr d13') h), (fun h h' => (h' (by simp)).elim), (fun _ => Or.inr (hd' 13 (by kernel_rfl))), kp f0, kp f1, kp f2, kp f3, kp f4, kp f5, kp f6, kp f7, kp f8, kp f9, kp f10, kp f11, kp f12, kp f13, kp f14, kp f15, kp f16, kp f17, kp f18, kp f19, fun _ => ⟨rfl, hB2⟩, kp f21, kp f22⟩
                      · -- 21
                        have d6 := f6 (hd' 6 (by kernel_rfl))
                        have d13 := f13 (hd' 13 (by kernel_rfl))
                        have d20 := f20 (hd' 20 (by kernel_rfl))
                        refine slot_step_yes (j := 6) (d := 77) rfl rfl rfl (by decide) (d6) (fun az hs K hK => ?_)
                        have hK : Shut _ := hK
                        have d20 := d20.1
                        have e84 := hs.get 84
                        rw [d13] at e84
                        have e91 := hs.get 91
                        rw [d20] at e91
                        have e77 := hs.get 77
                        rw [d6] at e77
                        go_simp
                        exact hK.out _ _ ⟨r1, r5, r6, r7, hbz, (fun h => s0 (fun e => h (Or.inr e))), (fun h h' => s1 (h.resolve_left (by decide)) (fun e => h' (Or.inr e))), (fun h => h.elim (fun e => absurd e (by decide)) (fun h => Or.inr (c20 h))), kp f0, kp f1, kp f2, kp f3, kp f4, kp f5, kp f6, kp f7, kp f8, kp f9, kp f10, kp f11, kp f12, kp f13, kp f14, kp f15, kp f16, kp f17, kp f18, kp f19, kp f20, fun _ => rfl, kp f22⟩
                      · -- 22
                        have d6 := f6 (hd' 6 (by kernel_rfl))
                        have d21 := f21 (hd' 21 (by kernel_rfl))
                        refine slot_step rfl rfl (fun az hs K hK => ?_)
                        have hK : Shut _ := hK
                        have e77 := hs.get 77
                        rw [d6] at e77
                        have e92 := hs.get 92
                        rw [d21] at e92
                        go_simp
                        exact hK.out _ _ ⟨r1, r5, r6, r7, hbz, (fun h => s0 (fun e => h (Or.inr e))), (fun h h' => s1 (h.resolve_left (by decide)) (fun e => h' (Or.inr e))), (fun h => h.elim (fun e => absurd e (by decide)) (fun h => Or.inr (c20 h))), kp f0, kp f1, kp f2, kp f3, kp f4, kp f5, kp f6, kp f7, kp f8, kp f9, kp f10, kp f11, kp f12, kp f13, kp f14, kp f15, kp f16, kp f17, kp f18, kp f19, kp f20, kp f21, fun _ => rfl⟩
                    case hdone =>
                      rintro D g wz hD ⟨r1, r5, r6, r7, hbz, s0, s1, c20, f0, f1, f2, f3, f4, f5, f6, f7, f8, f9, f10, f11, f12, f13, f14, f15, f16, f17, f18, f19, f20, f21, f22⟩
                      simp only [setAll, List.foldl_cons, List.foldl_nil, List.setIfInBounds_toArray, List.set_cons_succ, List.set_cons_zero]
                      obtain ⟨_, hBN9⟩ := f20 (hD 20)
                      have e22 := f22 (hD 22)
                      rw [e22]
                      clear f0 f1 f2 f3 f4 f5 f6 f7 f8 f9 f10 f11 f12 f13 f14 f15 f16 f17 f18 f19 f20 f21 f22 hD r1 r5 r6 r7 s0 s1 c20 e22
                      replace hBN9 := hide hBN9
                      have hbz9 := hide hbz
                      clear hbz
                      obtain ⟨w3, hw3⟩ : ∃ w3, w3 = wz := ⟨_, rfl⟩
                      subst hw3
                      go_wp2
                      go_meet
                      case rel => exact ⟨rfl, _, _, hRl, by rw [drop_len]; exact hIl, hRr, hBN9, hbz9⟩
                  · have hb0w := hbz.out
                    have c0z := (hb0w.cell hltA).trans c0
                    have e0 : (lt == 1) = false := by simp [hk1]
                    clear hb0w
                    go_quiet (fail)
                    obtain ⟨wd, hwe, hde⟩ : ∃ wq, wr2.drewN nq = wq ∧ Dr wr2 wq := ⟨_, rfl, (Dr.refl wr2).more nq⟩
                    rw [hwe]
                    replace hBN := hide (hBN.out.keep (hde.below _))
                    replace hbz := hide (hbz.out.trans ((hde.below _).mono hbz.out.size))
                    replace c0z := (hde.cell _).trans c0z
                    clear hwe hde
                    go_wp2
                    go_meet
                    case rel => exact ⟨rfl, _, _, hRl, hIl, hRr, hBN, hbz⟩
                case rest =>
                  obtain ⟨rfl, R, I, hRl9, hIl9, hRr9, hBN9, hbz9⟩ := hcut
                  clear hBN hbz hRr hRl hIl
                  have hRl := hRl9
                  have hIl := hide hIl9
                  have hRr := hRr9
                  have hBN := hBN9
                  have hbz := hbz9
                  clear hRl9 hIl9 hRr9 hBN9 hbz9
                  obtain ⟨w3, hw3⟩ : ∃ w3, w3 = wc := ⟨_, rfl⟩
                  subst hw3
                  have hbW := hbz
                  clear hbz
                  have hRl2 : R.length ≤ 1000 := by omega
                  have hcl := hide (show (clP R I lv).length ≤ 1000000 from cl_len2 hIl.out hRr.out lv)
                  have hidl := hide (show (idsP I I.length).length ≤ 1000000 by have := ids_len I I.length; have := hIl.out; omega)
                  go_wp2
                  refine wp_region_slots [94, 95, 96, 97, 98, 99, 100, 101, 102, 103, 104, 105, 106, 107, 108, 109, 110, 111, 112, 113, 114, 115, 116, 117, 118, 119, 120, 121, 122, 123, 124, 125] (fun D g wz => g 1 = .slice (some ad) n c ∧ g 5 = .pointer (some ⟨p, 0, none⟩) ∧ g 6 = .pointer (some ⟨q, 0, none⟩) ∧ g 7 = .int .i64 k ∧ Below w3.heap.size w3 wz ∧ (D 0 → g 94 = .pointer (some ⟨p, 0, none⟩)) ∧ (D 1 → g 95 = .slice (some ad) n c) ∧ (D 2 → g 96 = .int .i64 k) ∧ (D 3 → g 97 = .pointer (some (ad.add (k * 3)))) ∧ (D 4 → g 98 = .pointer (some ⟨(ad.add (k * 3)).block, (ad.add (k * 3)).off + 1, none⟩)) ∧ (D 5 → g 99 = .int .i64 lv) ∧ (D 6 → ∃ (A : Option Addr) (c : Nat), g 100 = .slice A (clP R I lv).length c ∧ Rd wz A (clP R I lv).length (ivs (clP R I lv))) ∧ (D 7 → g 101 = .pointer (some ⟨q, 0, none⟩)) ∧ (D 8 → g 102 = .slice (some ad) n c) ∧ (D 9 → g 103 = .int .i64 k) ∧ (D 10 → g 104 = .pointer (some (ad.add (k * 3)))) ∧ (D 11 → g 105 = .pointer (some ⟨(ad.add (k * 3)).block, (ad.add (k * 3)).off + 1, none⟩)) ∧ (D 12 → g 106 = .int .i64 lv) ∧ (D 13 → ∃ (A : Option Addr) (c : Nat), g 107 = .slice A (clP R I lv).length c ∧ Rd wz A (clP R I lv).length (ivs (clP R I lv))) ∧ (D 14 → g 108 = .bool true) ∧ (D 15 → g 109 = .bool false) ∧ (D 16 → g 110 = .bool false) ∧ (D 17 → g 111 = .pointer (some ⟨p, 0, none⟩)) ∧ (D 18 → ∃ (A : Option Addr) (c : Nat), g 112 = .slice A (idsP I I.length).length c ∧ Rd wz A (idsP I I.length).length (ivs (idsP I I.length))) ∧ (D 19 → g 113 = .pointer (some ⟨q, 0, none⟩)) ∧ (D 20 → ∃ (A : Option Addr) (c : Nat), g 114 = .slice A (idsP I I.length).length c ∧ Rd wz A (idsP I I.length).length (ivs (idsP I I.length))) ∧ (D 21 → g 115 = .bool true) ∧ (D 22 → g 116 = .bool false) ∧ (D 23 → g 117 = .bool false) ∧ (D 24 → g 118 = .bool false) ∧ (D 25 → g 119 = .pointer (some ⟨p, 0, none⟩)) ∧ (D 26 → g 120 = .int .i64 (idsP I I.length).length) ∧ (D 27 → g 121 = .pointer (some ⟨q, 0, none⟩)) ∧ (D 28 → ∃ (A : Option Addr) (c : Nat), g 122 = .slice A (idsP I I.length).length c) ∧ (D 29 → g 123 = .int .i64 (idsP I I.length).length) ∧ (D 30 → g 124 = .bool false) ∧ (D 31 → g 125 = .bool false)) (by kernel_rfl) (by kernel_rfl) 127 rfl (by kernel_rfl) ?h0 ?hstep ?hdone
                  case h0 => exact ⟨rfl, rfl, rfl, rfl, (Dr.refl w3).drew.below _, nt0, nt0, nt0, nt0, nt0, nt0, nt0, nt0, nt0, nt0, nt0, nt0, nt0, nt0, nt0, nt0, nt0, nt0, nt0, nt0, nt0, nt0, nt0, nt0, nt0, nt0, nt0, nt0, nt0, nt0, nt0, nt0⟩
                  case hstep =>
                    intro D g wz i hi' hn hd' hI2
                    obtain ⟨r1, r5, r6, r7, hbz, f0, f1, f2, f3, f4, f5, f6, f7, f8, f9, f10, f11, f12, f13, f14, f15, f16, f17, f18, f19, f20, f21, f22, f23, f24, f25, f26, f27, f28, f29, f30, f31⟩ := hI2
                    have hi' : i < 32 := hi'
                    rcases (show i = 0 ∨ i = 1 ∨ i = 2 ∨ i = 3 ∨ i = 4 ∨ i = 5 ∨ i = 6 ∨ i = 7 ∨ i = 8 ∨ i = 9 ∨ i = 10 ∨ i = 11 ∨ i = 12 ∨ i = 13 ∨ i = 14 ∨ i = 15 ∨ i = 16 ∨ i = 17 ∨ i = 18 ∨ i = 19 ∨ i = 20 ∨ i = 21 ∨ i = 22 ∨ i = 23 ∨ i = 24 ∨ i = 25 ∨ i = 26 ∨ i = 27 ∨ i = 28 ∨ i = 29 ∨ i = 30 ∨ i = 31 by omega) with rfl | rfl | rfl | rfl | rfl | rfl | rfl | rfl | rfl | rfl | rfl | rfl | rfl | rfl | rfl | rfl | rfl | rfl | rfl | rfl | rfl | rfl | rfl | rfl | rfl | rfl | rfl | rfl | rfl | rfl | rfl | rfl
                    · -- 0
                      refine slot_step rfl rfl (fun az hs K hK => ?_)
                      have hK : Shut _ := hK
                      have e5 := hs.get 5
                      rw [r5] at e5
                      go_simp
                      exact hK.out _ _ ⟨r1, r5, r6, r7, hbz, fun _ => rfl, kp f1, kp f2, kp f3, kp f4, kp f5, kp f6, kp f7, kp f8, kp f9, kp f10, kp f11, kp f12, kp f13, kp f14, kp f15, kp f16, kp f17, kp f18, kp f19, kp f20, kp f21, kp f22, kp f23, kp f24, kp f25, kp f26, kp f27, kp f28, kp f29, kp f30, kp f31⟩
                    · -- 1
                      refine slot_step rfl rfl (fun az hs K hK => ?_)
                      have hK : Shut _ := hK
                      have e1 := hs.get 1
                      rw [r1] at e1
                      go_simp
                      exact hK.out _ _ ⟨r1, r5, r6, r7, hbz, kp f0, fun _ => rfl, kp f2, kp f3, kp f4, kp f5, kp f6, kp f7, kp f8, kp f9, kp f10, kp f11, kp f12, kp f13, kp f14, kp f15, kp f16, kp f17, kp f18, kp f19, kp f20, kp f21, kp f22, kp f23, kp f24, kp f25, kp f26, kp f27, kp f28, kp f29, kp f30, kp f31⟩
                    · -- 2
                      refine slot_step rfl rfl (fun az hs K hK => ?_)
                      have hK : Shut _ := hK
                      have e7 := hs.get 7
                      rw [r7] at e7
                      go_simp
                      exact hK.out _ _ ⟨r1, r5, r6, r7, hbz, kp f0, kp f1, fun _ => rfl, kp f3, kp f4, kp f5, kp f6, kp f7, kp f8, kp f9, kp f10, kp f11, kp f12, kp f13, kp f14, kp f15, kp f16, kp f17, kp f18, kp f19, kp f20, kp f21, kp f22, kp f23, kp f24, kp f25, kp f26, kp f27, kp f28, kp f29, kp f30, kp f31⟩
                    · -- 3
                      have d1 := f1 (hd' 1 (by kernel_rfl))
                      have d2 := f2 (hd' 2 (by kernel_rfl))
                      refine slot_step rfl rfl (fun az hs K hK => ?_)
                      have hK : Shut _ := hK
                      have e95 := hs.get 95
                      rw [d1] at e95
                      have e96 := hs.get 96
                      rw [d2] at e96
                      go_simp
                      exact hK.out _ _ ⟨r1, r5, r6, r7, hbz, kp f0, kp f1, kp f2, fun _ => rfl, kp f4, kp f5, kp f6, kp f7, kp f8, kp f9, kp f10, kp f11, kp f12, kp f13, kp f14, kp f15, kp f16, kp f17, kp f18, kp f19, kp f20, kp f21, kp f22, kp f23, kp f24, kp f25, kp f26, kp f27, kp f28, kp f29, kp f30, kp f31⟩
                    · -- 4
                      have d3 := f3 (hd' 3 (by kernel_rfl))
                      refine slot_step rfl rfl (fun az hs K hK => ?_)
                      have hK : Shut _ := hK
                      have e97 := hs.get 97
                      rw [d3] at e97
                      go_simp
                      exact hK.out _ _ ⟨r1, r5, r6, r7, hbz, kp f0, kp f1, kp f2, kp f3, fun _ => rfl, kp f5, kp f6, kp f7, kp f8, kp f9, kp f10, kp f11, kp f12, kp f13, kp f14, kp f15, kp f16, kp f17, kp f18, kp f19, kp f20, kp f21, kp f22, kp f23, kp f24, kp f25, kp f26, kp f27, kp f28, kp f29, kp f30, kp f31⟩
                    · -- 5
                      have d4 := f4 (hd' 4 (by kernel_rfl))
                      refine slot_step rfl rfl (fun az hs K hK => ?_)
                      have hK : Shut _ := hK
                      have hbz0 := hbW.out.trans (hbz.mono hbW.out.size)
                      have cz := (hbz0.cell (p := ⟨(ad.add (k * 3)).block, (ad.add (k * 3)).off + 1, none⟩) hltA).trans c1
                      have e98 := hs.get 98
                      rw [d4] at e98
                      go_simp
                      exact hK.out _ _ ⟨r1, r5, r6, r7, hbz, kp f0, kp f1, kp f2, kp f3, kp f4, fun _ => rfl, kp f6, kp f7, kp f8, kp f9, kp f10, kp f11, kp f12, kp f13, kp f14, kp f15, kp f16, kp f17, kp f18, kp f19, kp f20, kp f21, kp f22, kp f23, kp f24, kp f25, kp f26, kp f27, kp f28, kp f29, kp f30, kp f31⟩
                    · -- 6
                      have d0 := f0 (hd' 0 (by kernel_rfl))
                      have d5 := f5 (hd' 5 (by kernel_rfl))
                      refine slot_step rfl rfl (fun az hs K hK => ?_)
                      have hK : Shut _ := hK
                      have e94 := hs.get 94
                      rw [d0] at e94
                      have e99 := hs.get 99
                      rw [d5] at e99
                      go_wp2_with (go_at_call 67; refine (both_Clause (hBN.out.keep hbz) hRr.out lv).mono ?_; rintro e wy2 ⟨A2, c2, rfl, hr2, hb2⟩; have hbw := hb2)
                      exact ⟨r1, r5, r6, r7, hbz.trans (hb2.mono hbz.size), kp f0, kp f1, kp f2, kp f3, kp f4, kp f5, fun _ => ⟨A2, c2, rfl, hr2⟩, kp f7, kp f8, kp f9, kp f10, kp f11, kp f12, fun h => h.elim (fun e => absurd e (by decide)) (fun h => let ⟨A, c, e1, e2⟩ := f13 h; ⟨A, c, e1, e2.below hb2 (Nat.le_refl _)⟩), kp f14, kp f15, kp f16, kp f17, fun h => h.elim (fun e => absurd e (by decide)) (fun h => let ⟨A, c, e1, e2⟩ := f18 h; ⟨A, c, e1, e2.below hb2 (Nat.le_refl _)⟩), kp f19, fun h => h.elim (fun e => absurd e (by decide)) (fun h => let ⟨A, c, e1, e2⟩ := f20 h; ⟨A, c, e1, e2.below hb2 (Nat.le_refl _)⟩), kp f21, kp f22, kp f23, kp f24, kp f25, kp f26, kp f27, kp f28, kp f29, kp f30, kp f31⟩
                    · -- 7
                      refine slot_step rfl rfl (fun az hs K hK => ?_)
                      have hK : Shut _ := hK
                      have e6 := hs.get 6
                      rw [r6] at e6
                      go_simp
                      exact hK.out _ _ ⟨r1, r5, r6, r7, hbz, kp f0, kp f1, kp f2, kp f3, kp f4, kp f5, kp f6, fun _ => rfl, kp f8, kp f9, kp f10, kp f11, kp f12, kp f13, kp f14, kp f15, kp f16, kp f17, kp f18, kp f19, kp f20, kp f21, kp f22, kp f23, kp f24, kp f25, kp f26, kp f27, kp f28, kp f29, kp f30, kp f31⟩
                    · -- 8
                      refine slot_step rfl rfl (fun az hs K hK => ?_)
                      have hK : Shut _ := hK
                      have e1 := hs.get 1
                      rw [r1] at e1
                      go_simp
                      exact hK.out _ _ ⟨r1, r5, r6, r7, hbz, kp f0, kp f1, kp f2, kp f3, kp f4, kp f5, kp f6, kp f7, fun _ => rfl, kp f9, kp f10, kp f11, kp f12, kp f13, kp f14, kp f15, kp f16, kp f17, kp f18, kp f19, kp f20, kp f21, kp f22, kp f23, kp f24, kp f25, kp f26, kp f27, kp f28, kp f29, kp f30, kp f31⟩
                    · -- 9
                      refine slot_step rfl rfl (fun az hs K hK => ?_)
                      have hK : Shut _ := hK
                      have e7 := hs.get 7
                      rw [r7] at e7
                      go_simp
                      exact hK.out _ _ ⟨r1, r5, r6, r7, hbz, kp f0, kp f1, kp f2, kp f3, kp f4, kp f5, kp f6, kp f7, kp f8, fun _ => rfl, kp f10, kp f11, kp f12, kp f13, kp f14, kp f15, kp f16, kp f17, kp f18, kp f19, kp f20, kp f21, kp f22, kp f23, kp f24, kp f25, kp f26, kp f27, kp f28, kp f29, kp f30, kp f31⟩
                    · -- 10
                      have d8 := f8 (hd' 8 (by kernel_rfl))
                      have d9 := f9 (hd' 9 (by kernel_rfl))
                      refine slot_step rfl rfl (fun az hs K hK => ?_)
                      have hK : Shut _ := hK
                      have e102 := hs.get 102
                      rw [d8] at e102
                      have e103 := hs.get 103
                      rw [d9] at e103
                      go_simp
                      exact hK.out _ _ ⟨r1, r5, r6, r7, hbz, kp f0, kp f1, kp f2, kp f3, kp f4, kp f5, kp f6, kp f7, kp f8, kp f9, fun _ => rfl, kp f11, kp f12, kp f13, kp f14, kp f15, kp f16, kp f17, kp f18, kp f19, kp f20, kp f21, kp f22, kp f23, kp f24, kp f25, kp f26, kp f27, kp f28, kp f29, kp f30, kp f31⟩
                    · -- 11
                      have d10 := f10 (hd' 10 (by kernel_rfl))
                      refine slot_step rfl rfl (fun az hs K hK => ?_)
                      have hK : Shut _ := hK
                      have e104 := hs.get 104
                      rw [d10] at e104
                      go_simp
                      exact hK.out _ _ ⟨r1, r5, r6, r7, hbz, kp f0, kp f1, kp f2, kp f3, kp f4, kp f5, kp f6, kp f7, kp f8, kp f9, kp f10, fun _ => rfl, kp f12, kp f13, kp f14, kp f15, kp f16, kp f17, kp f18, kp f19, kp f20, kp f21, kp f22, kp f23, kp f24, kp f25, kp f26, kp f27, kp f28, kp f29, kp f30, kp f31⟩
                    · -- 12
                      have d11 := f11 (hd' 11 (by kernel_rfl))
                      refine slot_step rfl rfl (fun az hs K hK => ?_)
                      have hK : Shut _ := hK
                      have hbz0 := hbW.out.trans (hbz.mono hbW.out.size)
                      have cz := (hbz0.cell (p := ⟨(ad.add (k * 3)).block, (ad.add (k * 3)).off + 1, none⟩) hltA).trans c1
                      have e105 := hs.get 105
                      rw [d11] at e105
                      go_simp
                      exact hK.out _ _ ⟨r1, r5, r6, r7, hbz, kp f0, kp f1, kp f2, kp f3, kp f4, kp f5, kp f6, kp f7, kp f8, kp f9, kp f10, kp f11, fun _ => rfl, kp f13, kp f14, kp f15, kp f16, kp f17, kp f18, kp f19, kp f20, kp f21, kp f22, kp f23, kp f24, kp f25, kp f26, kp f27, kp f28, kp f29, kp f30, kp f31⟩
                    · -- 13
                      have d7 := f7 (hd' 7 (by kernel_rfl))
                      have d12 := f12 (hd' 12 (by kernel_rfl))
                      refine slot_step rfl rfl (fun az hs K hK => ?_)
                      have hK : Shut _ := hK
                      have e101 := hs.get 101
                      rw [d7] at e101
                      have e106 := hs.get 106
                      rw [d12] at e106
                      go_wp2_with (go_at_call 68; refine (both_RefClause (hBN.out.keep hbz) hRl2 lv).mono ?_; rintro e wy2 ⟨A2, c2, rfl, hr2, hb2⟩; have hbw := hb2)
                      exact ⟨r1, r5, r6, r7, hbz.trans (hb2.mono hbz.size), kp f0, kp f1, kp f2, kp f3, kp f4, kp f5, fun h => h.elim (fun e => absurd e (by decide)) (fun h => let ⟨A, c, e1, e2⟩ := f6 h; ⟨A, c, e1, e2.below hb2 (Nat.le_refl _)⟩), kp f7, kp f8, kp f9, kp f10, kp f11, kp f12, fun _ => ⟨A2, c2, rfl, hr2⟩, kp f14, kp f15, kp f16, kp f17, fun h => h.elim (fun e => absurd e (by decide)) (fun h => let ⟨A, c, e1, e2⟩ := f18 h; ⟨A, c, e1, e2.below hb2 (Nat.le_refl _)⟩), kp f19, fun h => h.elim (fun e => absurd e (by decide)) (fun h => let ⟨A, c, e1, e2⟩ := f20 h; ⟨A, c, e1, e2.below hb2 (Nat.le_refl _)⟩), kp f21, kp f22, kp f23, kp f24, kp f25, kp f26, kp f27, kp f28, kp f29, kp f30, kp f31⟩
                    · -- 14
                      have d6 := f6 (hd' 6 (by kernel_rfl))
                      have d13 := f13 (hd' 13 (by kernel_rfl))
                      refine slot_step rfl rfl (fun az hs K hK => ?_)
                      have hK : Shut _ := hK
                      obtain ⟨A3, c3, e3, hr3⟩ := d6
                      obtain ⟨A4, c4, e4, hr4⟩ := d13
                      have e100 := hs.get 100
                      rw [e3] at e100
                      have e107 := hs.get 107
                      rw [e4] at e107
                      go_wp2_with (go_at_call 32; refine (same_is (hcl.out) hr3 hr4 rfl).mono ?_; rintro e wy2 ⟨rfl, hd2⟩; have hb2 := hd2.below wz.heap.size)
                      exact ⟨r1, r5, r6, r7, hbz.trans (hb2.mono hbz.size), kp f0, kp f1, kp f2, kp f3, kp f4, kp f5, fun _ => ⟨A3, c3, e3, hr3.below hb2 (Nat.le_refl _)⟩, kp f7, kp f8, kp f9, kp f10, kp f11, kp f12, fun _ => ⟨A4, c4, e4, hr4.below hb2 (Nat.le_refl _)⟩, fun _ => rfl, kp f15, kp f16, kp f17, fun h => h.elim (fun e => absurd e (by decide)) (fun h => let ⟨A, c, e1, e2⟩ := f18 h; ⟨A, c, e1, e2.below hb2 (Nat.le_refl _)⟩), kp f19, fun h => h.elim (fun e => absurd e (by decide)) (fun h => let ⟨A, c, e1, e2⟩ := f20 h; ⟨A, c, e1, e2.below hb2 (Nat.le_refl _)⟩), kp f21, kp f22, kp f23, kp f24, kp f25, kp f26, kp f27, kp f28, kp f29, kp f30, kp f31⟩
                    · -- 15
                      have d14 := f14 (hd' 14 (by kernel_rfl))
                      refine slot_step rfl rfl (fun az hs K hK => ?_)
                      have hK : Shut _ := hK
                      have e108 := hs.get 108
                      rw [d14] at e108
                      go_simp
                      exact hK.out _ _ ⟨r1, r5, r6, r7, hbz, kp f0, kp f1, kp f2, kp f3, kp f4, kp f5, kp f6, kp f7, kp f8, kp f9, kp f10, kp f11, kp f12, kp f13, kp f14, fun _ => rfl, kp f16, kp f17, kp f18, kp f19, kp f20, kp f21, kp f22, kp f23, kp f24, kp f25, kp f26, kp f27, kp f28, kp f29, kp f30, kp f31⟩
                    · -- 16
                      have d15 := f15 (hd' 15 (by kernel_rfl))
                      refine slot_step rfl rfl (fun az hs K hK => ?_)
                      have hK : Shut _ := hK
                      have e109 := hs.get 109
                      rw [d15] at e109
                      go_simp
                      exact hK.out _ _ ⟨r1, r5, r6, r7, hbz, kp f0, kp f1, kp f2, kp f3, kp f4, kp f5, kp f6, kp f7, kp f8, kp f9, kp f10, kp f11, kp f12, kp f13, kp f14, kp f15, fun _ => rfl, kp f17, kp f18, kp f19, kp f20, kp f21, kp f22, kp f23, kp f24, kp f25, kp f26, kp f27, kp f28, kp f29, kp f30, kp f31⟩
                    · -- 17
                      have d16 := f16 (hd' 16 (by kernel_rfl))
                      refine slot_step_yes (j := 16) (d := 110) rfl rfl rfl (by decide) (d16) (fun az hs K hK => ?_)
                      have hK : Shut _ := hK
                      have e110 := hs.get 110
                      rw [d16] at e110
                      have e5 := hs.get 5
                      rw [r5] at e5
                      go_simp
                      exact hK.out _ _ ⟨r1, r5, r6, r7, hbz, kp f0, kp f1, kp f2, kp f3, kp f4, kp f5, kp f6, kp f7, kp f8, kp f9, kp f10, kp f11, kp f12, kp f13, kp f14, kp f15, kp f16, fun _ => rfl, kp f18, kp f19, kp f20, kp f21, kp f22, kp f23, kp f24, kp f25, kp f26, kp f27, kp f28, kp f29, kp f30, kp f31⟩
                    · -- 18
                      have d16 := f16 (hd' 16 (by kernel_rfl))
                      have d17 := f17 (hd' 17 (by kernel_rfl))
                      refine slot_step_yes (j := 16) (d := 110) rfl rfl rfl (by decide) (d16) (fun az hs K hK => ?_)
                      have hK : Shut _ := hK
                      have e110 := hs.get 110
                      rw [d16] at e110
                      have e111 := hs.get 111
                      rw [d17] at e111
                      go_wp2_with (go_at_call 69; refine (both_List (hBN.out.keep hbz) hRl2).mono ?_; rintro e wy2 ⟨A2, c2, rfl, hr2, hb2⟩; have hbw := hb2)
                      exact ⟨r1, r5, r6, r7, hbz.trans (hb2.mono hbz.size), kp f0, kp f1, kp f2, kp f3, kp f4, kp f5, fun h => h.elim (fun e => absurd e (by decide)) (fun h => let ⟨A, c, e1, e2⟩ := f6 h; ⟨A, c, e1, e2.below hb2 (Nat.le_refl _)⟩), kp f7, kp f8, kp f9, kp f10, kp f11, kp f12, fun h => h.elim (fun e => absurd e (by decide)) (fun h => let ⟨A, c, e1, e2⟩ := f13 h; ⟨A, c, e1, e2.below hb2 (Nat.le_refl _)⟩), kp f14, kp f15, kp f16, kp f17, fun _ => ⟨A2, c2, rfl, hr2⟩, kp f19, fun h => h.elim (fun e => absurd e (by decide)) (fun h => let ⟨A, c, e1, e2⟩ := f20 h; ⟨A, c, e1, e2.below hb2 (Nat.le_refl _)⟩), kp f21, kp f22, kp f23, kp f24, kp f25, kp f26, kp f27, kp f28, kp f29, kp f30, kp f31⟩
                    · -- 19
                      have d16 := f16 (hd' 16 (by kernel_rfl))
                      refine slot_step_yes (j := 16) (d := 110) rfl rfl rfl (by decide) (d16) (fun az hs K hK => ?_)
                      have hK : Shut _ := hK
                      have e110 := hs.get 110
                      rw [d16] at e110
                      have e6 := hs.get 6
                      rw [r6] at e6
                      go_simp
                      exact hK.out _ _ ⟨r1, r5, r6, r7, hbz, kp f0, kp f1, kp f2, kp f3, kp f4, kp f5, kp f6, kp f7, kp f8, kp f9, kp f10, kp f11, kp f12, kp f13, kp f14, kp f15, kp f16, kp f17, kp f18, fun _ => rfl, kp f20, kp f21, kp f22, kp f23, kp f24, kp f25, kp f26, kp f27, kp f28, kp f29, kp f30, kp f31⟩
                    · -- 20
                      have d16 := f16 (hd' 16 (by kernel_rfl))
                      have d19 := f19 (hd' 19 (by kernel_rfl))
                      refine slot_step_yes (j := 16) (d := 110) rfl rfl rfl (by decide) (d16) (fun az hs K hK => ?_)
                      have hK : Shut _ := hK
                      have e110 := hs.get 110
                      rw [d16] at e110
                      have e113 := hs.get 113
                      rw [d19] at e113
                      go_wp2_with (go_at_call 70; refine (both_RefList (hBN.out.keep hbz) hRl2).mono ?_; rintro e wy2 ⟨A2, c2, rfl, hr2, hb2⟩; have hbw := hb2)
                      exact ⟨r1, r5, r6, r7, hbz.trans (hb2.mono hbz.size), kp f0, kp f1, kp f2, kp f3, kp f4, kp f5, fun h => h.elim (fun e => absurd e (by decide)) (fun h => let ⟨A, c, e1, e2⟩ := f6 h; ⟨A, c, e1, e2.below hb2 (Nat.le_refl _)⟩), kp f7, kp f8, kp f9, kp f10, kp f11, kp f12, fun h => h.elim (fun e => absurd e (by decide)) (fun h => let ⟨A, c, e1, e2⟩ := f13 h; ⟨A, c, e1, e2.below hb2 (Nat.le_refl _)⟩), kp f14, kp f15, kp f16, kp f17, fun h => h.elim (fun e => absurd e (by decide)) (fun h => let ⟨A, c, e1, e2⟩ := f18 h; ⟨A, c, e1, e2.below hb2 (Nat.le_refl _)⟩), kp f19, fun _ => ⟨A2, c2, rfl, hr2⟩, kp f21, kp f22, kp f23, kp f24, kp f25, kp f26, kp f27, kp f28, kp f29, kp f30, kp f31⟩
                    · -- 21
                      have d16 := f16 (hd' 16 (by kernel_rfl))
                      have d18 := f18 (hd' 18 (by kernel_rfl))
                      have d20 := f20 (hd' 20 (by kernel_rfl))
                      refine slot_step_yes (j := 16) (d := 110) rfl rfl rfl (by decide) (d16) (fun az hs K hK => ?_)
                      have hK : Shut _ := hK
                      obtain ⟨A3, c3, e3, hr3⟩ := d18
                      obtain ⟨A4, c4, e4, hr4⟩ := d20
                      have e112 := hs.get 112
                      rw [e3] at e112
                      have e114 := hs.get 114
                      rw [e4] at e114
                      have e110 := hs.get 110
                      rw [d16] at e110
                      go_wp2_with (go_at_call 32; refine (same_is (hidl.out) hr3 hr4 rfl).mono ?_; rintro e wy2 ⟨rfl, hd2⟩; have hb2 := hd2.below wz.heap.size)
                      exact ⟨r1, r5, r6, r7, hbz.trans (hb2.mono hbz.size), kp f0, kp f1, kp f2, kp f3, kp f4, kp f5, fun h => h.elim (fun e => absurd e (by decide)) (fun h => let ⟨A, c, e1, e2⟩ := f6 h; ⟨A, c, e1, e2.below hb2 (Nat.le_refl _)⟩), kp f7, kp f8, kp f9, kp f10, kp f11, kp f12, fun h => h.elim (fun e => absurd e (by decide)) (fun h => let ⟨A, c, e1, e2⟩ := f13 h; ⟨A, c, e1, e2.below hb2 (Nat.le_refl _)⟩), kp f14, kp f15, kp f16, kp f17, fun _ => ⟨A3, c3, e3, hr3.below hb2 (Nat.le_refl _)⟩, kp f19, fun _ => ⟨A4, c4, e4, hr4.below hb2 (Nat.le_refl _)⟩, fun _ => rfl, kp f22, kp f23, kp f24, kp f25, kp f26, kp f27, kp f28, kp f29, kp f30, kp f31⟩
                    · -- 22
                      have d16 := f16 (hd' 16 (by kernel_rfl))
                      have d21 := f21 (hd' 21 (by kernel_rfl))
                      refine slot_step_yes (j := 16) (d := 110) rfl rfl rfl (by decide) (d16) (fun az hs K hK => ?_)
                      have hK : Shut _ := hK
                      have e115 := hs.get 115
                      rw [d21] at e115
                      have e110 := hs.get 110
                      rw [d16] at e110
                      go_simp
                      exact hK.out _ _ ⟨r1, r5, r6, r7, hbz, kp f0, kp f1, kp f2, kp f3, kp f4, kp f5, kp f6, kp f7, kp f8, kp f9, kp f10, kp f11, kp f12, kp f13, kp f14, kp f15, kp f16, kp f17, kp f18, kp f19, kp f20, kp f21, fun _ => rfl, kp f23, kp f24, kp f25, kp f26, kp f27, kp f28, kp f29, kp f30, kp f31⟩
                    · -- 23
                      have d16 := f16 (hd' 16 (by kernel_rfl))
                      have d22 := f22 (hd' 22 (by kernel_rfl))
                      refine slot_step rfl rfl (fun az hs K hK => ?_)
                      have hK : Shut _ := hK
                      have e110 := hs.get 110
                      rw [d16] at e110
                      have e116 := hs.get 116
                      rw [d22] at e116
                      go_simp
                      exact hK.out _ _ ⟨r1, r5, r6, r7, hbz, kp f0, kp f1, kp f2, kp f3, kp f4, kp f5, kp f6, kp f7, kp f8, kp f9, kp f10, kp f11, kp f12, kp f13, kp f14, kp f15, kp f16, kp f17, kp f18, kp f19, kp f20, kp f21, kp f22, fun _ => rfl, kp f24, kp f25, kp f26, kp f27, kp f28, kp f29, kp f30, kp f31⟩
                    · -- 24
                      have d23 := f23 (hd' 23 (by kernel_rfl))
                      refine slot_step rfl rfl (fun az hs K hK => ?_)
                      have hK : Shut _ := hK
                      have e117 := hs.get 117
                      rw [d23] at e117
                      go_simp
                      exact hK.out _ _ ⟨r1, r5, r6, r7, hbz, kp f0, kp f1, kp f2, kp f3, kp f4, kp f5, kp f6, kp f7, kp f8, kp f9, kp f10, kp f11, kp f12, kp f13, kp f14, kp f15, kp f16, kp f17, kp f18, kp f19, kp f20, kp f21, kp f22, kp f23, fun _ => rfl, kp f25, kp f26, kp f27, kp f28, kp f29, kp f30, kp f31⟩
                    · -- 25
                      have d24 := f24 (hd' 24 (by kernel_rfl))
                      refine slot_step_yes (j := 24) (d := 118) rfl rfl rfl (by decide) (d24) (fun az hs K hK => ?_)
                      have hK : Shut _ := hK
                      have e118 := hs.get 118
                      rw [d24] at e118
                      have e5 := hs.get 5
                      rw [r5] at e5
                      go_simp
                      exact hK.out _ _ ⟨r1, r5, r6, r7, hbz, kp f0, kp f1, kp f2, kp f3, kp f4, kp f5, kp f6, kp f7, kp f8, kp f9, kp f10, kp f11, kp f12, kp f13, kp f14, kp f15, kp f16, kp f17, kp f18, kp f19, kp f20, kp f21, kp f22, kp f23, kp f24, fun _ => rfl, kp f26, kp f27, kp f28, kp f29, kp f30, kp f31⟩
                    · -- 26
                      have d24 := f24 (hd' 24 (by kernel_rfl))
                      have d25 := f25 (hd' 25 (by kernel_rfl))
                      refine slot_step_yes (j := 24) (d := 118) rfl rfl rfl (by decide) (d24) (fun az hs K hK => ?_)
                      have hK : Shut _ := hK
                      have e118 := hs.get 118
                      rw [d24] at e118
                      have e119 := hs.get 119
                      rw [d25] at e119
                      go_wp2_with (go_at_call 71; refine (both_Len (hBN.out.keep hbz)).mono ?_; rintro e wy2 ⟨rfl, rfl⟩)
                      exact ⟨r1, r5, r6, r7, hbz, kp f0, kp f1, kp f2, kp f3, kp f4, kp f5, kp f6, kp f7, kp f8, kp f9, kp f10, kp f11, kp f12, kp f13, kp f14, kp f15, kp f16, kp f17, kp f18, kp f19, kp f20, kp f21, kp f22, kp f23, kp f24, kp f25, fun _ => rfl, kp f27, kp f28, kp f29, kp f30, kp f31⟩
                    · -- 27
                      have d24 := f24 (hd' 24 (by kernel_rfl))
                      refine slot_step_yes (j := 24) (d := 118) rfl rfl rfl (by decide) (d24) (fun az hs K hK => ?_)
                      have hK : Shut _ := hK
                      have e118 := hs.get 118
                      rw [d24] at e118
                      have e6 := hs.get 6
                      rw [r6] at e6
                      go_simp
                      exact hK.out _ _ ⟨r1, r5, r6, r7, hbz, kp f0, kp f1, kp f2, kp f3, kp f4, kp f5, kp f6, kp f7, kp f8, kp f9, kp f10, kp f11, kp f12, kp f13, kp f14, kp f15, kp f16, kp f17, kp f18, kp f19, kp f20, kp f21, kp f22, kp f23, kp f24, kp f25, kp f26, fun _ => rfl, kp f28, kp f29, kp f30, kp f31⟩
                    · -- 28
                      have d24 := f24 (hd' 24 (by kernel_rfl))
                      have d27 := f27 (hd' 27 (by kernel_rfl))
                      refine slot_step_yes (j := 24) (d := 118) rfl rfl rfl (by decide) (d24) (fun az hs K hK => ?_)
                      have hK : Shut _ := hK
                      have e118 := hs.get 118
                      rw [d24] at e118
                      have e121 := hs.get 121
                      rw [d27] at e121
                      go_wp2_with (go_at_call 70; refine (both_RefList (hBN.out.keep hbz) hRl2).mono ?_; rintro e wy2 ⟨A2, c2, rfl, hr2, hb2⟩; have hbw := hb2)
                      exact ⟨r1, r5, r6, r7, hbz.trans (hb2.mono hbz.size), kp f0, kp f1, kp f2, kp f3, kp f4, kp f5, fun h => h.elim (fun e => absurd e (by decide)) (fun h => let ⟨A, c, e1, e2⟩ := f6 h; ⟨A, c, e1, e2.below hb2 (Nat.le_refl _)⟩), kp f7, kp f8, kp f9, kp f10, kp f11, kp f12, fun h => h.elim (fun e => absurd e (by decide)) (fun h => let ⟨A, c, e1, e2⟩ := f13 h; ⟨A, c, e1, e2.below hb2 (Nat.le_refl _)⟩), kp f14, kp f15, kp f16, kp f17, fun h => h.elim (fun e => absurd e (by decide)) (fun h => let ⟨A, c, e1, e2⟩ := f18 h; ⟨A, c, e1, e2.below hb2 (Nat.le_refl _)⟩), kp f19, fun h => h.elim (fun e => absurd e (by decide)) (fun h => let ⟨A, c, e1, e2⟩ := f20 h; ⟨A, c, e1, e2.below hb2 (Nat.le_refl _)⟩), kp f21, kp f22, kp f23, kp f24, kp f25, kp f26, kp f27, fun _ => ⟨A2, c2, rfl⟩, kp f29, kp f30, kp f31⟩
                    · -- 29
                      have d24 := f24 (hd' 24 (by kernel_rfl))
                      have d28 := f28 (hd' 28 (by kernel_rfl))
                      refine slot_step_yes (j := 24) (d := 118) rfl rfl rfl (by decide) (d24) (fun az hs K hK => ?_)
                      have hK : Shut _ := hK
                      obtain ⟨A3, c3, e3⟩ := d28
                      have e122 := hs.get 122
                      rw [e3] at e122
                      have e118 := hs.get 118
                      rw [d24] at e118
                      go_simp
                      exact hK.out _ _ ⟨r1, r5, r6, r7, hbz, kp f0, kp f1, kp f2, kp f3, kp f4, kp f5, kp f6, kp f7, kp f8, kp f9, kp f10, kp f11, kp f12, kp f13, kp f14, kp f15, kp f16, kp f17, kp f18, kp f19, kp f20, kp f21, kp f22, kp f23, kp f24, kp f25, kp f26, kp f27, kp f28, fun _ => rfl, kp f30, kp f31⟩
                    · -- 30
                      have d24 := f24 (hd' 24 (by kernel_rfl))
                      have d26 := f26 (hd' 26 (by kernel_rfl))
                      have d29 := f29 (hd' 29 (by kernel_rfl))
                      refine slot_step_yes (j := 24) (d := 118) rfl rfl rfl (by decide) (d24) (fun az hs K hK => ?_)
                      have hK : Shut _ := hK
                      have e120 := hs.get 120
                      rw [d26] at e120
                      have e118 := hs.get 118
                      rw [d24] at e118
                      have e123 := hs.get 123
                      rw [d29] at e123
                      go_simp
                      exact hK.out _ _ ⟨r1, r5, r6, r7, hbz, kp f0, kp f1, kp f2, kp f3, kp f4, kp f5, kp f6, kp f7, kp f8, kp f9, kp f10, kp f11, kp f12, kp f13, kp f14, kp f15, kp f16, kp f17, kp f18, kp f19, kp f20, kp f21, kp f22, kp f23, kp f24, kp f25, kp f26, kp f27, kp f28, kp f29, fun _ => rfl, kp f31⟩
                    · -- 31
                      have d24 := f24 (hd' 24 (by kernel_rfl))
                      have d30 := f30 (hd' 30 (by kernel_rfl))
                      refine slot_step rfl rfl (fun az hs K hK => ?_)
                      have hK : Shut _ := hK
                      have e118 := hs.get 118
                      rw [d24] at e118
                      have e124 := hs.get 124
                      rw [d30] at e124
                      go_simp
                      exact hK.out _ _ ⟨r1, r5, r6, r7, hbz, kp f0, kp f1, kp f2, kp f3, kp f4, kp f5, kp f6, kp f7, kp f8, kp f9, kp f10, kp f11, kp f12, kp f13, kp f14, kp f15, kp f16, kp f17, kp f18, kp f19, kp f20, kp f21, kp f22, kp f23, kp f24, kp f25, kp f26, kp f27, kp f28, kp f29, kp f30, fun _ => rfl⟩
                  case hdone =>
                    rintro D g wz hD ⟨r1, r5, r6, r7, hbz, f0, f1, f2, f3, f4, f5, f6, f7, f8, f9, f10, f11, f12, f13, f14, f15, f16, f17, f18, f19, f20, f21, f22, f23, f24, f25, f26, f27, f28, f29, f30, f31⟩
                    simp only [setAll, List.foldl_cons, List.foldl_nil, List.setIfInBounds_toArray, List.set_cons_succ, List.set_cons_zero]
                    have e31 := f31 (hD 31)
                    rw [e31]
                    clear f0 f1 f2 f3 f4 f5 f6 f7 f8 f9 f10 f11 f12 f13 f14 f15 f16 f17 f18 f19 f20 f21 f22 f23 f24 f25 f26 f27 f28 f29 f30 f31 hD r1 r5 r6 r7 e31
                    have hBF := hide (hBN.out.keep hbz)
                    have hbF := hide (hbW.out.trans (hbz.mono hbW.out.size))
                    clear hbz hBN hbW
                    go_wp2
                    go_roundg (n - (k + 1))
                    case measure => omega
                    case rel => exact ⟨k + 1, R, I, hlt, Nat.le_refl _, by go_num, hRl, hIl.out, hRr, hBF, hbF⟩
            · have hkn : n = k := by omega
              subst hkn
              clear hBo
              go_wp2_with fail
              refine (lives25 _).mono ?_
              rintro e w9 ⟨rfl, hb9⟩
              have hbF := hide (hb.out.trans (hb9.mono hb.out.size))
              clear hb hb9
              go_wp2
              go_ret
              exact ⟨rfl, hbF.out⟩
      · subst hwc
        have HG2 := fun w => hide (ref25_Good (n := N) (b := false) (decide_eq_false hbad) w)
        have HW := hide (watch_NewNil N hbad w0)
        have HF : ∀ w1, Dr w0 w1 → Hid _ := fun w1 (hd : Dr w0 w1) => hide (few_is (c := c) hfb hn (hr.below (hd.below w0.heap.size) (Nat.le_refl _)))
        replace hfb := hide hfb
        clear hbad hr
        go_wp2_with fail
        refine HW.out.mono ?_
        rintro e w1 ⟨rfl, hd1⟩
        have HF1 := HF w1 hd1
        have hb1 := hide (hd1.below w0.heap.size)
        cases fb with
        | false =>
          go_wp2_with (first | (go_at_call 53; refine HF1.out.mono ?_; rintro e w2 ⟨rfl, rfl⟩) | (go_at_call 64; refine (HG2 _).out.mono ?_; rintro e w2 ⟨rfl, rfl⟩) | (go_at_call 54; refine (lives25 _).mono ?_; rintro e w9 ⟨rfl, hb9⟩; replace hb9 := hide hb9))
          go_ret
          exact ⟨rfl, hb1.out.trans (hb9.out.mono hb1.out.size)⟩
        | true =>
          go_wp2_with (first | (go_at_call 53; refine HF1.out.mono ?_; rintro e w2 ⟨rfl, rfl⟩) | (go_at_call 64; refine (HG2 _).out.mono ?_; rintro e w2 ⟨rfl, rfl⟩) | (go_at_call 54; refine (lives25 _).mono ?_; rintro e w9 ⟨rfl, hb9⟩; replace hb9 := hide hb9))
          go_ret
          exact ⟨rfl, hb1.out.trans (hb9.out.mono hb1.out.size)⟩
end Go.Proofs.Ytcjoohaagdihlaa.Watch
end
