/- Texts behind a row, one behind the other: FewA, WatchS4. -/
import Derived.Test.YtcjoohaagdihlaaWS20
import Derived.Test.YtcjoohaagdihlaaWS2
import Derived.Test.YtcjoohaagdihlaaWS24
section
/- The law's few of asks, and two lists that are one. -/
namespace Go.Proofs.Ytcjoohaagdihlaa.Watch
open Go.RowKit Go.Lt Go.Proofs.Ytcjoohaagdihlaa.Lit Go.Proofs.Ytcjoohaagdihlaa.Sorted Go.Proofs.Ytcjoohaagdihlaa.Learn Go.Instr
open Go.Proofs.Ytcjoohaagdihlaa.Kept (Sl Sl.val addr_off)
set_option linter.unusedVariables false
set_option linter.unusedSimpArgs false

/-- asks are few, and clauses short -/
def fewA (l : List St) : Bool := (l.all fun s => decide (s.why.length ≤ 12)) && decide (l.length ≤ 60)
theorem fewA_iff {l : List St} : fewA l = true ↔ (∀ s ∈ l, s.why.length ≤ 12) ∧ l.length ≤ 60 := by unfold fewA; simp
theorem fewA_no {l : List St} {s : St} (hs : s ∈ l) (h : 12 < s.why.length) : fewA l = false := by
  cases hf : fewA l with
  | false => rfl
  | true => have := (fewA_iff.1 hf).1 s hs; omega
theorem fewA_end {l : List St} (h : ∀ s ∈ l, s.why.length ≤ 12) : fewA l = decide (l.length ≤ 60) := by
  have : (l.all fun s => decide (s.why.length ≤ 12)) = true := by rw [List.all_eq_true]; exact fun s hs => by simpa using h s hs
  unfold fewA
  rw [this, Bool.true_and]
set_option maxRecDepth 8000 in
theorem law25_few (A : Option Addr) (n c : Nat) (l : List St) (w : World) (hn : n ≤ maxLen) (hr : RdT w A n l) :
    Calls Try.prog 53 #[.slice A n c] w fun e w' => e = .returned (.bool (fewA l)) ∧ w = w' := by
  have hll := hide hr.1
  replace hn := hide (show (n : Int) ≤ 9223372036854775807 by unfold maxLen at hn; omega)
  go_enter Try.func53, Try.ntmps53
  go_wp2
  go_loopw [3] (fun i wr => ∃ k : Nat, k ≤ n ∧ i = .int .i64 k ∧ Hid (∀ j, j < k → (stAt l j).why.length ≤ 12) ∧ w = wr) (fun i _ => n - (intOf i).toNat)
  case atStart => exact ⟨0, Nat.zero_le _, rfl, hide (fun j hj => absurd hj (Nat.not_lt_zero _)), rfl⟩
  case round =>
    obtain ⟨k, hk, rfl, hj, rfl⟩ := hrel
    by_cases hlt : k < n
    · have hltI : (k : Int) < n := by omega
      have hkw : IntKind.i64.wrap ((k : Int) + 1) = ((k + 1 : Nat) : Int) := by rw [IntWalk.i64_in _ (by have := hn.out; omega)]; omega
      obtain ⟨ad, s, z, rfl, hB, hs, c0, c1, c3, hw⟩ := hr.get hlt
      have hsm := List.mem_of_getElem? hs
      have hst := hide (stAt_is hs)
      have hwl := Rd.len hw
      obtain ⟨lt, lv, wy⟩ := s
      obtain ⟨zA, zn, zc⟩ := z
      simp only [Sl.val] at c0 c1 c3 hwl
      by_cases h30 : (12 : Int) < zn
      · have d30 : decide ((12 : Int) < zn) = true := decide_eq_true h30
        have hF := hide (fewA_no hsm (show 12 < wy.length by omega))
        clear hs hw hsm hj
        go_wp2
        go_ret
        exact ⟨by rw [hF.out]; rfl, rfl⟩
      · have d30 : decide ((12 : Int) < zn) = false := decide_eq_false h30
        have hjN := hide (show ∀ j, j < k + 1 → (stAt l j).why.length ≤ 12 from fun j hj2 => by
          by_cases h : j = k
          · subst h; rw [hst.out]; show wy.length ≤ 12; omega
          · exact hj.out j (by omega))
        clear hs hw hsm hj
        go_wp2
        go_roundw
        case rel => exact ⟨k + 1, hlt, by go_num, hjN, trivial⟩
        case measure => simp [intOf]; omega
    · have hkn : n = k := by omega
      subst hkn
      have hF := hide (fewA_end (show ∀ s ∈ l, s.why.length ≤ 12 from fun s hs => by
        obtain ⟨j, hj2, e⟩ := List.getElem_of_mem hs
        have := hj.out j (by rw [← hll.out]; exact hj2)
        rwa [stAt_is (by rw [List.getElem?_eq_getElem hj2, e])] at this))
      rw [hll.out] at hF
      obtain ⟨b1, hb1⟩ : ∃ b1, decide (n ≤ 60) = b1 := ⟨_, rfl⟩
      have e1 : decide ((n : Int) ≤ 60) = b1 := by rw [← hb1]; exact decide_eq_decide.2 (by omega)
      rw [hb1] at hF
      replace hb1 := hide hb1
      clear hj
      go_wp2
      go_ret
      exact ⟨by rw [hF.out]; rfl, rfl⟩
theorem few_is {A : Option Addr} {n c : Nat} {l : List St} {b : Bool} (h : fewA l = b) {w : World} (hn : n ≤ maxLen) (hr : RdT w A n l) :
    Calls Try.prog 53 #[.slice A n c] w fun e w' => e = .returned (.bool b) ∧ w = w' := h ▸ law25_few A n c l w hn hr
theorem same_is {A B : Option Addr} {n m ca cb : Nat} {a b : List Int} {W : World} (hn : n ≤ 1000000) (hra : Rd W A n (ivs a)) (hrb : Rd W B m (ivs b)) (e : a = b) : Calls Try.prog 32 #[.slice A n ca, .slice B m cb] W fun e w' => e = .returned (.bool true) ∧ Dr W w' := by
  subst e
  have := ref_Ints A B n m ca cb a a W hn hra hrb
  rw [show sameI a a = true from decide_eq_true rfl] at this
  exact this
end Go.Proofs.Ytcjoohaagdihlaa.Watch
end

section
/- The law WatchShort. -/
namespace Go.Proofs.Ytcjoohaagdihlaa.Watch
open Go.RowKit Go.Lt Go.Proofs.Ytcjoohaagdihlaa.Lit Go.Proofs.Ytcjoohaagdihlaa.Sorted Go.Proofs.Ytcjoohaagdihlaa.Learn Go.Instr
open Go.Proofs.Ytcjoohaagdihlaa.Kept (Sl Sl.val addr_off)
set_option linter.unusedVariables false
set_option linter.unusedSimpArgs false

theorem few_nil (w : World) : Calls Try.prog 53 #[.slice none 0 0] w fun e w' => e = .returned (.bool true) ∧ w = w' :=
  few_is (A := none) (n := 0) (c := 0) (l := []) (by decide) (Nat.zero_le _) (RdT.nil _ _)
theorem rows_in {rows : List (List Int)} (h : ∀ c ∈ rows, ShortC 9 c) : ∀ row ∈ rows, ∀ x ∈ row, litGood x = true → x / 2 < ((9 : Nat) : Int) := fun row hr x hx _ => by
  rcases (h row hr).is with rfl | ⟨y, rfl, _, h2, _⟩
  · cases hx
  · rw [List.mem_singleton] at hx; subst hx; exact h2
theorem rows_len {rows : List (List Int)} (h : ∀ c ∈ rows, ShortC 9 c) : ∀ row ∈ rows, row.length ≤ 1000000 := fun row hr => by
  rcases (h row hr).is with rfl | ⟨y, rfl, _, h2, _⟩
  · simp
  · simp
theorem watch_New8 (w : World) : Calls Try.prog 55 #[.int .i64 8] w fun e w' => ∃ p mA mN mS mB, e = .returned (.pointer (some ⟨p, 0, none⟩)) ∧ StM w.heap.size w' p mA mN mS mB 8 0 (.slice none 0 0) [] [] [] [] [] ∧ Below w.heap.size w w' := watch_New 8 (by decide) w
theorem trail_New8 (w : World) : Calls Try.prog 56 #[.int .i64 8] w fun e w' => ∃ p gv gm, e = .returned (.pointer (some ⟨p, 0, none⟩)) ∧ TrM w.heap.size w' p gv gm 9 (.slice none 0 0) (initV 9 9) ((List.replicate 9 zMk).set 0 ⟨0, -1, -1⟩) [] ∧ Below w.heap.size w w' := trail_New 8 (by decide) w
set_option maxRecDepth 8000 in
set_option maxHeartbeats 4000000 in
theorem law_WatchShort (A : Option Addr) (n c : Nat) (cl : List (List Int)) (w0 : World) (hr : RdR w0 A n cl) :
    Calls Try.prog 10 #[.slice A n c] w0 fun e w' => e = .returned (.bool true) ∧ Below w0.heap.size w0 w' := by
  by_cases h20 : (20 : Int) < n
  · have d20 : decide ((20 : Int) < n) = true := decide_eq_true h20
    go_enter Try.func10, Try.ntmps10
    go_wp2_with (first | (go_at_call 53; refine (few_nil _).mono ?_; rintro e w2 ⟨rfl, rfl⟩) | (go_at_call 54; refine (lives25 _).mono ?_; rintro e w9 ⟨rfl, hb9⟩; replace hb9 := hide hb9))
    go_ret
    exact ⟨rfl, hb9.out⟩
  · have d20 : decide ((20 : Int) < n) = false := decide_eq_false h20
    have hn20 : n ≤ 20 := by omega
    have hnI : (n : Int) ≤ 20 := by omega
    go_enter Try.func10, Try.ntmps10
    go_wp2_with (go_at_call 53; refine (few_nil _).mono ?_; rintro e w2 ⟨rfl, rfl⟩)
    refine (watch_New8 w0).mono ?_
    rintro e w1 ⟨p, mA, mN, mS, mB, rfl, hst, hb1⟩
    replace hst := hide hst
    replace hb1 := hide hb1
    go_wp2_with fail
    refine (trail_New8 w1).mono ?_
    rintro e w2 ⟨pt, gv, gm, rfl, htm, hb2⟩
    replace htm := hide htm
    replace hb2 := hide hb2
    go_wp2
    obtain ⟨w3, hw3⟩ : ∃ w3, w2.alloc (.cells (boxR 8 nilv nilv) 87) = w3 := ⟨_, rfl⟩
    have hq := Blk.new w2 87 (boxR 8 nilv nilv)
    have hb3 := (Below.refl w2.heap.size w2).alloc (Nat.le_refl _) (.cells (boxR 8 nilv nilv) 87)
    rw [hw3] at hq hb3 ⊢
    have hB0 := hide (shB_new hst.out hb1.out.size htm.out hb2.out hb3 hq (Nat.le_refl _))
    have hb0 := hide ((hb1.out.trans (hb2.out.mono hb1.out.size)).trans (hb3.mono (Nat.le_trans hb1.out.size hb2.out.size)))
    obtain ⟨lo, hlo⟩ : ∃ lo, w1.heap.size = lo := ⟨_, rfl⟩
    rw [hlo] at hB0
    obtain ⟨q, hqe⟩ : ∃ q, w2.heap.size = q := ⟨_, rfl⟩
    rw [hqe] at hB0 ⊢
    obtain ⟨vs, hvs⟩ : ∃ vs, initV 9 9 = vs := ⟨_, rfl⟩
    rw [hvs] at hB0
    clear hq hb3 hst htm hb1 hb2 hw3 hlo hqe hvs
    go_loopg [6] n (fun gk i wr => ∃ (k : Nat) (rows : List (List Int)), k ≤ n ∧ n - k ≤ gk ∧ i = .int .i64 k ∧ rows.length ≤ k ∧ Hid (ShB w0.heap.size lo p mA mN mS mB q pt gv gm rows rows vs 0 [] wr) ∧ Hid (Below w0.heap.size w0 wr))
    case atStart => exact ⟨0, [], Nat.zero_le _, Nat.le_refl _, rfl, Nat.le_refl _, hB0, hb0⟩
    case round =>
      obtain ⟨k, rows, hk, hgk, rfl, hrk, hB, hb⟩ := hrel
      clear hB0 hb0
      have hkI : (k : Int) ≤ 20 := by omega
      by_cases hlt : k < n
      · have hltI : (k : Int) < n := by omega
        obtain ⟨ad, row, s, rfl, hlA, hx, hcx, hrow⟩ := hr.2 k hlt
        obtain ⟨zA, zn, zc⟩ := s
        simp only [Sl.val] at hcx hrow
        have hltA : (ad.add k).block < w0.heap.size := by rw [add_block]; exact hlA
        have hczr := (hb.out.cell hltA).trans hcx
        have hrl : rows.length ≤ 1000 := by omega
        clear hx
        by_cases h1 : (1 : Int) < zn
        · have d1 : decide ((1 : Int) < zn) = true := decide_eq_true h1
          clear hrow
          go_wp2
          go_roundg (n - (k + 1))
          case measure => omega
          case rel => exact ⟨k + 1, rows, hlt, Nat.le_refl _, by go_num, by omega, hB, hb⟩
        · have d1 : decide ((1 : Int) < zn) = false := decide_eq_false h1
          have hz1 : zn ≤ 1 := by omega
          obtain ⟨V, hV⟩ : ∃ V, addV 8 rows row = V := ⟨_, rfl⟩
          replace hV := hide hV
          go_wp2
          refine wp_region_slots [43, 44, 45, 46, 47, 48, 49, 50, 51, 52, 53, 54, 55] (fun D g wz => g 0 = .slice (some ad) n c ∧ g 3 = .pointer (some ⟨p, 0, none⟩) ∧ g 5 = .pointer (some ⟨q, 0, none⟩) ∧ g 6 = .int .i64 k ∧ Below w0.heap.size w0 wz ∧ (¬ D 5 → ShB w0.heap.size lo p mA mN mS mB q pt gv gm rows rows vs 0 [] wz) ∧ (D 5 → ¬ D 11 → ShB w0.heap.size lo p mA mN mS mB q pt gv gm (addP 8 rows row) rows vs 0 [] wz) ∧ (D 11 → D 5) ∧ (D 0 → g 43 = .pointer (some ⟨p, 0, none⟩)) ∧ (D 1 → g 44 = .slice (some ad) n c) ∧ (D 2 → g 45 = .int .i64 k) ∧ (D 3 → g 46 = .pointer (some (ad.add k))) ∧ (D 4 → g 47 = .slice zA zn zc) ∧ (D 5 → g 48 = .int .i64 V) ∧ (D 6 → g 49 = .pointer (some ⟨q, 0, none⟩)) ∧ (D 7 → g 50 = .slice (some ad) n c) ∧ (D 8 → g 51 = .int .i64 k) ∧ (D 9 → g 52 = .pointer (some (ad.add k))) ∧ (D 10 → g 53 = .slice zA zn zc) ∧ (D 11 → g 54 = .int .i64 V ∧ ShB w0.heap.size lo p mA mN mS mB q pt gv gm (addP 8 rows row) (addP 8 rows row) vs 0 [] wz) ∧ (D 12 → g 55 = .bool false)) (by kernel_rfl) (by kernel_rfl) 94 rfl (by kernel_rfl) ?h0 ?hstep ?hdone
          case h0 => exact ⟨rfl, rfl, rfl, rfl, hb.out.trans (((Dr.refl wr).drew.below _).mono hb.out.size), (fun _ => hB.out.keep ((Dr.refl wr).drew.below _)), nt0, nt0, nt0, nt0, nt0, nt0, nt0, nt0, nt0, nt0, nt0, nt0, nt0, nt0, nt0⟩
          case hstep =>
            intro D g wz i hi' hn hd' hI2
            obtain ⟨r0, r3, r5, r6, hbz, s0, s1, c11, f0, f1, f2, f3, f4, f5, f6, f7, f8, f9, f10, f11, f12⟩ := hI2
            have hi' : i < 13 := hi'
            rcases (show i = 0 ∨ i = 1 ∨ i = 2 ∨ i = 3 ∨ i = 4 ∨ i = 5 ∨ i = 6 ∨ i = 7 ∨ i = 8 ∨ i = 9 ∨ i = 10 ∨ i = 11 ∨ i = 12 by omega) with rfl | rfl | rfl | rfl | rfl | rfl | rfl | rfl | rfl | rfl | rfl | rfl | rfl
            · -- 0
              refine slot_step rfl rfl (fun az hs K hK => ?_)
              have hK : Shut _ := hK
              have e3 := hs.get 3
              rw [r3] at e3
              go_simp
              exact hK.out _ _ ⟨r0, r3, r5, r6, hbz, (fun h => s0 (fun e => h (Or.inr e))), (fun h h' => s1 (h.resolve_left (by decide)) (fun e => h' (Or.inr e))), (fun h => h.elim (fun e => absurd e (by decide)) (fun h => Or.inr (c11 h))), fun _ => rfl, kp f1, kp f2, kp f3, kp f4, kp f5, kp f6, kp f7, kp f8, kp f9, kp f10, kp f11, kp f12⟩
            · -- 1
              refine slot_step rfl rfl (fun az hs K hK => ?_)
              have hK : Shut _ := hK
              have e0 := hs.get 0
              rw [r0] at e0
              go_simp
              exact hK.out _ _ ⟨r0, r3, r5, r6, hbz, (fun h => s0 (fun e => h (Or.inr e))), (fun h h' => s1 (h.resolve_left (by decide)) (fun e => h' (Or.inr e))), (fun h => h.elim (fun e => absurd e (by decide)) (fun h => Or.inr (c11 h))), kp f0, fun _ => rfl, kp f2, kp f3, kp f4, kp f5, kp f6, kp f7, kp f8, kp f9, kp f10, kp f11, kp f12⟩
            · -- 2
              refine slot_step rfl rfl (fun az hs K hK => ?_)
              have hK : Shut _ := hK
              have e6 := hs.get 6
              rw [r6] at e6
              go_simp
              exact hK.out _ _ ⟨r0, r3, r5, r6, hbz, (fun h => s0 (fun e => h (Or.inr e))), (fun h h' => s1 (h.resolve_left (by decide)) (fun e => h' (Or.inr e))), (fun h => h.elim (fun e => absurd e (by decide)) (fun h => Or.inr (c11 h))), kp f0, kp f1, fun _ => rfl, kp f3, kp f4, kp f5, kp f6, kp f7, kp f8, kp f9, kp f10, kp f11, kp f12⟩
            · -- 3
              have d1 := f1 (hd' 1 (by kernel_rfl))
              have d2 := f2 (hd' 2 (by kernel_rfl))
              refine slot_step rfl rfl (fun az hs K hK => ?_)
              have hK : Shut _ := hK
              have e44 := hs.get 44
              rw [d1] at e44
              have e45 := hs.get 45
              rw [d2] at e45
              go_simp
              exact hK.out _ _ ⟨r0, r3, r5, r6, hbz, (fun h => s0 (fun e => h (Or.inr e))), (fun h h' => s1 (h.resolve_left (by decide)) (fun e => h' (Or.inr e))), (fun h => h.elim (fun e => absurd e (by decide)) (fun h => Or.inr (c11 h))), kp f0, kp f1, kp f2, fun _ => rfl, kp f4, kp f5, kp f6, kp f7, kp f8, kp f9, kp f10, kp f11, kp f12⟩
            · -- 4
              have d3 := f3 (hd' 3 (by kernel_rfl))
              refine slot_step rfl rfl (fun az hs K hK => ?_)
              have hK : Shut _ := hK
              have cz := (hbz.cell hltA).trans hcx
              have e46 := hs.get 46
              rw [d3] at e46
              go_simp
              exact hK.out _ _ ⟨r0, r3, r5, r6, hbz, (fun h => s0 (fun e => h (Or.inr e))), (fun h h' => s1 (h.resolve_left (by decide)) (fun e => h' (Or.inr e))), (fun h => h.elim (fun e => absurd e (by decide)) (fun h => Or.inr (c11 h))), kp f0, kp f1, kp f2, kp f3, fun _ => rfl, kp f5, kp f6, kp f7, kp f8, kp f9, kp f10, kp f11, kp f12⟩
            · -- 5
              have d0 := f0 (hd' 0 (by kernel_rfl))
              have d4 := f4 (hd' 4 (by kernel_rfl))
              refine slot_step rfl rfl (fun az hs K hK => ?_)
              have hK : Shut _ := hK
              have HA := shB_Add (s0 hn) hrl zA zn zc row hz1 (hrow.below hbz (Nat.le_refl _))
              rw [hV.out] at HA
              replace HA := hide HA
              have e43 := hs.get 43
              rw [d0] at e43
              have e47 := hs.get 47
              rw [d4] at e47
              go_wp2_with (go_at_call 57; refine HA.out.mono ?_; rintro e wy2 ⟨rfl, hB2, hb2⟩)
              exact ⟨r0, r3, r5, r6, hbz.trans hb2, (fun h => (h (by simp)).elim), (fun h h' => hB2), (fun h => h.elim (fun e => absurd e (by decide)) (fun h => Or.inr (c11 h))), kp f0, kp f1, kp f2, kp f3, kp f4, fun _ => rfl, kp f6, kp f7, kp f8, kp f9, kp f10, fun h => h.elim (fun e => absurd e (by decide)) (fun h => absurd (c11 h) hn), kp f12⟩
            · -- 6
              refine slot_step rfl rfl (fun az hs K hK => ?_)
              have hK : Shut _ := hK
              have e5 := hs.get 5
              rw [r5] at e5
              go_simp
              exact hK.out _ _ ⟨r0, r3, r5, r6, hbz, (fun h => s0 (fun e => h (Or.inr e))), (fun h h' => s1 (h.resolve_left (by decide)) (fun e => h' (Or.inr e))), (fun h => h.elim (fun e => absurd e (by decide)) (fun h => Or.inr (c11 h))), kp f0, kp f1, kp f2, kp f3, kp f4, kp f5, fun _ => rfl, kp f7, kp f8, kp f9, kp f10, kp f11, kp f12⟩
            · -- 7
              refine slot_step rfl rfl (fun az hs K hK => ?_)
              have hK : Shut _ := hK
              have e0 := hs.get 0
              rw [r0] at e0
              go_simp
              exact hK.out _ _ ⟨r0, r3, r5, r6, hbz, (fun h => s0 (fun e => h (Or.inr e))), (fun h h' => s1 (h.resolve_left (by decide)) (fun e => h' (Or.inr e))), (fun h => h.elim (fun e => absurd e (by decide)) (fun h => Or.inr (c11 h))), kp f0, kp f1, kp f2, kp f3, kp f4, kp f5, kp f6, fun _ => rfl, kp f8, kp f9, kp f10, kp f11, kp f12⟩
            · -- 8
              refine slot_step rfl rfl (fun az hs K hK => ?_)
              have hK : Shut _ := hK
              have e6 := hs.get 6
              rw [r6] at e6
              go_simp
              exact hK.out _ _ ⟨r0, r3, r5, r6, hbz, (fun h => s0 (fun e => h (Or.inr e))), (fun h h' => s1 (h.resolve_left (by decide)) (fun e => h' (Or.inr e))), (fun h => h.elim (fun e => absurd e (by decide)) (fun h => Or.inr (c11 h))), kp f0, kp f1, kp f2, kp f3, kp f4, kp f5, kp f6, kp f7, fun _ => rfl, kp f9, kp f10, kp f11, kp f12⟩
            · -- 9
              have d7 := f7 (hd' 7 (by kernel_rfl))
              have d8 := f8 (hd' 8 (by kernel_rfl))
              refine slot_step rfl rfl (fun az hs K hK => ?_)
              have hK : Shut _ := hK
              have e50 := hs.get 50
              rw [d7] at e50
              have e51 := hs.get 51
              rw [d8] at e51
              go_simp
              exact hK.out _ _ ⟨r0, r3, r5, r6, hbz, (fun h => s0 (fun e => h (Or.inr e))), (fun h h' => s1 (h.resolve_left (by decide)) (fun e => h' (Or.inr e))), (fun h => h.elim (fun e => absurd e (by decide)) (fun h => Or.inr (c11 h))), kp f0, kp f1, kp f2, kp f3, kp f4, kp f5, kp f6, kp f7, kp f8, fun _ => rfl, kp f10, kp f11, kp f12⟩
            · -- 10
              have d9 := f9 (hd' 9 (by kernel_rfl))
              refine slot_step rfl rfl (fun az hs K hK => ?_)
              have hK : Shut _ := hK
              have cz := (hbz.cell hltA).trans hcx
              have e52 := hs.get 52
              rw [d9] at e52
              go_simp
              exact hK.out _ _ ⟨r0, r3, r5, r6, hbz, (fun h => s0 (fun e => h (Or.inr e))), (fun h h' => s1 (h.resolve_left (by decide)) (fun e => h' (Or.inr e))), (fun h => h.elim (fun e => absurd e (by decide)) (fun h => Or.inr (c11 h))), kp f0, kp f1, kp f2, kp f3, kp f4, kp f5, kp f6, kp f7, kp f8, kp f9, fun _ => rfl, kp f11, kp f12⟩
            · -- 11
              have d5 := f5 (hd' 5 (by kernel_rfl))
              have d6 := f6 (hd' 6 (by kernel_rfl))
              have d10 := f10 (hd' 10 (by kernel_rfl))
              refine slot_step rfl rfl (fun az hs K hK => ?_)
              have hK : Shut _ := hK
              have d5' := hd' 5 (by kernel_rfl)
              have HA := shB_RefAdd (s1 d5' hn) hrl zA zn zc row hz1 (hrow.below hbz (Nat.le_refl _))
              rw [hV.out] at HA
              replace HA := hide HA
              have e49 := hs.get 49
              rw [d6] at e49
              have e53 := hs.get 53
              rw [d10] at e53
              go_wp2_with (go_at_call 58; refine HA.out.mono ?_; rintro e wy2 ⟨rfl, hB2, hb2⟩)
              exact ⟨r0, r3, r5, r6, hbz.trans hb2, (fun h => absurd (Or.inr d5') h), (fun h h' => (h' (by simp)).elim), (fun _ => Or.inr (hd' 5 (by kernel_rfl))), kp f0, kp f1, kp f2, kp f3, kp f4, kp f5, kp f6, kp f7, kp f8, kp f9, kp f10, fun _ => ⟨rfl, hB2⟩, kp f12⟩
            · -- 12
              have d5 := f5 (hd' 5 (by kernel_rfl))
              have d11 := f11 (hd' 11 (by kernel_rfl))
              refine slot_step rfl rfl (fun az hs K hK => ?_)
              have hK : Shut _ := hK
              have d11 := d11.1
              have e48 := hs.get 48
              rw [d5] at e48
              have e54 := hs.get 54
              rw [d11] at e54
              go_simp
              exact hK.out _ _ ⟨r0, r3, r5, r6, hbz, (fun h => s0 (fun e => h (Or.inr e))), (fun h h' => s1 (h.resolve_left (by decide)) (fun e => h' (Or.inr e))), (fun h => h.elim (fun e => absurd e (by decide)) (fun h => Or.inr (c11 h))), kp f0, kp f1, kp f2, kp f3, kp f4, kp f5, kp f6, kp f7, kp f8, kp f9, kp f10, kp f11, fun _ => rfl⟩
          case hdone =>
            rintro D g wz hD ⟨r0, r3, r5, r6, hbz, s0, s1, c11, f0, f1, f2, f3, f4, f5, f6, f7, f8, f9, f10, f11, f12⟩
            simp only [setAll, List.foldl_cons, List.foldl_nil, List.setIfInBounds_toArray, List.set_cons_succ, List.set_cons_zero]
            obtain ⟨_, hBN⟩ := f11 (hD 11)
            have e12 := f12 (hD 12)
            rw [e12]
            clear f0 f1 f2 f3 f4 f5 f6 f7 f8 f9 f10 f11 f12 hD r0 r3 r5 r6 s0 s1 c11 e12
            have hRl := addP_len 8 rows row
            replace hBN := hide hBN
            replace hbz := hide hbz
            clear hB hb
            go_wp2
            go_roundg (n - (k + 1))
            case measure => omega
            case rel => exact ⟨k + 1, _, hlt, Nat.le_refl _, by go_num, by omega, hBN, hbz⟩

      · have hkn : n = k := by omega
        subst hkn
        go_wp2
        go_loopg [7] 2 (fun gk i wr => ∃ (k : Nat) (cur : List Int) (nl : Nat), k ≤ 2 ∧ 2 - k ≤ gk ∧ i = .int .i64 k ∧ nl ≤ 20 * k ∧ Hid (ShB w0.heap.size lo p mA mN mS mB q pt gv gm rows rows cur nl [] wr) ∧ Hid (Below w0.heap.size w0 wr))
        case atStart => exact ⟨0, vs, 0, Nat.zero_le _, Nat.le_refl _, rfl, Nat.zero_le _, hB, hb⟩
        case round =>
          obtain ⟨j, cur, nl, hj, hgj, rfl, hnl, hB2, hb2⟩ := hrel
          clear hB hb
          have hjI : (j : Int) ≤ 2 := by omega
          have hsh := hide hB2.out.short
          have hvl := hide hB2.out.vlen
          by_cases hjl : j < 2
          · have hjlI : (j : Int) < 2 := by omega
            go_wp2_with fail
            refine (shB_Values hB2.out).mono ?_
            rintro e w4 ⟨A4, c4, rfl, hr4, hb4⟩
            have hB4 := hide (hB2.out.keep hb4)
            have hb04 := hide (hb2.out.trans (hb4.mono hb2.out.size))
            replace hr4 := hide hr4
            clear hB2 hb2 hb4
            go_wp2_with fail
            refine (shB_Kept hB4.out (by omega)).mono ?_
            rintro e w5 ⟨A5, c5, rfl, hr5, hb5⟩
            have hB5 := hide (hB4.out.keep hb5)
            have hb05 := hide (hb04.out.trans (hb5.mono hb04.out.size))
            have hr4b := hide (hr4.out.below hb5 (Nat.le_refl _))
            replace hr5 := hide hr5
            clear hB4 hb04 hb5 hr4
            go_wp2_with fail
            refine (ref22_UnitsO A4 9 c4 cur A5 rows.length c5 rows w5 (by decide) hr4b.out (by omega) hr5.out (rows_len hsh.out) (rows_in hsh.out)).mono ?_
            rintro e w6 ⟨r, hU, hV, hb6⟩
            have hrr := hide (units_short hsh.out hvl.out hU)
            have hB6 := hide (hB5.out.keep hb6)
            have hb06 := hide (hb05.out.trans (hb6.mono hb05.out.size))
            clear hU hr4b hr5 hsh hvl hb05
            cases r with
            | none =>
              have hV : e = .returned (.tuple #[.slice none 0 0, .bool false]) := hV
              subst hV
              clear hB5 hb6
              go_wp2_with (first | (go_at_call 62; refine (shB_Len hB6.out).mono ?_; rintro e w7 ⟨rfl, rfl⟩))
              refine (shB_Run hB6.out (by omega) (by omega)).mono ?_
              rintro e w7 ⟨a, b, cc, rfl, vals', nls', hn', hB7, hb7, hcase⟩
              have hb07 := hide (hb06.out.trans hb7)
              have hc0 : ¬ cc < 0 := by
                rcases hcase with ⟨h1, _⟩ | ⟨_, h2⟩
                · have := hrr.out; rw [h1] at this; cases this
                · omega
              have dc : decide (cc < 0) = false := decide_eq_false hc0
              replace hB7 := hide hB7
              clear hcase hb7 hB6 hb06 hrr hc0
              go_wp2_with (go_at_call 63; refine (shB_Back hB7.out).mono ?_; rintro e w8 ⟨rfl, rfl⟩)
              go_roundg (2 - (j + 1))
              case measure => omega
              case rel => exact ⟨j + 1, vals', nls', hjl, Nat.le_refl _, by go_num, by omega, hB7, hb07⟩
            | some out =>
              obtain ⟨A6, c6, rfl, ho6⟩ := hV
              have hB6p := hide (hB5.out.protect hb6 (s := ⟨A6, 9, c6⟩) ho6)
              clear hB5 hb6 ho6 hB6
              go_wp2_with (first | (go_at_call 62; refine (shB_Len hB6p.out).mono ?_; rintro e w7 ⟨rfl, rfl⟩))
              refine (shB_Run hB6p.out (by omega) (by omega)).mono ?_
              rintro e w7 ⟨a, b, cc, rfl, vals', nls', hn', hB7, hb7, hcase⟩
              have hb07 := hide (hb06.out.trans hb7)
              obtain ⟨hvo, hcc⟩ : vals' = out ∧ cc = -1 := by
                rcases hcase with ⟨h1, h2⟩ | ⟨h1, _⟩
                · have := hrr.out; rw [h1] at this; injection this with this; exact ⟨this.symm, h2⟩
                · have := hrr.out; rw [h1] at this; cases this
              subst hvo hcc
              have hrd7 := hide (hB7.read List.mem_cons_self)
              replace hB7 := hide hB7
              clear hcase hb7 hB6p hb06 hrr
              go_wp2_with fail
              refine (shB_Values hB7.out).mono ?_
              rintro e w8 ⟨A8, c8, rfl, hr8, hb8⟩
              have hI := hide (same_is (ca := c8) (cb := c6) (by decide) hr8 (hrd7.out.below hb8 (Nat.le_refl _)) rfl)
              have hB8 := hide (hB7.out.keep hb8)
              have hb08 := hide (hb07.out.trans (hb8.mono hb07.out.size))
              clear hB7 hr8 hrd7 hb8 hb07
              go_wp2_with fail
              refine hI.out.mono ?_
              rintro e w9 ⟨rfl, hd9⟩
              have hB9 := hide (hB8.out.keep (hd9.below _))
              have hb09 := hide (hb08.out.trans ((hd9.below _).mono hb08.out.size))
              clear hB8 hb08 hd9 hI
              go_wp2_with (go_at_call 63; refine (shB_Back hB9.out).mono ?_; rintro e w10 ⟨rfl, rfl⟩)
              have hB10 := hide (hB9.out.less (P' := []) (fun y hy => absurd hy List.not_mem_nil))
              clear hB9
              go_roundg (2 - (j + 1))
              case measure => omega
              case rel => exact ⟨j + 1, vals', nls', hjl, Nat.le_refl _, by go_num, by omega, hB10, hb09⟩
          · have hj2 : j = 2 := by omega
            subst hj2
            clear hB2 hsh hvl
            go_wp2_with fail
            refine (lives25 _).mono ?_
            rintro e w9 ⟨rfl, hb9⟩
            have hbF := hide (hb2.out.trans (hb9.mono hb2.out.size))
            clear hb2 hb9
            go_wp2
            go_ret
            exact ⟨rfl, hbF.out⟩
end Go.Proofs.Ytcjoohaagdihlaa.Watch
end
