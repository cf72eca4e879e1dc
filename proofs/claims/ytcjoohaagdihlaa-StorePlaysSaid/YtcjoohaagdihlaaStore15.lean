/- The document's Sorted and Norm of a cube: what they make is a row of the call's own. -/
import Derived.Test.YtcjoohaagdihlaaNorm3
import Derived.Test.YtcjoohaagdihlaaStore3
namespace Go.Proofs.Ytcjoohaagdihlaa.Sorted
open Go.RowKit Go.Lt Go.Proofs.Ytcjoohaagdihlaa.Lit
open Go.Proofs.Ytcjoohaagdihlaa.Kept (own_low)
set_option linter.unusedVariables false
set_option linter.unusedSimpArgs false

set_option maxHeartbeats 1000000 in
theorem ref_SortedO (A : Option Addr) (n c : Nat) (l : List Int) (w : World) (hn : n ≤ 1000) (hr : Rd w A n (ivs l)) :
    Calls Try.prog 90 #[.slice A n c] w fun e w' => ∃ A' n' c', e = .returned (.slice A' n' c') ∧ n' ≤ n ∧ Rd w' A' n' (ivs (srt l)) ∧ w'.ownsRow w.heap.size 3 1 (.slice A' n' c') n' (ivs (srt l)) ∧ Below w.heap.size w w' := by
  have hnI : (n : Int) ≤ 1000 := by omega
  have hl := hide hr.len
  have HN := hide hn
  clear hn
  go_enter Try.func90, Try.ntmps90
  go_wp2
  go_loopw [3, 4] (fun v i wr => ∃ (k m : Nat) (A2 : Option Addr) (c2 : Nat), k ≤ n ∧ m ≤ k ∧ i = .int .i64 k ∧ v = .slice A2 m c2 ∧ Rd wr A2 m (ivs (srt (l.take k))) ∧ Hid (wr.ownsRow w.heap.size 3 1 (.slice A2 m c2) m (ivs (srt (l.take k)))) ∧ Below w.heap.size w wr) (fun _ i _ => n - (intOf i).toNat)
  case atStart => exact ⟨0, 0, _, _, Nat.zero_le _, Nat.le_refl _, rfl, rfl, Rd.nil _ _, hide (World.ownsRow_lit w #[] 0 (Nat.le_refl _) (by unfold maxLen; omega) rfl), (Below.refl _ _).alloc (Nat.le_refl _) _⟩
  case round =>
    obtain ⟨k, m, A2, c2, hk, hmk, rfl, rfl, hr2, hO, hb⟩ := hrel
    have hmI : (m : Int) ≤ 1000 := by omega
    have hkl := hide (show wr.ownsRow w.heap.size 3 1 (.slice A2 m c2) m (ivs (srt (l.take k))) from hO.out)
    by_cases hlt : k < n
    · have hr1 := hr.below hb (Nat.le_refl _)
      obtain ⟨ad, x, rfl, hB, hx, hc⟩ := hr1.get hlt
      have HS := hide (srt_take hx)
      clear hx
      obtain ⟨out, hout⟩ : ∃ out, srt (l.take k) = out := ⟨_, rfl⟩
      rw [hout] at hr2 HS hO
      clear hout hkl
      cases hh : hasB out x
      · have HI := hide (show insO out x = out.filter (· < x) ++ x :: out.filter (x < ·) by
          unfold insO; rw [if_neg]; intro h; rw [has_iff.2 h] at hh; cases hh)
        have hh := hide hh
        go_wp2_with fail
        refine (ref_Has _ _ _ out _ _ (by have := HN.out; omega) hr2).mono ?_
        rintro e w1 ⟨rfl, rfl⟩
        rw [hh.out]
        obtain ⟨wo, rfl⟩ : ∃ wo : World, wo = wr := ⟨_, rfl⟩
        go_wp2
        go_loopw [5, 6] (fun v j wr => ∃ q m2 : Nat, q ≤ m ∧ m2 ≤ q ∧ j = .int .i64 q ∧ wr.ownsRow wo.heap.size 3 1 v m2 (ivs ([] ++ (out.take q).filter (· < x))) ∧ Below wo.heap.size wo wr) (fun _ j _ => m - (intOf j).toNat)
        case atStart => exact ⟨0, 0, Nat.zero_le _, Nat.le_refl _, rfl, World.ownsRow_lit wo #[] 0 (Nat.le_refl _) (by unfold maxLen; omega) rfl, (Below.refl _ _).alloc (Nat.le_refl _) _⟩
        case round =>
          obtain ⟨q, m2, hq, hm2, rfl, hown, hb2⟩ := hrel
          by_cases hltq : q < m
          · have hcx : wr.cell? (ad.add k) = some (.int .i64 x) := (hb2.cell (by rw [add_block]; exact hB)).trans hc
            obtain ⟨ad2, y, rfl, hB2, hy, hc2⟩ := (hr2.below hb2 (Nat.le_refl _)).get hltq
            by_cases hyx : y < x
            · have HF := hide (filt_yes (p := (· < x)) (pr := []) hy (by simpa using hyx))
              clear hy
              go_wp2
              go_quiet (fail)
              go_wp2_with (at_builtin; refine wpList_push rfl _ _ _ rfl Try.underlying40 info_i3 rfl (by decide) rfl rfl (((Dr.refl _).more _).own hown) (hb2.trans (((Dr.refl _).more _).below _)) (Nat.le_refl _) rfl (by simp [Value.oneCell']) (by have := HN.out; unfold maxLen; omega) (by have := HN.out; omega) ?_; intro v1 w3 hown1 hb3)
              go_roundw
              case rel => exact ⟨q + 1, m2 + 1, hltq, by omega, by go_num, by rw [HF.out]; exact hown1, hb3⟩
              case measure => simp [intOf]; omega
            · have HF := hide (filt_no (p := (· < x)) (pr := []) hy (by simpa using hyx))
              have hd : decide (y < x) = false := by simpa using hyx
              clear hy
              go_wp2
              go_quiet (fail)
              go_wp2
              go_roundw
              case rel => exact ⟨q + 1, m2, hltq, by omega, by go_num, by rw [HF.out]; exact ((Dr.refl _).more _).own hown, hb2.trans (((Dr.refl _).more _).below _)⟩
              case measure => simp [intOf]; omega
          · have hqm : m = q := by omega
            subst hqm
            have hfull : out.take m = out := by rw [← hr2.len, List.take_length]
            rw [hfull, List.nil_append] at hown
            clear hfull hltq
            have hcx : wr.cell? (ad.add k) = some (.int .i64 x) := (hb2.cell (by rw [add_block]; exact hB)).trans hc
            go_wp2_with (at_builtin; refine wpList_push rfl _ _ _ rfl Try.underlying40 info_i3 rfl (by decide) rfl rfl hown hb2 (Nat.le_refl _) rfl (by simp [Value.oneCell']) (by have := HN.out; unfold maxLen; omega) (by have := HN.out; omega) ?_; intro v1 w3 hown1 hb3)
            have hown1 : w3.ownsRow wo.heap.size 3 1 v1 (m2 + 1) (ivs ((out.filter (· < x) ++ [x]) ++ (out.take 0).filter (x < ·))) := by
              rw [show ivs ((out.filter (· < x) ++ [x]) ++ (out.take 0).filter (x < ·)) = ivs (out.filter (· < x)) ++ [.int .i64 x] by unfold ivs; simp]; exact hown1
            have hI2 := hide (show insO out x = (out.filter (· < x) ++ [x]) ++ out.filter (x < ·) by rw [HI.out, List.append_assoc]; rfl)
            clear HI hown hcx hb2
            generalize out.filter (· < x) ++ [x] = pr at *
            have hm2' := hide hm2
            go_loopw [5, 7] (fun v j wr => ∃ q m3 : Nat, q ≤ m ∧ m3 ≤ m2 + 1 + q ∧ j = .int .i64 q ∧ wr.ownsRow wo.heap.size 3 1 v m3 (ivs (pr ++ (out.take q).filter (x < ·))) ∧ Below wo.heap.size wo wr) (fun _ j _ => m - (intOf j).toNat)
            case atStart => exact ⟨0, m2 + 1, Nat.zero_le _, Nat.le_refl _, rfl, hown1, hb3⟩
            case round =>
              obtain ⟨q, m3, hq, hm3, rfl, hown, hb2⟩ := hrel
              by_cases hltq : q < m
              · have hcx : wr.cell? (ad.add k) = some (.int .i64 x) := (hb2.cell (by rw [add_block]; exact hB)).trans hc
                obtain ⟨ad2, y, rfl, hB2, hy, hc2⟩ := (hr2.below hb2 (Nat.le_refl _)).get hltq
                by_cases hyx : x < y
                · have HF := hide (filt_yes (p := (x < ·)) (pr := pr) hy (by simpa using hyx))
                  clear hy
                  go_wp2
                  go_quiet (fail)
                  go_wp2_with (at_builtin; refine wpList_push rfl _ _ _ rfl Try.underlying40 info_i3 rfl (by decide) rfl rfl (((Dr.refl _).more _).own hown) (hb2.trans (((Dr.refl _).more _).below _)) (Nat.le_refl _) rfl (by simp [Value.oneCell']) (by have := HN.out; have := hm2'.out; unfold maxLen; omega) (by have := HN.out; have := hm2'.out; omega) ?_; intro v1 w4 hown1 hb4)
                  go_roundw
                  case rel => exact ⟨q + 1, m3 + 1, hltq, by omega, by go_num, by rw [HF.out]; exact hown1, hb4⟩
                  case measure => simp [intOf]; omega
                · have HF := hide (filt_no (p := (x < ·)) (pr := pr) hy (by simpa using hyx))
                  have hd : decide (x < y) = false := by simpa using hyx
                  clear hy
                  go_wp2
                  go_quiet (fail)
                  go_wp2
                  go_roundw
                  case rel => exact ⟨q + 1, m3, hltq, by omega, by go_num, by rw [HF.out]; exact ((Dr.refl _).more _).own hown, hb2.trans (((Dr.refl _).more _).below _)⟩
                  case measure => simp [intOf]; omega
              · have hqm : m = q := by omega
                subst hqm
                have hfull : out.take m = out := by rw [← hr2.len, List.take_length]
                rw [hfull, ← hI2.out, ← HS.out] at hown
                clear hfull hltq
                obtain ⟨A3, c3, rfl, _, _, hr3⟩ := Rd.of_own hown
                have hO3 := hide (own_low hown hb.size)
                have hm3' := hide (show m3 ≤ k + 1 by have h1 := hr3.len; have h2 := srt_len (l.take (k + 1)); have h3 : (l.take (k + 1)).length ≤ k + 1 := List.length_take_le _ _; omega)
                clear hown hI2 HS
                go_wp2
                go_roundw
                case rel => exact ⟨k + 1, m3, A3, c3, hlt, hm3'.out, by go_num, rfl, hr3, hO3, hb.trans (hb2.mono hb.size)⟩
                case measure => simp [intOf]; omega
      · have HI := hide (show insO out x = out by unfold insO; rw [if_pos (has_iff.1 hh)])
        have hh := hide hh
        go_wp2_with fail
        refine (ref_Has _ _ _ out _ _ (by have := HN.out; omega) hr2).mono ?_
        rintro e w1 ⟨rfl, rfl⟩
        rw [hh.out]
        go_wp2
        go_roundw
        case rel => exact ⟨k + 1, m, A2, c2, hlt, by omega, by go_num, rfl, by rw [HS.out, HI.out]; exact hr2, by rw [HS.out, HI.out]; exact hO, hb⟩
        case measure => simp [intOf]; omega
    · have hkn : n = k := by omega
      subst hkn
      have hfull : l.take n = l := by rw [← hl.out, List.take_length]
      rw [hfull] at hr2 hO
      clear hkl
      go_wp2
      go_ret
      exact ⟨A2, m, c2, rfl, hmk, hr2, hO.out, hb⟩
def NormO (l : List Int) (w : World) (e : Ending) (w' : World) : Prop :=
  (normB l = true ∧ ∃ A n c, e = .returned (.tuple #[.slice A n c, .bool true]) ∧ n ≤ l.length ∧ Rd w' A n (ivs (srt l)) ∧ w'.ownsRow w.heap.size 3 1 (.slice A n c) n (ivs (srt l)) ∧ Below w.heap.size w w') ∨
  (normB l = false ∧ e = .returned (.tuple #[.slice none 0 0, .bool false]) ∧ Below w.heap.size w w')
set_option maxHeartbeats 1600000 in
theorem ref_NormO (A : Option Addr) (n c : Nat) (l : List Int) (w : World) (hn : n ≤ 1000) (hr : Rd w A n (ivs l)) :
    Calls Try.prog 42 #[.slice A n c] w (NormO l w) := by
  have hl := hide hr.len
  have HG := hide (fun h => norm_good (c := l) h)
  have HB := hide (fun i h h0 => norm_bad (c := l) (i := i) h h0)
  go_enter Try.func42, Try.ntmps42
  go_wp2_with fail
  refine (ref_SortedO _ _ _ l _ hn hr).mono ?_
  rintro e w1 ⟨A1, m, c1, rfl, hmn, hr1, hO, hb⟩
  replace hO := hide hO
  have hmI : (m : Int) ≤ 1000 := by omega
  have hmL := hide (show m ≤ l.length by have := hl.out; omega)
  obtain ⟨s, hs⟩ : ∃ s, srt l = s := ⟨_, rfl⟩
  rw [hs] at hr1 HG HB
  have HS := hide hs
  have hsl := hide hr1.len
  clear hs hl hmn hn hr
  go_wp2
  go_loopw [5] (fun i wr => ∃ k : Nat, k ≤ m ∧ i = .int .i64 k ∧ Dr w1 wr ∧ Hid (∀ j : Nat, j < k → ¬ BadAt s j)) (fun i _ => m - (intOf i).toNat)
  case atStart => exact ⟨0, Nat.zero_le _, rfl, Dr.refl _, fun j hj => absurd hj (Nat.not_lt_zero _)⟩
  case round =>
    obtain ⟨k, hk, rfl, hd, hno⟩ := hrel
    by_cases hlt : k < m
    · obtain ⟨ad, x, rfl, hB, hx, hc⟩ := (Dr.rd hd hr1).get hlt
      have hbad := hide (fun h : BadAt s k => HB.out k h (good_take hno.out))
      have hstep := hide (fun h : ¬ BadAt s k => (show ∀ j : Nat, j < k + 1 → ¬ BadAt s j from fun j hj => by
        by_cases h1 : j < k
        · exact hno.out j h1
        · have : j = k := by omega
          subst this; exact h))
      have hbb := hide (hb.trans ((hd.more 0).below w.heap.size))
      by_cases hx0 : x < 0
      · have hF := hide (hbad.out ⟨x, hx, .inl hx0⟩)
        have d0 : decide (x < 0) = true := by rw [decide_eq_true_iff]; exact hx0
        clear hx hx0
        go_wp2
        go_quiet (fail)
        go_wp2
        go_ret2
        exact .inr ⟨hF.out, rfl, hb.trans ((hd.more _).below _)⟩
      · obtain ⟨xn, rfl⟩ := Int.eq_ofNat_of_zero_le (show 0 ≤ x by omega)
        have d0 : decide ((xn : Int) < 0) = false := by rw [decide_eq_false_iff_not]; exact hx0
        clear hx0
        by_cases hx1 : 4001 < xn
        · have hF := hide (hbad.out ⟨xn, hx, .inr (.inl (by omega))⟩)
          have d1 : True → decide ((4001 : Int) < (xn : Int)) = true := fun _ => by rw [decide_eq_true_iff]; omega
          have d2 : True → decide (4001 < xn) = true := fun _ => by rw [decide_eq_true_iff]; omega
          clear hx hx1
          go_wp2
          go_quiet (fail)
          go_wp2
          go_ret2
          exact .inr ⟨hF.out, rfl, hb.trans ((hd.more _).below _)⟩
        · have d1 : True → decide ((4001 : Int) < (xn : Int)) = false := fun _ => by rw [decide_eq_false_iff_not]; omega
          have d2 : True → decide (4001 < xn) = false := fun _ => by rw [decide_eq_false_iff_not]; omega
          have hx1' := hide (show xn ≤ 4001 by omega)
          clear hx1
          by_cases hk0 : k = 0
          · have hN := hide (not_bad hx (by omega) (by have := hx1'.out; omega) (fun q y hq _ => by omega))
            have d3 : decide ((0 : Int) < (k : Int)) = false := by rw [decide_eq_false_iff_not]; omega
            have d4 : decide (0 < k) = false := by rw [decide_eq_false_iff_not]; omega
            clear hx hk0
            go_wp2
            go_quiet (fail)
            go_wp2
            go_roundw
            case rel => exact ⟨k + 1, hlt, by go_num, hd.more _, hstep.out hN.out⟩
            case measure => simp [intOf]; omega
          · obtain ⟨q, hq⟩ : ∃ q, k = q + 1 := ⟨k - 1, by omega⟩
            have hqm : q < m := by omega
            obtain ⟨ad', y, hA', hB', hy, hc'⟩ := (Dr.rd hd hr1).get hqm
            injection hA' with hA'
            subst hA'
            obtain ⟨hy0, hy1⟩ := good_get hno.out (show q < k by omega) hy
            obtain ⟨yn, rfl⟩ := Int.eq_ofNat_of_zero_le hy0
            have hi2 : IntKind.i64.wrap ((k : Int) - 1) = (q : Int) := by rw [show (k : Int) - 1 = q by omega]; exact IntWalk.i64_in _ (by omega)
            have d3 : decide ((0 : Int) < (k : Int)) = true := by rw [decide_eq_true_iff]; omega
            have d4 : decide (0 < k) = true := by rw [decide_eq_true_iff]; omega
            have t1 := tdiv_2 xn
            have t2 := tdiv_2 yn
            have w1' : IntKind.i64.wrap ((xn / 2 : Nat) : Int) = ((xn / 2 : Nat) : Int) := IntWalk.i64_in _ (by have := hx1'.out; omega)
            have w2' : IntKind.i64.wrap ((yn / 2 : Nat) : Int) = ((yn / 2 : Nat) : Int) := IntWalk.i64_in _ (by omega)
            by_cases he : xn / 2 = yn / 2
            · have hF := hide (hbad.out ⟨xn, hx, .inr (.inr ⟨q, yn, hq, hy, by omega⟩)⟩)
              have b1 : (((xn / 2 : Nat) : Int) == ((yn / 2 : Nat) : Int)) = true := by rw [he]; simp
              have b2 : ((xn / 2 : Nat) == (yn / 2 : Nat)) = true := by rw [he]; simp
              clear hx hy he hq hy0 hy1 hk0
              generalize xn / 2 = a at *
              generalize yn / 2 = b at *
              go_wp2
              go_quiet (fail)
              go_wp2
              go_ret2
              exact .inr ⟨hF.out, rfl, hb.trans ((hd.more _).below _)⟩
            · have hN := hide (not_bad hx (by omega) (by have := hx1'.out; omega) (fun q' y' hq' hy' => by
                have : q' = q := by omega
                subst this
                rw [hy] at hy'; injection hy' with hy'; subst hy'; omega))
              have b1 : (((xn / 2 : Nat) : Int) == ((yn / 2 : Nat) : Int)) = false := by rw [beq_eq_false_iff_ne]; omega
              have b2 : ((xn / 2 : Nat) == (yn / 2 : Nat)) = false := by rw [beq_eq_false_iff_ne]; omega
              clear hx hy he hq hy0 hy1 hk0
              generalize xn / 2 = a at *
              generalize yn / 2 = b at *
              go_wp2
              go_quiet (fail)
              go_wp2
              go_roundw
              case rel => exact ⟨k + 1, hlt, by go_num, hd.more _, hstep.out hN.out⟩
              case measure => simp [intOf]; omega
    · have hkm : m = k := by omega
      subst hkm
      have HF := hide (HG.out (fun i hi => hno.out i (by have := hsl.out; omega)))
      clear hno
      go_wp2
      go_ret2
      exact .inl ⟨HF.out, A1, m, c1, rfl, hmL.out, by rw [HS.out]; exact Dr.rd hd hr1, Dr.own hd hO.out, hb.trans (hd.below _)⟩
end Go.Proofs.Ytcjoohaagdihlaa.Sorted
