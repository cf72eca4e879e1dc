/- The contract of the document's Norm of a cube. -/
import Derived.Test.YtcjoohaagdihlaaNorm1
import Derived.Test.YtcjoohaagdihlaaSorted3
namespace Go.Proofs.Ytcjoohaagdihlaa.Sorted
open Go.RowKit Go.Lt Go.Proofs.Ytcjoohaagdihlaa.Lit
set_option linter.unusedVariables false
set_option linter.unusedSimpArgs false

def NormR (l : List Int) (w : World) (e : Ending) (w' : World) : Prop :=
  (normB l = true ∧ ∃ A n c, e = .returned (.tuple #[.slice A n c, .bool true]) ∧ n ≤ l.length ∧ Rd w' A n (ivs (srt l)) ∧ Below w.heap.size w w') ∨
  (normB l = false ∧ e = .returned (.tuple #[.slice none 0 0, .bool false]) ∧ Below w.heap.size w w')
theorem tdiv_2 (q : Nat) : (q : Int).tdiv 2 = ((q / 2 : Nat) : Int) := by
  rw [Int.tdiv_eq_ediv_of_nonneg (by omega)]; omega
theorem not_bad {s : List Int} {k : Nat} {x : Int} (hx : s[k]? = some x) (h0 : 0 ≤ x) (h1 : x ≤ 4001) (h : ∀ q y, k = q + 1 → s[q]? = some y → x / 2 ≠ y / 2) : ¬ BadAt s k := by
  rintro ⟨x', hx', h'⟩
  rw [hx] at hx'; injection hx' with hx'; subst hx'
  rcases h' with h' | h' | ⟨q, y, hq, hy, he⟩
  · omega
  · omega
  · exact h q y hq hy he
theorem good_get {s : List Int} {k q : Nat} {y : Int} (h : ∀ j : Nat, j < k → ¬ BadAt s j) (hq : q < k) (hy : s[q]? = some y) : 0 ≤ y ∧ y ≤ 4001 := by
  refine ⟨Int.not_lt.1 fun hc => h q hq ⟨y, hy, .inl hc⟩, Int.not_lt.1 fun hc => h q hq ⟨y, hy, .inr (.inl hc)⟩⟩
theorem good_take {s : List Int} {k : Nat} (h : ∀ j : Nat, j < k → ¬ BadAt s j) : ∀ y ∈ s.take k, inR y = true := by
  intro y hy
  obtain ⟨i, hi⟩ := List.getElem?_of_mem hy
  have hik : i < k := by
    have := (List.getElem?_eq_some_iff.1 hi).1
    rw [List.length_take] at this; omega
  rw [List.getElem?_take, if_pos hik] at hi
  exact inR_iff.2 (good_get h hik hi)

set_option maxHeartbeats 1600000 in
theorem ref_Norm (A : Option Addr) (n c : Nat) (l : List Int) (w : World) (hn : n ≤ 1000) (hr : Rd w A n (ivs l)) :
    Calls Try.prog 42 #[.slice A n c] w (NormR l w) := by
  have hl := hide hr.len
  have HG := hide (fun h => norm_good (c := l) h)
  have HB := hide (fun i h h0 => norm_bad (c := l) (i := i) h h0)
  go_enter Try.func42, Try.ntmps42
  go_wp2_with fail
  refine (ref_Sorted _ _ _ l _ hn hr).mono ?_
  rintro e w1 ⟨A1, m, c1, rfl, hmn, hr1, hb⟩
  have hmI : (m : Int) ≤ 1000 := by omega
  have hmL := hide (show m ≤ l.length by have := hl.out; omega)
  obtain ⟨s, hs⟩ : ∃ s, srt l = s := ⟨_, rfl⟩
  rw [hs] at hr1 HG HB
  have HS := hide hs
  have hsl := hide hr1.len
  clear hs hl hmn hn hr
  go_wp2
  go_loopw [5] (fun i wr => ∃ k : Nat, k ≤ m ∧ i = .int .i64 k ∧ Dr w1 wr ∧ Hid (∀ j : Nat, j < k → ¬ BadAt s j)) (fun i _ => m - (intOf i).toNat)
  case atStart => exact ⟨0, Nat.zero_le _, rfl, Dr.refl _, fun j hj => absurd hj (Nat.not_lt_zero _)⟩
  case round =>
    obtain ⟨k, hk, rfl, hd, hno⟩ := hrel
    by_cases hlt : k < m
    · obtain ⟨ad, x, rfl, hB, hx, hc⟩ := (Dr.rd hd hr1).get hlt
      have hbad := hide (fun h : BadAt s k => HB.out k h (good_take hno.out))
      have hstep := hide (fun h : ¬ BadAt s k => (show ∀ j : Nat, j < k + 1 → ¬ BadAt s j from fun j hj => by
        by_cases h1 : j < k
        · exact hno.out j h1
        · have : j = k := by omega
          subst this; exact h))
      have hbb := hide (hb.trans ((hd.more 0).below w.heap.size))
      by_cases hx0 : x < 0
      · have hF := hide (hbad.out ⟨x, hx, .inl hx0⟩)
        have d0 : decide (x < 0) = true := by rw [decide_eq_true_iff]; exact hx0
        clear hx hx0
        go_wp2
        go_quiet (fail)
        go_wp2
        go_ret2
        exact .inr ⟨hF.out, rfl, hb.trans ((hd.more _).below _)⟩
      · obtain ⟨xn, rfl⟩ := Int.eq_ofNat_of_zero_le (show 0 ≤ x by omega)
        have d0 : decide ((xn : Int) < 0) = false := by rw [decide_eq_false_iff_not]; exact hx0
        clear hx0
        by_cases hx1 : 4001 < xn
        · have hF := hide (hbad.out ⟨xn, hx, .inr (.inl (by omega))⟩)
          have d1 : True → decide ((4001 : Int) < (xn : Int)) = true := fun _ => by rw [decide_eq_true_iff]; omega
          have d2 : True → decide (4001 < xn) = true := fun _ => by rw [decide_eq_true_iff]; omega
          clear hx hx1
          go_wp2
          go_quiet (fail)
          go_wp2
          go_ret2
          exact .inr ⟨hF.out, rfl, hb.trans ((hd.more _).below _)⟩
        · have d1 : True → decide ((4001 : Int) < (xn : Int)) = false := fun _ => by rw [decide_eq_false_iff_not]; omega
          have d2 : True → decide (4001 < xn) = false := fun _ => by rw [decide_eq_false_iff_not]; omega
          have hx1' := hide (show xn ≤ 4001 by omega)
          clear hx1
          by_cases hk0 : k = 0
          · have hN := hide (not_bad hx (by omega) (by have := hx1'.out; omega) (fun q y hq _ => by omega))
            have d3 : decide ((0 : Int) < (k : Int)) = false := by rw [decide_eq_false_iff_not]; omega
            have d4 : decide (0 < k) = false := by rw [decide_eq_false_iff_not]; omega
            clear hx hk0
            go_wp2
            go_quiet (fail)
            go_wp2
            go_roundw
            case rel => exact ⟨k + 1, hlt, by go_num, hd.more _, hstep.out hN.out⟩
            case measure => simp [intOf]; omega
          · obtain ⟨q, hq⟩ : ∃ q, k = q + 1 := ⟨k - 1, by omega⟩
            have hqm : q < m := by omega
            obtain ⟨ad', y, hA', hB', hy, hc'⟩ := (Dr.rd hd hr1).get hqm
            injection hA' with hA'
            subst hA'
            obtain ⟨hy0, hy1⟩ := good_get hno.out (show q < k by omega) hy
            obtain ⟨yn, rfl⟩ := Int.eq_ofNat_of_zero_le hy0
            have hi2 : IntKind.i64.wrap ((k : Int) - 1) = (q : Int) := by rw [show (k : Int) - 1 = q by omega]; exact IntWalk.i64_in _ (by omega)
            have d3 : decide ((0 : Int) < (k : Int)) = true := by rw [decide_eq_true_iff]; omega
            have d4 : decide (0 < k) = true := by rw [decide_eq_true_iff]; omega
            have t1 := tdiv_2 xn
            have t2 := tdiv_2 yn
            have w1' : IntKind.i64.wrap ((xn / 2 : Nat) : Int) = ((xn / 2 : Nat) : Int) := IntWalk.i64_in _ (by have := hx1'.out; omega)
            have w2' : IntKind.i64.wrap ((yn / 2 : Nat) : Int) = ((yn / 2 : Nat) : Int) := IntWalk.i64_in _ (by omega)
            by_cases he : xn / 2 = yn / 2
            · have hF := hide (hbad.out ⟨xn, hx, .inr (.inr ⟨q, yn, hq, hy, by omega⟩)⟩)
              have b1 : (((xn / 2 : Nat) : Int) == ((yn / 2 : Nat) : Int)) = true := by rw [he]; simp
              have b2 : ((xn / 2 : Nat) == (yn / 2 : Nat)) = true := by rw [he]; simp
              clear hx hy he hq hy0 hy1 hk0
              generalize xn / 2 = a at *
              generalize yn / 2 = b at *
              go_wp2
              go_quiet (fail)
              go_wp2
              go_ret2
              exact .inr ⟨hF.out, rfl, hb.trans ((hd.more _).below _)⟩
            · have hN := hide (not_bad hx (by omega) (by have := hx1'.out; omega) (fun q' y' hq' hy' => by
                have : q' = q := by omega
                subst this
                rw [hy] at hy'; injection hy' with hy'; subst hy'; omega))
              have b1 : (((xn / 2 : Nat) : Int) == ((yn / 2 : Nat) : Int)) = false := by rw [beq_eq_false_iff_ne]; omega
              have b2 : ((xn / 2 : Nat) == (yn / 2 : Nat)) = false := by rw [beq_eq_false_iff_ne]; omega
              clear hx hy he hq hy0 hy1 hk0
              generalize xn / 2 = a at *
              generalize yn / 2 = b at *
              go_wp2
              go_quiet (fail)
              go_wp2
              go_roundw
              case rel => exact ⟨k + 1, hlt, by go_num, hd.more _, hstep.out hN.out⟩
              case measure => simp [intOf]; omega
    · have hkm : m = k := by omega
      subst hkm
      have HF := hide (HG.out (fun i hi => hno.out i (by have := hsl.out; omega)))
      clear hno
      go_wp2
      go_ret2
      exact .inl ⟨HF.out, A1, m, c1, rfl, hmL.out, by rw [HS.out]; exact Dr.rd hd hr1, hb.trans (hd.below _)⟩
end Go.Proofs.Ytcjoohaagdihlaa.Sorted
