/- Contracts on whether a net is good and small, and its outs its own. -/
import Derived.Test.YtcjoohaagdihlaaDoorFault6
import Derived.BigQuiet
namespace Go.Proofs.YtcjoohaagdihlaaDoor.Fault
open Go.RowKit Go.Lt Go.Proofs.YtcjoohaagdihlaaDoor.Lit Go.Instr
set_option linter.unusedVariables false
set_option linter.unusedSimpArgs false

def OkNd (i : Nat) (x : Nd) : Prop := 0 ≤ x.A → x.A ≤ 2 * (i : Int) + 1 ∧ 0 ≤ x.B ∧ x.B ≤ 2 * (i : Int) + 1
def GoodTo (l : List Nd) (k : Nat) : Prop := ∀ i x, i < k → l[i]? = some x → OkNd i x
theorem goodTo_succ {l : List Nd} {k : Nat} {x : Nd} (h : GoodTo l k) (hx : l[k]? = some x) (ho : OkNd k x) : GoodTo l (k + 1) := by
  intro i y hi hy
  by_cases hik : i = k
  · subst hik; rw [hx] at hy; injection hy with hy; subst hy; exact ho
  · exact h i y (by omega) hy
theorem goodTo_all {l : List Nd} (h : GoodTo l l.length) : GoodNet l := fun i x hx => h i x (List.getElem?_eq_some_iff.1 hx).1 hx
def CheckIs (l : List Nd) (w : World) (e : Ending) (w' : World) : Prop := ∃ r : Int, e = .returned (.int .i64 r) ∧ Dr w w' ∧ (r = 0 ↔ GoodNet l)
theorem check_bad {l : List Nd} {k : Nat} {x : Nd} (hx : l[k]? = some x) (h : ¬ OkNd k x) {w w' : World} (hd : Dr w w') : CheckIs l w (.returned (.int .i64 5)) w' :=
  ⟨5, rfl, hd, fun h5 => by omega, fun hg => absurd (hg k x hx) h⟩
set_option maxHeartbeats 2000000 in
theorem ref_Check (A : Option Addr) (n c : Nat) (l : List Nd) (w : World) (hn : n ≤ 1000) (hr : RdN w A n l) :
    Calls Tryd.prog 42 #[.slice A n c] w (CheckIs l w) := by
  have hnI : (n : Int) ≤ 1000 := by omega
  have hl := hide hr.1
  go_enter Tryd.func42, Tryd.ntmps42
  go_wp2
  go_loopw [3] (fun i wr => ∃ k : Nat, k ≤ n ∧ i = .int .i64 k ∧ Dr w wr ∧ Hid (GoodTo l k)) (fun i _ => n - (intOf i).toNat)
  case atStart => exact ⟨0, Nat.zero_le _, rfl, Dr.refl _, hide fun i x h => absurd h (Nat.not_lt_zero _)⟩
  case round =>
    obtain ⟨k, hk, rfl, hd, hg⟩ := hrel
    have hkI : (k : Int) ≤ 1000 := by omega
    by_cases hlt : k < n
    · obtain ⟨ad, x, rfl, hB, hx, hc, hc2, _, _⟩ := (hr.below (hd.below w.heap.size) (Nat.le_refl _)).get hlt
      have hx := hide hx
      have HB := hide (fun h w' hd' => @check_bad l k x hx.out h w w' hd')
      have HG := hide (fun h => goodTo_succ hg.out hx.out h)
      obtain ⟨a, b⟩ := x
      simp only at hc hc2
      by_cases ha : a < 0
      · have dA : decide (0 ≤ a) = false := by rw [decide_eq_false_iff_not]; omega
        have hok := hide (HG.out (by intro h; simp only at h; omega))
        go_wp2
        go_roundw
        case rel => exact ⟨k + 1, hlt, by go_num, hd, hok⟩
        case measure => simp [intOf]; omega
      · have dA : decide (0 ≤ a) = true := by rw [decide_eq_true_iff]; omega
        by_cases h1 : a ≤ 2 * (k : Int) + 1
        · have d1 : decide (2 * (k : Int) + 1 < a) = false := by rw [decide_eq_false_iff_not]; omega
          by_cases h2 : b < 0
          · have d2 : decide (b < 0) = true := by rw [decide_eq_true_iff]; omega
            have hbad := hide (HB.out (by unfold OkNd; simp only; omega))
            go_wp2
            go_ret
            exact hbad.out _ (hd)
          · have d2 : decide (b < 0) = false := by rw [decide_eq_false_iff_not]; omega
            by_cases h3 : b ≤ 2 * (k : Int) + 1
            · have d3 : decide (2 * (k : Int) + 1 < b) = false := by rw [decide_eq_false_iff_not]; omega
              have hok := hide (HG.out (by intro h; simp only; omega))
              go_wp2
              go_roundw
              case rel => exact ⟨k + 1, hlt, by go_num, hd, hok⟩
              case measure => simp [intOf]; omega
            · have d3 : decide (2 * (k : Int) + 1 < b) = true := by rw [decide_eq_true_iff]; omega
              have hbad := hide (HB.out (by unfold OkNd; simp only; omega))
              go_wp2
              go_ret
              exact hbad.out _ (hd)
        · have d1 : decide (2 * (k : Int) + 1 < a) = true := by rw [decide_eq_true_iff]; omega
          have hbad := hide (HB.out (by unfold OkNd; simp only; omega))
          go_wp2
          go_ret
          exact hbad.out _ (hd)
    · have hkn : k = n := by omega
      subst hkn
      go_wp2
      go_ret
      exact ⟨0, rfl, hd, fun _ => goodTo_all (by rw [hl.out]; exact hg.out), fun _ => rfl⟩
def OutsTo (l : List Nd) (outs : List Int) (k : Nat) : Prop := ∀ x ∈ outs.take k, 0 ≤ x ∧ x ≤ 2 * (l.length : Int) + 1
def KnownIs (l : List Nd) (outs : List Int) (w : World) (e : Ending) (w' : World) : Prop := ∃ b : Bool, e = .returned (.bool b) ∧ Dr w w' ∧ (b = true → GoodOuts l outs)
theorem known_no {l : List Nd} {outs : List Int} {w w' : World} (hd : Dr w w') : KnownIs l outs w (.returned (.bool false)) w' := ⟨false, rfl, hd, fun h => by cases h⟩
theorem known_yes {l : List Nd} {outs : List Int} {w w' : World} (hd : Dr w w') (h : GoodOuts l outs) : KnownIs l outs w (.returned (.bool true)) w' := ⟨true, rfl, hd, fun _ => h⟩
def SmallIs (n : Nat) (most : Int) (l : List Nd) (w : World) (e : Ending) (w' : World) : Prop := ∃ b : Bool, e = .returned (.bool b) ∧ Dr w w' ∧ (b = true → (n : Int) ≤ most ∧ GoodNet l)
theorem small_no {n : Nat} {most : Int} {l : List Nd} {w w' : World} (hd : Dr w w') : SmallIs n most l w (.returned (.bool false)) w' := ⟨false, rfl, hd, fun h => by cases h⟩
theorem small_yes {n : Nat} {most : Int} {l : List Nd} {w w' : World} (hd : Dr w w') (h : (n : Int) ≤ most ∧ GoodNet l) : SmallIs n most l w (.returned (.bool true)) w' := ⟨true, rfl, hd, fun _ => h⟩
def LSmallIs (n m : Nat) (most : Int) (l : List Nd) (outs : List Int) (w : World) (e : Ending) (w' : World) : Prop := ∃ b : Bool, e = .returned (.bool b) ∧ Dr w w' ∧ (b = true → (n : Int) ≤ most ∧ GoodNet l ∧ m ≤ 20 ∧ GoodOuts l outs)
theorem lsmall_no {n m : Nat} {most : Int} {l : List Nd} {outs : List Int} {w w' : World} (hd : Dr w w') : LSmallIs n m most l outs w (.returned (.bool false)) w' := ⟨false, rfl, hd, fun h => by cases h⟩
theorem lsmall_yes {n m : Nat} {most : Int} {l : List Nd} {outs : List Int} {w w' : World} (hd : Dr w w') (h : (n : Int) ≤ most ∧ GoodNet l ∧ m ≤ 20 ∧ GoodOuts l outs) : LSmallIs n m most l outs w (.returned (.bool true)) w' := ⟨true, rfl, hd, fun _ => h⟩
set_option maxHeartbeats 2000000 in
theorem ref_Known (A C : Option Addr) (n m c cc : Nat) (l : List Nd) (outs : List Int) (w : World) (hn : n ≤ 1000) (hm : m ≤ 1000) (hr : RdN w A n l) (hro : Rd w C m (ivs outs)) :
    Calls Tryd.prog 89 #[.slice A n c, .slice C m cc] w (KnownIs l outs w) := by
  have hnI : (n : Int) ≤ 1000 := by omega
  have hmI : (m : Int) ≤ 1000 := by omega
  have hl := hide hr.1
  have hlo := hide hro.len
  go_enter Tryd.func89, Tryd.ntmps89
  go_wp2
  go_loopw [5] (fun i wr => ∃ k : Nat, k ≤ m ∧ i = .int .i64 k ∧ Dr w wr ∧ Hid (OutsTo l outs k)) (fun i _ => m - (intOf i).toNat)
  case atStart => exact ⟨0, Nat.zero_le _, rfl, Dr.refl _, hide fun x h => by simp at h⟩
  case round =>
    obtain ⟨k, hk, rfl, hd, hg⟩ := hrel
    have hkI : (k : Int) ≤ 1000 := by omega
    by_cases hlt : k < m
    · obtain ⟨ad, y, rfl, hB, hy, hc⟩ := (hro.below (hd.below w.heap.size) (Nat.le_refl _)).get hlt
      have HG := hide (fun (h : 0 ≤ y ∧ y ≤ 2 * (n : Int) + 1) => show OutsTo l outs (k + 1) by
        intro x hx
        rw [List.take_add_one, hy] at hx
        rcases List.mem_append.1 hx with hx | hx
        · exact hg.out x hx
        · simp at hx; subst hx; rw [hl.out]; exact h)
      clear hy
      by_cases h1 : y < 0
      · have d1 : decide (y < 0) = true := by rw [decide_eq_true_iff]; omega
        go_wp2
        go_ret
        exact known_no hd
      · have d1 : decide (y < 0) = false := by rw [decide_eq_false_iff_not]; omega
        by_cases h2 : y ≤ 2 * (n : Int) + 1
        · have d2 : decide (2 * (n : Int) + 1 < y) = false := by rw [decide_eq_false_iff_not]; omega
          have hok := hide (HG.out ⟨by omega, h2⟩)
          go_wp2
          go_roundw
          case rel => exact ⟨k + 1, hlt, by go_num, hd, hok⟩
          case measure => simp [intOf]; omega
        · have d2 : decide (2 * (n : Int) + 1 < y) = true := by rw [decide_eq_true_iff]; omega
          go_wp2
          go_ret
          exact known_no hd
    · have hkm : k = m := by omega
      subst hkm
      go_wp2
      go_ret
      refine known_yes hd (fun x hx => hg.out x ?_)
      rw [List.take_of_length_le (by rw [hlo.out]; exact Nat.le_refl _)]
      exact hx
theorem nets_Small (A : Option Addr) (n c : Nat) (most : Int) (l : List Nd) (w : World) (hm : most ≤ 1000) (hr : RdN w A n l) (hn0 : n ≤ maxLen) :
    Calls Tryd.prog 88 #[.slice A n c, .int .i64 most] w (SmallIs n most l w) := by
  have HM := hide hm
  by_cases h : (n : Int) ≤ most
  · have d1 : decide ((n : Int) ≤ most) = true := by rw [decide_eq_true_iff]; exact h
    have HC := hide (ref_Check A n c l w (by omega) hr)
    clear hm
    go_enter Tryd.func88, Tryd.ntmps88
    go_wp2_with fail
    refine HC.out.mono ?_
    rintro e w1 ⟨r, rfl, hd, hg⟩
    by_cases hr0 : r = 0
    · have hgood := hide (hg.1 hr0)
      subst hr0
      clear hg
      go_wp2
      go_ret
      exact small_yes hd ⟨h, hgood.out⟩
    · have e1 : (r == 0) = false := by simpa using hr0
      clear hg
      go_wp2
      go_ret
      exact small_no hd
  · have d1 : decide ((n : Int) ≤ most) = false := by rw [decide_eq_false_iff_not]; exact h
    go_enter Tryd.func88, Tryd.ntmps88
    go_wp2
    go_ret
    exact small_no (Dr.refl _)
theorem law_Small (A C : Option Addr) (n m c cc : Nat) (most : Int) (l : List Nd) (outs : List Int) (w : World) (hm : most ≤ 1000) (hn0 : n ≤ maxLen) (hm0 : m ≤ maxLen) (hr : RdN w A n l) (hro : Rd w C m (ivs outs)) :
    Calls Tryd.prog 29 #[.slice A n c, .slice C m cc, .int .i64 most] w (LSmallIs n m most l outs w) := by
  have HS := hide (nets_Small A n c most l w hm hr hn0)
  go_enter Tryd.func29, Tryd.ntmps29
  go_wp2_with fail
  refine HS.out.mono ?_
  rintro e w1 ⟨b, rfl, hd, hb⟩
  cases b
  · clear hb
    go_wp2
    go_ret
    exact lsmall_no hd
  · obtain ⟨h1, h2⟩ := hb rfl
    have h2 := hide h2
    clear hb
    by_cases h3 : m ≤ 20
    · have d1 : decide ((m : Int) ≤ 20) = true := by rw [decide_eq_true_iff]; omega
      have HK := hide (ref_Known A C n m c cc l outs w1 (by omega) (by omega) (hr.below (hd.below w.heap.size) (Nat.le_refl _)) (hro.below (hd.below w.heap.size) (Nat.le_refl _)))
      go_wp2_with fail
      refine HK.out.mono ?_
      rintro e w2 ⟨b, rfl, hd2, hb⟩
      cases b
      · clear hb
        go_wp2
        go_ret
        exact lsmall_no (hd.trans hd2)
      · have hbk := hide (hb rfl)
        clear hb
        go_wp2
        go_ret
        exact lsmall_yes (hd.trans hd2) ⟨h1, h2.out, h3, hbk.out⟩
    · have d1 : decide ((m : Int) ≤ 20) = false := by rw [decide_eq_false_iff_not]; omega
      go_wp2
      go_ret
      exact lsmall_no hd
end Go.Proofs.YtcjoohaagdihlaaDoor.Fault
