/- The contract of the program's lit.Tied. -/
import Derived.Test.YtcjoohaagdihlaaNorm1
import Derived.Test.YtcjoohaagdihlaaSorted2
namespace Go.Proofs.Ytcjoohaagdihlaa.Sorted
open Go.RowKit Go.Lt Go.Proofs.Ytcjoohaagdihlaa.Lit
set_option linter.unusedVariables false
set_option linter.unusedSimpArgs false

theorem adj_no {s : List Int} {q : Nat} {y x : Int} (hy : s[q]? = some y) (hx : s[q + 1]? = some x) (h : litNeg x = true → y ≠ x - 1) : ¬ Adj s q := by
  rintro ⟨y', x', hy', hx', hn, he⟩
  rw [hy] at hy'; rw [hx] at hx'
  injection hy' with hy'; injection hx' with hx'
  subst hy' hx'
  exact h hn he

theorem neg_is {x : Int} {b : Bool} (h : litNeg x = b) : ∀ W : World, Calls Try.prog 153 #[.int .i64 x] W fun e w' => e = .returned (.bool b) ∧ W = w' := by
  subst h; exact lit_Neg x
set_option maxHeartbeats 800000 in
theorem lit_Tied0 (A : Option Addr) (n c : Nat) (l : List Int) (w : World) (hn : n ≤ 1000000) (hr : Rd w A n (ivs l)) :
    Calls Try.prog 133 #[.slice A n c] w fun e w' => e = .returned (.bool (tiedB (srt l))) ∧ Below w.heap.size w w' := by
  have hl := hide hr.len
  have HR := hide (srt_rise l)
  have HL := hide (srt_len l)
  go_enter Try.func133, Try.ntmps133
  go_wp2_with fail
  refine (lit_Sorted _ _ _ l _ hn hr).mono ?_
  rintro e w1 ⟨v, rfl, hown, hb⟩
  obtain ⟨A1, c1, rfl, _, _, hr1⟩ := Rd.of_own hown
  clear hown
  have hm : (srt l).length ≤ 1000000 := by have := HL.out; have := hl.out; omega
  have hmI : ((srt l).length : Int) ≤ 1000000 := by omega
  clear HL hl hr hn
  obtain ⟨s, hs⟩ : ∃ s, srt l = s := ⟨_, rfl⟩
  rw [hs] at hm hmI hr1 HR
  rw [hs]
  have HS := hide hs
  clear hs
  have hm' : s.length = (ivs s).length := by simp [ivs]
  obtain ⟨m, hms⟩ : ∃ m, s.length = m := ⟨_, rfl⟩
  rw [hms] at hm hmI hr1
  rw [hms]
  have hms' := hide hms
  clear hm' hms
  go_wp2
  go_loopw [4] (fun i wr => ∃ k q : Nat, Hid (k = q + 1) ∧ (q < m ∨ q = 0) ∧ i = .int .i64 k ∧ Dr w1 wr ∧ Hid (∀ j : Nat, j < q → ¬ Adj s j)) (fun i _ => m + 1 - (intOf i).toNat)
  case atStart => exact ⟨1, 0, rfl, .inr rfl, rfl, Dr.refl _, fun j hj => absurd hj (Nat.not_lt_zero _)⟩
  case round =>
    obtain ⟨k, q, hkq, hq, rfl, hd, hno⟩ := hrel
    have hqI : (q : Int) ≤ 1000000 := by omega
    have hkI : (k : Int) ≤ 1000001 := by have := hkq.out; omega
    by_cases hlt : k < m
    · obtain ⟨ad, x, rfl, hB, hx, hc⟩ := (Dr.rd hd hr1).get hlt
      obtain ⟨ad', y, hA', hB', hy, hc'⟩ := (Dr.rd hd hr1).get (show q < m by have := hkq.out; omega)
      injection hA' with hA'
      subst hA'
      have hi2 : IntKind.i64.wrap ((k : Int) - 1) = (q : Int) := by rw [show (k : Int) - 1 = q by have := hkq.out; omega]; exact IntWalk.i64_in _ (by omega)
      have hi3 : q < m := by have := hkq.out; omega
      have hx : s[q + 1]? = some x := by rw [← hkq.out]; exact hx
      have hstep := hide (fun h : ¬ Adj s q => (show ∀ j : Nat, j < q + 1 → ¬ Adj s j from fun j hj => by
        by_cases h1 : j < q
        · exact hno.out j h1
        · have : j = q := by omega
          subst this; exact h))
      cases hneg : litNeg x
      · have hN := hide (adj_no hy hx (fun h => by rw [hneg] at h; cases h))
        have hneg' := hide (neg_is hneg)
        clear hx hy hneg
        have hneg := hneg'
        clear hneg'
        go_wp2
        go_quiet ((go_at_call 153; exact quiet_eq (hneg.out _)))
        go_wp2
        go_roundw
        case rel => exact ⟨k + 1, k, rfl, .inl hlt, by go_num, hd.more _, by rw [hkq.out]; exact hstep.out hN.out⟩
        case measure => simp [intOf]; omega
      · obtain ⟨⟨hx0, hx1⟩, hx2⟩ := neg_iff.1 hneg
        have hi4 : IntKind.i64.wrap (x - 1) = x - 1 := IntWalk.i64_in _ (by omega)
        by_cases he : y = x - 1
        · have hY := hide (adj_tied ⟨y, x, hy, hx, hneg, he⟩)
          have hneg' := hide (neg_is hneg)
          clear hneg
          have hneg := hneg'
          clear hneg'
          have hb1 : (y == x - 1) = true := by simp [he]
          clear hx hy he hx2 hx0 hx1
          go_wp2
          go_quiet ((go_at_call 153; exact quiet_eq (hneg.out _)))
          go_wp2
          go_ret
          exact ⟨ret_bool (hY.out.symm.trans (by rw [HS.out])), hb.trans ((hd.more _).below _)⟩
        · have hN := hide (adj_no hy hx (fun _ => he))
          have hneg' := hide (neg_is hneg)
          clear hneg
          have hneg := hneg'
          clear hneg'
          have hb1 : (y == x - 1) = false := by simp [he]
          clear hx hy he hx2 hx0 hx1
          go_wp2
          go_quiet ((go_at_call 153; exact quiet_eq (hneg.out _)))
          go_wp2
          go_roundw
          case rel => exact ⟨k + 1, k, rfl, .inl hlt, by go_num, hd.more _, by rw [hkq.out]; exact hstep.out hN.out⟩
          case measure => simp [intOf]; omega
    · have HF := hide (tied_no HR.out (fun j hj => hno.out j (by have := hms'.out; have := hkq.out; omega)))
      clear hno
      go_wp2
      go_ret
      exact ⟨ret_bool (HF.out.symm.trans (by rw [HS.out])), hb.trans (hd.below _)⟩
theorem lit_Tied (A : Option Addr) (n c : Nat) (l : List Int) (w : World) (hn : n ≤ 1000000) (hr : Rd w A n (ivs l)) :
    Calls Try.prog 133 #[.slice A n c] w fun e w' => e = .returned (.bool (tiedB l)) ∧ Below w.heap.size w w' :=
  (lit_Tied0 A n c l w hn hr).mono fun e w' ⟨he, hb⟩ => ⟨he.trans (by rw [tiedB_srt]), hb⟩
end Go.Proofs.Ytcjoohaagdihlaa.Sorted
