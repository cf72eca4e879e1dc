/- Contracts of the functions on scores, the fourth part: the document's place of the last one in order. -/
import Derived.Test.YtcjoohaagdihlaaScore3
namespace Go.Proofs.Ytcjoohaagdihlaa.Score
open Go.RowKit Go.Lt
set_option linter.unusedVariables false

theorem Most19 (A : Option Addr) (n c : Nat) (bs : List Nat) (w : World) (hn : n ≤ 300) (h64 : All64 bs) (hr : Rd w A n (bs.map fun (b : Nat) => Value.int .u64 b)) :
    Calls Try.prog 19 #[.slice A n c] w fun e w' => e = .returned (.int .i64 (best bs n)) ∧ Dr w w' := by
  go_enter Try.func19, Try.ntmps19
  go_wp2
  go_loopw [3, 4] (fun t i wr => ∃ k : Nat, k ≤ n ∧ i = .int .i64 k ∧ t = .int .i64 (best bs k) ∧ Dr w wr) (fun _ i _ => n - (intOf i).toNat)
  case atStart => exact ⟨0, Nat.zero_le _, rfl, rfl, Dr.refl _⟩
  case round =>
    obtain ⟨k, hk, rfl, rfl, hd⟩ := hrel
    have hr1 := hd.rd hr
    by_cases hlt : k < n
    · obtain ⟨ad, x, rfl, hB, hx, hc⟩ := hr1.get hlt
      rcases best_cases bs k with hbk | ⟨j, hj, hbk⟩
      · have HN := hide (best_none hbk)
        rw [hbk]
        clear hbk hx
        go_wp2
        go_quiet (fail)
        go_wp2
        go_roundw
        case rel => exact ⟨k + 1, hlt, by go_num, by rw [HN.out], hd.more _⟩
        case measure => simp [intOf]; omega
      · obtain ⟨ad', y, hA, hB', hy, hc'⟩ := hr1.get (show j < n by omega)
        injection hA with hA
        subst hA
        have H1 := fun hl => best_yes hbk hy hx hl
        have H2 := fun hl => best_no hbk hy hx hl
        have hx64 := h64.get hx
        have hy64 := h64.get hy
        rw [hbk]
        have hnn : decide ((j : Int) < 0) = false := by simp
        have hjl : (j : Int) < n := by omega
        by_cases hl : key y < key x
        · have HN := hide (H1 hl)
          have hdl := decide_eq_true hl
          clear hbk hx hy H1 H2 hl
          go_wp2
          go_quiet ((go_at_call 15; exact quiet_eq (Key15 _ (by first | exact hx64 | exact hy64) _)))
          go_wp2
          go_roundw
          case rel => exact ⟨k + 1, hlt, by go_num, by rw [HN.out], hd.more _⟩
          case measure => simp [intOf]; omega
        · have HN := hide (H2 hl)
          have hdl := decide_eq_false hl
          clear hbk hx hy H1 H2 hl
          go_wp2
          go_quiet ((go_at_call 15; exact quiet_eq (Key15 _ (by first | exact hx64 | exact hy64) _)))
          go_wp2
          go_roundw
          case rel => exact ⟨k + 1, hlt, by go_num, by rw [HN.out], hd.more _⟩
          case measure => simp [intOf]; omega
    · have hkn : k = n := by omega
      subst hkn
      go_wp2
      go_ret
      exact ⟨rfl, hd⟩
end Go.Proofs.Ytcjoohaagdihlaa.Score
