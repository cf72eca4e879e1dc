/- Contracts of the functions on scores, the third part: the place of the last one in order. -/
import Derived.Test.YtcjoohaagdihlaaScore2
namespace Go.Proofs.Ytcjoohaagdihlaa.Score
open Go.RowKit Go.Lt
set_option linter.unusedVariables false

theorem best_cases (bs : List Nat) (k : Nat) : best bs k = -1 ∨ ∃ j : Nat, j < k ∧ best bs k = (j : Int) := by
  have := best_lo bs k
  by_cases h : best bs k < 0
  · exact .inl (by omega)
  · exact .inr ⟨(best bs k).toNat, by omega, by omega⟩
theorem best_none {bs : List Nat} {k : Nat} (h : best bs k = -1) : best bs (k + 1) = k := by simp [best, h]
theorem best_yes {bs : List Nat} {k j x y : Nat} (h : best bs k = (j : Int)) (hx : bs[j]? = some x) (hy : bs[k]? = some y) (hl : key x < key y) : best bs (k + 1) = k := by
  have e : ¬ (j : Int) < 0 := by omega
  simp [best, h, hx, hy, e, hl]
theorem best_no {bs : List Nat} {k j x y : Nat} (h : best bs k = (j : Int)) (hx : bs[j]? = some x) (hy : bs[k]? = some y) (hl : ¬ key x < key y) : best bs (k + 1) = (j : Int) := by
  have e : ¬ (j : Int) < 0 := by omega
  simp [best, h, hx, hy, e, hl]

def All64 (bs : List Nat) : Prop := ∀ b ∈ bs, b < 2 ^ 64
theorem All64.get {bs : List Nat} (h : All64 bs) {k x : Nat} (hx : bs[k]? = some x) : Hid (x < 2 ^ 64) := h x (List.mem_of_getElem? hx)

theorem Most17 (A : Option Addr) (n c : Nat) (bs : List Nat) (w : World) (hn : n ≤ 300) (h64 : All64 bs) (hr : Rd w A n (bs.map (Value.float .f64))) :
    Calls Try.prog 17 #[.slice A n c] w fun e w' => e = .returned (.int .i64 (best bs n)) ∧ w = w' := by
  go_enter Try.func17, Try.ntmps17
  go_wp2
  go_loop [3, 8] (fun t i => ∃ k : Nat, k ≤ n ∧ i = .int .i64 k ∧ t = .int .i64 (best bs k)) (fun _ i => n - (intOf i).toNat)
  case atStart => exact ⟨0, Nat.zero_le _, rfl, rfl⟩
  case round =>
    obtain ⟨k, hk, rfl, rfl⟩ := hrel
    by_cases hlt : k < n
    · obtain ⟨ad, x, rfl, hB, hx, hc⟩ := hr.get hlt
      rcases best_cases bs k with hbk | ⟨j, hj, hbk⟩
      · have HN := hide (best_none hbk)
        rw [hbk]
        clear hbk hx
        go_wp2
        go_round
        case rel => exact ⟨k + 1, hlt, by go_num, by rw [HN.out]⟩
        case measure => simp [intOf]; omega
      · obtain ⟨ad', y, hA, hB', hy, hc'⟩ := hr.get (show j < n by omega)
        injection hA with hA
        subst hA
        have H1 := fun hl => best_yes hbk hy hx hl
        have H2 := fun hl => best_no hbk hy hx hl
        have hx64 := h64.get hx
        have hy64 := h64.get hy
        rw [hbk]
        have hnn : (0 : Int) ≤ j := by omega
        by_cases hl : key y < key x
        · have HN := hide (H1 hl)
          have hd := decide_eq_true hl
          clear hbk hx hy H1 H2 hl
          go_wp2_with (go_at_call 16; refine (Less16 _ _ hy64 hx64 _).mono ?_; rintro e w' ⟨rfl, rfl⟩)
          go_round
          case rel => exact ⟨k + 1, hlt, by go_num, by rw [HN.out]⟩
          case measure => simp [intOf]; omega
        · have HN := hide (H2 hl)
          have hd := decide_eq_false hl
          clear hbk hx hy H1 H2 hl
          go_wp2_with (go_at_call 16; refine (Less16 _ _ hy64 hx64 _).mono ?_; rintro e w' ⟨rfl, rfl⟩)
          go_round
          case rel => exact ⟨k + 1, hlt, by go_num, by rw [HN.out]⟩
          case measure => simp [intOf]; omega
    · have hkn : k = n := by omega
      subst hkn
      go_wp2
      go_ret
      exact ⟨rfl, rfl⟩
end Go.Proofs.Ytcjoohaagdihlaa.Score
