/- The law ScoreOrders walked: it returns true, in every world, and only makes memory. -/
import Derived.Test.YtcjoohaagdihlaaScore6
namespace Go.Proofs.Ytcjoohaagdihlaa.Score
open Go.RowKit Go.Lt
set_option linter.unusedVariables false

theorem info24 : (Try.prog.info? 24).map (fun i => (i.zero, i.size, i.bytes)) = some (some (.float .f64 0), 1, 8) := by kernel_rfl
theorem of18 (A : Option Addr) (n c : Nat) (bs : List Nat) (w : World) (hn : n ≤ 300) (hr : Rd w A n (bs.map fun (b : Nat) => Value.int .u64 b)) :
    Calls Try.prog 18 #[.slice A n c] w fun e w' => ∃ A' c', e = .returned (.slice A' n c') ∧ Rd w' A' n (bs.map (Value.float .f64)) ∧ Below w.heap.size w w' := by
  go_enter Try.func18, Try.ntmps18
  go_wp2
  go_loopw [3, 4] (fun v i wr => ∃ k : Nat, k ≤ n ∧ i = .int .i64 k ∧ wr.ownsRow w.heap.size 24 1 v k ((bs.take k).map (Value.float .f64)) ∧ Below w.heap.size w wr)
    (fun _ i _ => n - (intOf i).toNat)
  case atStart => exact ⟨0, Nat.zero_le _, rfl, World.ownsRow_made _ _ _ (Nat.le_refl _) (Nat.zero_le _) rfl, (Below.refl _ _).alloc (Nat.le_refl _) _⟩
  case round =>
    obtain ⟨k, hk, rfl, hown, hb⟩ := hrel
    by_cases hlt : k < n
    · obtain ⟨ad, x, rfl, hB, hx, hc⟩ := (hr.below hb (Nat.le_refl _)).get hlt
      have HX := hide (take_snoc (Value.float .f64) bs k x hx)
      clear hx
      go_wp2_with (first
        | (go_at_call 13; refine (Of13 _ _).mono ?_; rintro e w' ⟨rfl, rfl⟩)
        | (at_builtin; refine wpList_push rfl _ _ _ rfl Try.underlying30 info24 rfl (by decide) rfl rfl hown hb (Nat.le_refl _) rfl (by simp [Value.oneCell']) (by unfold maxLen; omega) (by omega) ?_; intro v1 w1 hown1 hb1))
      go_roundw
      case rel => exact ⟨k + 1, hlt, by go_num, by rw [HX.out]; exact hown1, hb1⟩
      case measure => simp [intOf]; omega
    · have hkn : k = n := by omega
      subst hkn
      have hl := hr.len
      obtain ⟨A', c', rfl, _, _, hr'⟩ := Rd.of_own hown
      go_wp2
      go_ret
      exact ⟨A', c', rfl, by rw [List.take_of_length_le (by omega)] at hr'; exact hr', hb⟩

set_option maxHeartbeats 400000 in
theorem law3 (a b n c : Nat) (A : Option Addr) (bs : List Nat) (w : World) (ha : Hid (a < 18446744073709551616)) (hb : Hid (b < 18446744073709551616)) (hn : n ≤ 300) (h64 : All64 bs)
    (hr : Rd w A n (bs.map fun (b : Nat) => Value.int .u64 b)) :
    Calls Try.prog 3 #[.int .u64 a, .int .u64 b, .slice A n c] w fun e w' => e = .returned (.bool true) ∧ Below w.heap.size w w' := by
  go_enter Try.func3, Try.ntmps3
  go_wp2_with (first
    | (go_at_call 13; refine (Of13 _ _).mono ?_; rintro e w' ⟨rfl, rfl⟩)
    | (go_at_call 14; refine (Key14 _ ha _).mono ?_; rintro e w' ⟨rfl, rfl⟩)
    | (go_at_call 15; refine (Key15 _ (by first | exact ha | exact hb) _).mono ?_; rintro e w' ⟨rfl, rfl⟩)
    | (go_at_call 16; refine (Less16 _ _ (by first | exact ha | exact hb) (by first | exact ha | exact hb) _).mono ?_; rintro e w' ⟨rfl, rfl⟩)
    | (go_at_call 18; refine (of18 _ _ _ bs _ hn hr).mono ?_; rintro e w1 ⟨A', c', rfl, hr1, hb1⟩)
    | (go_at_call 17; refine (Most17 _ _ _ bs _ hn h64 hr1).mono ?_; rintro e w' ⟨rfl, rfl⟩)
    | (go_at_call 19; refine (Most19 _ _ _ bs _ hn h64 (hr.below hb1 (Nat.le_refl _))).mono ?_; rintro e w2 ⟨rfl, hd2⟩)
    | (go_at_call 20; refine (lives20 _).mono ?_; rintro e w3 ⟨rfl, hd3⟩))
  go_ret
  exact ⟨rfl, (hb1.trans (hd2.below _)).trans (hd3.below _)⟩

set_option maxHeartbeats 400000 in
theorem law3_long (a b n c : Nat) (A : Option Addr) (bs : List Nat) (w : World) (ha : Hid (a < 18446744073709551616)) (hb : Hid (b < 18446744073709551616)) (hn : 300 < n) (hnc : n ≤ c) (hc : c ≤ 9223372036854775807)
    (h64 : All64 bs) (hr : Rd w A n (bs.map fun (b : Nat) => Value.int .u64 b)) :
    Calls Try.prog 3 #[.int .u64 a, .int .u64 b, .slice A n c] w fun e w' => e = .returned (.bool true) ∧ Below w.heap.size w w' := by
  obtain ⟨ad, x, rfl, _, _, _⟩ := hr.get (show 0 < n by omega)
  have hr3 : Rd w (some ad) 300 ((bs.take 300).map fun (b : Nat) => Value.int .u64 b) := by
    have := Rd.take_ hr (show 300 ≤ n by omega)
    rw [← List.map_take] at this
    exact this
  have h3 : All64 (bs.take 300) := fun b hb => h64 b (List.mem_of_mem_take hb)
  have h300 : 300 ≤ 300 := Nat.le_refl _
  have hr := hide hr
  go_enter Try.func3, Try.ntmps3
  go_wp2_with (first
    | (go_at_call 13; refine (Of13 _ _).mono ?_; rintro e w' ⟨rfl, rfl⟩)
    | (go_at_call 14; refine (Key14 _ ha _).mono ?_; rintro e w' ⟨rfl, rfl⟩)
    | (go_at_call 15; refine (Key15 _ (by first | exact ha | exact hb) _).mono ?_; rintro e w' ⟨rfl, rfl⟩)
    | (go_at_call 16; refine (Less16 _ _ (by first | exact ha | exact hb) (by first | exact ha | exact hb) _).mono ?_; rintro e w' ⟨rfl, rfl⟩)
    | (go_at_call 18; refine (of18 _ _ _ (bs.take 300) _ h300 hr3).mono ?_; rintro e w1 ⟨A', c', rfl, hr1, hb1⟩)
    | (go_at_call 17; refine (Most17 _ _ _ (bs.take 300) _ h300 h3 hr1).mono ?_; rintro e w' ⟨rfl, rfl⟩)
    | (go_at_call 19; refine (Most19 _ _ _ (bs.take 300) _ h300 h3 (hr3.below hb1 (Nat.le_refl _))).mono ?_; rintro e w2 ⟨rfl, hd2⟩)
    | (go_at_call 20; refine (lives20 _).mono ?_; rintro e w3 ⟨rfl, hd3⟩))
  go_ret
  exact ⟨rfl, (hb1.trans (hd2.below _)).trans (hd3.below _)⟩
end Go.Proofs.Ytcjoohaagdihlaa.Score
