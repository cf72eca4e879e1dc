/- Contracts on the signs of a cube: its text, the program's and the document's. -/
import Derived.Test.YtcjoohaagdihlaaDoorCubeText1
namespace Go.Proofs.YtcjoohaagdihlaaDoor.CubeText
open Go.RowKit Go.Lt Go.Proofs.YtcjoohaagdihlaaDoor.Lit
set_option linter.unusedVariables false
set_option linter.unusedSimpArgs false

def signAt (c : List Int) (i : Nat) : Int := if hasB c (2 * (i : Int)) then (if hasB c (2 * (i : Int) + 1) then 2 else 1) else if hasB c (2 * (i : Int) + 1) then 0 else 2
def signsOf (c : List Int) (m : Nat) : List Int := (List.range m).map (signAt c)
theorem signsOf_succ (c : List Int) (k : Nat) : signsOf c (k + 1) = signsOf c k ++ [signAt c k] := by
  unfold signsOf; rw [List.range_succ, List.map_append]; rfl
/-- so many signs are told -/
def bounded (many : Int) : Nat := (min (max many 0) 2000).toNat


set_option maxHeartbeats 800000 in
theorem cube_Text0 (A : Option Addr) (n cc : Nat) (c : List Int) (many : Int) (w : World) (hn : n ≤ 1000000) (hs : Signs w) (hr : Rd w A n (ivs c)) (h0 : 0 ≤ many) (h1 : many ≤ 2000) :
    Calls Tryd.prog 27 #[.slice A n cc, .int .i64 many] w fun e w' => e = .returned (str ((signsOf c (bounded many)).map sgn)) ∧ Below w.heap.size w w' := by
  have HB := hide (show bounded many = many.toNat by unfold bounded; omega)
  go_enter Tryd.func27, Tryd.ntmps27
  go_wp2
  go_loopw [5, 13] (fun v i wr => ∃ k : Nat, k ≤ many.toNat ∧ i = .int .i64 k ∧ wr.ownsRow w.heap.size 3 1 v k ((signsOf c k).map (Value.int .i64)) ∧ Below w.heap.size w wr)
    (fun _ i _ => many.toNat - (intOf i).toNat)
  case atStart => exact ⟨0, Nat.zero_le _, rfl, World.ownsRow_nil _ _ _ _, Below.refl _ _⟩
  case round =>
    obtain ⟨k, hk, rfl, hown, hb⟩ := hrel
    by_cases hlt : k < many.toNat
    · have hr1 := hr.below hb (Nat.le_refl _)
      have hk2 : (k : Int) ≤ 2000 := by omega
      have hkM : (k : Int) < many := by omega
      cases h1 : hasB c (2 * (k : Int)) <;> cases h2 : hasB c (2 * (k : Int) + 1)
      all_goals
        have HS := signsOf_succ c k
        unfold signAt at HS
        rw [h1, h2] at HS
        simp only [Bool.false_eq_true, if_true, if_false] at HS
        have HS := hide HS
        go_wp2_with (first
          | (go_at_call 78; refine (lit_Has _ _ _ c _ _ hn hr1).mono ?_; rintro e w' ⟨rfl, rfl⟩)
          | (at_builtin; refine wpList_push rfl _ _ _ rfl Tryd.underlying22 info_int rfl (by decide) rfl rfl hown hb (Nat.le_refl _) rfl (by simp [Value.oneCell']) (by unfold maxLen; omega) (by omega) ?_; intro v1 w1 hown1 hb1))
        go_roundw
        case rel => exact ⟨k + 1, hlt, by go_num, by rw [HS.out, List.map_append]; exact hown1, hb1⟩
        case measure => simp [intOf]; omega
    · have hkn : many.toNat = k := by omega
      have hkM : ¬ (k : Int) < many := by omega
      obtain ⟨A', c', rfl, hkc, hcm, hr'⟩ := Rd.of_own hown
      have hm1 : k ≤ 1000000 := by omega
      go_wp2_with (go_at_call 87; refine (tri_Text _ _ _ (signsOf c k) _ hm1 (hs.below hb) hr').mono ?_; rintro e w2 ⟨rfl, hb2⟩)
      go_ret
      refine ⟨?_, hb.trans (hb2.mono hb.size)⟩
      rw [HB.out, hkn]
      rfl

set_option maxHeartbeats 800000 in
theorem cube_Text1 (A : Option Addr) (n cc : Nat) (c : List Int) (many : Int) (w : World) (hn : n ≤ 1000000) (hs : Signs w) (hr : Rd w A n (ivs c)) (h0 : many < 0) :
    Calls Tryd.prog 27 #[.slice A n cc, .int .i64 many] w fun e w' => e = .returned (str ((signsOf c (bounded many)).map sgn)) ∧ Below w.heap.size w w' := by
  have HB := hide (show bounded many = 0 by unfold bounded; omega)
  go_enter Tryd.func27, Tryd.ntmps27
  go_wp2
  go_loopw [5, 13] (fun v i wr => ∃ k : Nat, k ≤ 0 ∧ i = .int .i64 k ∧ wr.ownsRow w.heap.size 3 1 v k ((signsOf c k).map (Value.int .i64)) ∧ Below w.heap.size w wr)
    (fun _ i _ => 0 - (intOf i).toNat)
  case atStart => exact ⟨0, Nat.zero_le _, rfl, World.ownsRow_nil _ _ _ _, Below.refl _ _⟩
  case round =>
    obtain ⟨k, hk, rfl, hown, hb⟩ := hrel
    by_cases hlt : k < 0
    · exact absurd hlt (Nat.not_lt_zero _)
    · have hkn : 0 = k := by omega
      have hkM : ¬ (k : Int) < (0 : Int) := by omega
      obtain ⟨A', c', rfl, hkc, hcm, hr'⟩ := Rd.of_own hown
      have hm1 : k ≤ 1000000 := by omega
      go_wp2_with (go_at_call 87; refine (tri_Text _ _ _ (signsOf c k) _ hm1 (hs.below hb) hr').mono ?_; rintro e w2 ⟨rfl, hb2⟩)
      go_ret
      refine ⟨?_, hb.trans (hb2.mono hb.size)⟩
      rw [HB.out, hkn]
      rfl

set_option maxHeartbeats 800000 in
theorem cube_Text2 (A : Option Addr) (n cc : Nat) (c : List Int) (many : Int) (w : World) (hn : n ≤ 1000000) (hs : Signs w) (hr : Rd w A n (ivs c)) (h0 : 2000 < many) :
    Calls Tryd.prog 27 #[.slice A n cc, .int .i64 many] w fun e w' => e = .returned (str ((signsOf c (bounded many)).map sgn)) ∧ Below w.heap.size w w' := by
  have HB := hide (show bounded many = 2000 by unfold bounded; omega)
  go_enter Tryd.func27, Tryd.ntmps27
  go_wp2
  go_loopw [5, 13] (fun v i wr => ∃ k : Nat, k ≤ 2000 ∧ i = .int .i64 k ∧ wr.ownsRow w.heap.size 3 1 v k ((signsOf c k).map (Value.int .i64)) ∧ Below w.heap.size w wr)
    (fun _ i _ => 2000 - (intOf i).toNat)
  case atStart => exact ⟨0, Nat.zero_le _, rfl, World.ownsRow_nil _ _ _ _, Below.refl _ _⟩
  case round =>
    obtain ⟨k, hk, rfl, hown, hb⟩ := hrel
    by_cases hlt : k < 2000
    · have hr1 := hr.below hb (Nat.le_refl _)
      have hk2 : (k : Int) ≤ 2000 := by omega
      have hkM : (k : Int) < (2000 : Int) := by omega
      cases h1 : hasB c (2 * (k : Int)) <;> cases h2 : hasB c (2 * (k : Int) + 1)
      all_goals
        have HS := signsOf_succ c k
        unfold signAt at HS
        rw [h1, h2] at HS
        simp only [Bool.false_eq_true, if_true, if_false] at HS
        have HS := hide HS
        go_wp2_with (first
          | (go_at_call 78; refine (lit_Has _ _ _ c _ _ hn hr1).mono ?_; rintro e w' ⟨rfl, rfl⟩)
          | (at_builtin; refine wpList_push rfl _ _ _ rfl Tryd.underlying22 info_int rfl (by decide) rfl rfl hown hb (Nat.le_refl _) rfl (by simp [Value.oneCell']) (by unfold maxLen; omega) (by omega) ?_; intro v1 w1 hown1 hb1))
        go_roundw
        case rel => exact ⟨k + 1, hlt, by go_num, by rw [HS.out, List.map_append]; exact hown1, hb1⟩
        case measure => simp [intOf]; omega
    · have hkn : 2000 = k := by omega
      have hkM : ¬ (k : Int) < (2000 : Int) := by omega
      obtain ⟨A', c', rfl, hkc, hcm, hr'⟩ := Rd.of_own hown
      have hm1 : k ≤ 1000000 := by omega
      go_wp2_with (go_at_call 87; refine (tri_Text _ _ _ (signsOf c k) _ hm1 (hs.below hb) hr').mono ?_; rintro e w2 ⟨rfl, hb2⟩)
      go_ret
      refine ⟨?_, hb.trans (hb2.mono hb.size)⟩
      rw [HB.out, hkn]
      rfl

theorem cube_Text (A : Option Addr) (n cc : Nat) (c : List Int) (many : Int) (w : World) (hn : n ≤ 1000000) (hs : Signs w) (hr : Rd w A n (ivs c)) :
    Calls Tryd.prog 27 #[.slice A n cc, .int .i64 many] w fun e w' => e = .returned (str ((signsOf c (bounded many)).map sgn)) ∧ Below w.heap.size w w' := by
  by_cases h0 : many < 0
  · exact cube_Text1 A n cc c many w hn hs hr h0
  · by_cases h1 : 2000 < many
    · exact cube_Text2 A n cc c many w hn hs hr h1
    · exact cube_Text0 A n cc c many w hn hs hr (by omega) (by omega)

theorem str_snoc (l : List UInt8) (b : UInt8) : (⟨l.toArray⟩ : ByteArray) ++ ⟨[b].toArray⟩ = ⟨(l ++ [b]).toArray⟩ := ByteArray.mk_append_mk l [b]

set_option maxHeartbeats 800000 in
theorem ref_Text (A : Option Addr) (n cc : Nat) (c : List Int) (many : Int) (w : World) (hn : n ≤ 1000000) (hr : Rd w A n (ivs c)) :
    Calls Tryd.prog 28 #[.slice A n cc, .int .i64 many] w fun e w' => e = .returned (str ((signsOf c (bounded many)).map sgn)) ∧ w = w' := by
  have hB0 : bounded many ≤ 2000 := by unfold bounded; omega
  have hB1 : ∀ k : Nat, k < bounded many ↔ ((k : Int) < many ∧ k < 2000) := by intro k; unfold bounded; omega
  generalize bounded many = m at *
  go_enter Tryd.func28, Tryd.ntmps28
  go_wp2
  go_loop [5, 6] (fun v i => ∃ k : Nat, k ≤ m ∧ i = .int .i64 k ∧ v = .string ⟨((signsOf c k).map sgn).toArray⟩) (fun _ i => m - (intOf i).toNat)
  case atStart => exact ⟨0, Nat.zero_le _, rfl, rfl⟩
  case round =>
    obtain ⟨k, hk, rfl, rfl⟩ := hrel
    have hB := hB1 k
    clear hB1
    by_cases hlt : k < m
    · obtain ⟨hk1, hk3⟩ := hB.1 hlt
      have hk2 : (k : Int) < 2000 := by omega
      clear hB hk3
      have hlen : ((signsOf c k).map sgn).length = k := by simp [signsOf]
      have hlen' : ((signsOf c k).map sgn).length ≤ 2000 := by omega
      clear hlen
      cases h1 : hasB c (2 * (k : Int)) <;> cases h2 : hasB c (2 * (k : Int) + 1)
      all_goals
        have HS := signsOf_succ c k
        unfold signAt at HS
        rw [h1, h2] at HS
        simp only [Bool.false_eq_true, if_true, if_false] at HS
        have HT := hide (show (signsOf c (k + 1)).map sgn = (signsOf c k).map sgn ++ [sgn _] by rw [HS, List.map_append]; rfl)
        clear HS
        generalize (signsOf c k).map sgn = s at *
        go_wp2_with (go_at_call 79; refine (ref_Has _ _ _ c _ _ hn hr).mono ?_; rintro e w' ⟨rfl, rfl⟩)
        go_round
        case rel => exact ⟨k + 1, hlt, by go_num, by rw [HT.out]; exact congrArg Value.string (str_snoc s _)⟩
        case measure => simp [intOf]; omega
    · have hkn : m = k := by omega
      subst hkn
      by_cases hk1 : (m : Int) < many
      · have hk2 : True → decide ((m : Int) < 2000) = false := fun _ => decide_eq_false fun h => hlt (hB.2 ⟨hk1, by omega⟩)
        clear hB hlt
        go_wp2
        go_ret
        exact ⟨rfl, rfl⟩
      · clear hB hlt
        go_wp2
        go_ret
        exact ⟨rfl, rfl⟩
end Go.Proofs.YtcjoohaagdihlaaDoor.CubeText
