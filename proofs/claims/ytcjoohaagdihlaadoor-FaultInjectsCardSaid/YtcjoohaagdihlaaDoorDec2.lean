/- The contract of the document's Dec: a number in decimal digits. -/
import Derived.Test.YtcjoohaagdihlaaDoorLit2
import Derived.Test.YtcjoohaagdihlaaDoorDec1
import Derived.RegionTactic
import Derived.Deep.RegionWith
import Derived.Outline
import Derived.Laws.BytesString
import Derived.Laws.Cells
namespace Go.Proofs.YtcjoohaagdihlaaDoor.Dec
open Go.RowKit Go.Lt Go.Proofs.YtcjoohaagdihlaaDoor.Lit
set_option linter.unusedVariables false
set_option linter.unusedSimpArgs false

/-- string([]byte{x}) -/
theorem conv1 (W : World) (b : Nat) (x : Int) (h : W.cell? ⟨b, 0, none⟩ = some (.int .u8 x)) :
    (convert 152 9 (.slice (some ⟨b, 0, none⟩) 1 1)).run Tryd.prog W = .ok (.string ⟨[UInt8.ofNat x.toNat].toArray⟩) W := by
  rw [run_convert_bytes_string W _ _ 5 _ _ _ Tryd.underlying152 Tryd.underlying5 Tryd.underlying9]
  have hload : (loadCells ⟨b, 0, none⟩ 1).run Tryd.prog W = .ok (([x] : List Int).map (Value.int .u8)).toArray W := by
    have := run_loadCells_list (P := Tryd.prog) (w := W) ⟨b, 0, none⟩ [.int .u8 x] (fun j v hj => by
      cases j with
      | zero => simp at hj; subst hj; simpa [Addr.add] using h
      | succ j => simp at hj)
    exact this
  rw [run_bytesToString W ⟨b, 0, none⟩ 1 1 [x] hload]
  rfl
theorem itoa_small {u : Nat} (h : u < 10) : Lib.itoa (u : Int) = [UInt8.ofNat (48 + u)] := by
  unfold Lib.itoa; rw [if_neg (by omega), Int.toNat_natCast, Lib.decDigits_one h]
theorem itoa_big {u : Nat} (h : ¬ u < 10) : Lib.itoa (u : Int) = Lib.itoa ((u / 10 : Nat) : Int) ++ [UInt8.ofNat (48 + u % 10)] := by
  unfold Lib.itoa; rw [if_neg (by omega), if_neg (by omega), Int.toNat_natCast, Int.toNat_natCast, Lib.decDigits, dif_neg h]
theorem itoa_negS {u : Nat} (h0 : 0 < u) (h : u < 10) : Lib.itoa (-(u : Int)) = [45, UInt8.ofNat (48 + u)] := by
  unfold Lib.itoa; rw [if_pos (by omega), show (-(u : Int)).natAbs = u by omega, Lib.decDigits_one h]
theorem itoa_negB {u : Nat} (h : ¬ u < 10) : Lib.itoa (-(u : Int)) = Lib.itoa (-((u / 10 : Nat) : Int)) ++ [UInt8.ofNat (48 + u % 10)] := by
  unfold Lib.itoa; rw [if_pos (by omega), if_pos (by omega), show (-(u : Int)).natAbs = u by omega, show (-((u / 10 : Nat) : Int)).natAbs = u / 10 by omega, Lib.decDigits, dif_neg h]; rfl
theorem str_add (l : List UInt8) (b : UInt8) : (⟨l.toArray⟩ : ByteArray) ++ ⟨[b].toArray⟩ = ⟨(l ++ [b]).toArray⟩ := ByteArray.mk_append_mk l [b]
theorem ret_str {a b : ByteArray} (h : a = b) : Ending.returned (.string a) = .returned (.string b) := by rw [h]

theorem itoa_len (u : Nat) (h : u < 10000000000000000000) : (Lib.itoa (u : Int)).length ≤ 30 := by
  unfold Lib.itoa; rw [if_neg (by omega), Int.toNat_natCast]
  have := dec_len 18 u (by omega)
  omega
theorem itoa_lenN (u : Nat) (h : u < 10000000000000000000) : (Lib.itoa (-(u : Int))).length ≤ 30 := by
  unfold Lib.itoa
  have := dec_len 18 u (by omega)
  split
  · rw [List.length_cons, show (-(u : Int)).natAbs = u by omega]; omega
  · rename_i hn
    have h0 : u = 0 := by omega
    subst h0
    have e : (-((0 : Nat) : Int)).toNat = 0 := rfl
    rw [e]; omega
theorem bcell {W w1 : World} (hb : Below W.heap.size W w1) : (∀ b o, b < W.heap.size → w1.cell? ⟨b, o, none⟩ = W.cell? ⟨b, o, none⟩) :=
  fun b o h => hb.cell (p := ⟨b, o, none⟩) h

set_option maxHeartbeats 800000 in
theorem ref_Dec_pos (k : Nat) : ∀ (u : Nat) (w : World), u ≤ k → u ≤ 9223372036854775807 →
    Calls Tryd.prog 121 #[.int .i64 (u : Int)] w fun e w' => e = .returned (.string ⟨(Lib.itoa u).toArray⟩) ∧ Below w.heap.size w w' := by
  induction k with
  | zero =>
    intro u w hk hu
    have h0 : u = 0 := by omega
    subst h0
    have hT := hide (itoa_small (u := 0) (by omega))
    have hcv := conv1
    clear hk hu
    go_enter Tryd.func121, Tryd.ntmps121
    go_wp2_with fail
    go_ret
    exact ⟨ret_str (by rw [hT.out]; rfl), (Below.refl _ _).alloc (Nat.le_refl _) _⟩
  | succ k ih =>
    intro u w hk hu
    by_cases h10 : u < 10
    · have hT := hide (itoa_small h10)
      have hcv := conv1
      have e0 : decide ((u : Int) < 0) = false := by rw [decide_eq_false_iff_not]; omega
      have e1 : decide ((u : Int) < 10) = true := by rw [decide_eq_true_iff]; omega
      have e2 : decide (u < 10) = true := by rw [decide_eq_true_iff]; omega
      have e3 : IntKind.u8.wrap (48 + (u : Int)) = 48 + (u : Int) := by rw [show (48 + (u : Int)) = ((48 + u : Nat) : Int) by omega]; unfold IntKind.wrap; simp [IntKind.bits, IntKind.signed] <;> omega
      have hE := hide (show (48 + (u : Int)).toNat = 48 + u by omega)
      clear hk hu
      go_enter Tryd.func121, Tryd.ntmps121
      go_wp2_with fail
      go_ret
      exact ⟨ret_str (by rw [hT.out]), (Below.refl _ _).alloc (Nat.le_refl _) _⟩
    · have hT := hide (itoa_big h10)
      have hcv := conv1
      have hstep := hide (fun w => ih (u / 10) w (by omega) (by omega))
      have e0 : decide ((u : Int) < 0) = false := by rw [decide_eq_false_iff_not]; omega
      have e1 : decide ((u : Int) < 10) = false := by rw [decide_eq_false_iff_not]; omega
      have e2 : decide (u < 10) = false := by rw [decide_eq_false_iff_not]; omega
      have q1 : (u : Int).tdiv 10 = ((u / 10 : Nat) : Int) := by rw [Int.tdiv_eq_ediv_of_nonneg (by omega)]; omega
      have q2 : (u : Int).tmod 10 = ((u % 10 : Nat) : Int) := by rw [Int.tmod_eq_emod_of_nonneg (by omega)]; omega
      have q3 : IntKind.i64.wrap ((u / 10 : Nat) : Int) = ((u / 10 : Nat) : Int) := IntWalk.i64_in _ (by omega)
      have q4 : IntKind.i64.wrap ((u % 10 : Nat) : Int) = ((u % 10 : Nat) : Int) := IntWalk.i64_in _ (by omega)
      have hm : u % 10 < 10 := by omega
      have hL : (Lib.itoa ((u / 10 : Nat) : Int)).length ≤ 30 := itoa_len _ (by omega)
      clear hk hu h10 ih
      generalize u / 10 = q at *
      generalize u % 10 = r at *
      have q5 : IntKind.i64.wrap (48 + (r : Int)) = 48 + (r : Int) := IntWalk.i64_in _ (by omega)
      have q6 : IntKind.u8.wrap (48 + (r : Int)) = 48 + (r : Int) := by rw [show (48 + (r : Int)) = ((48 + r : Nat) : Int) by omega]; unfold IntKind.wrap; simp [IntKind.bits, IntKind.signed] <;> omega
      have hE := hide (show (48 + (r : Int)).toNat = 48 + r by omega)
      go_enter Tryd.func121, Tryd.ntmps121
      go_wp2_with fail
      go_region_with (go_at_call 121; refine (hstep.out _).mono ?_; rintro e w' ⟨rfl, hb⟩; have hbc := bcell hb)
      all_goals go_wp2
      all_goals go_ret
      all_goals refine ⟨ret_str (by rw [str_add, hT.out]; simp), ?_⟩
      all_goals first | exact (((Below.refl w.heap.size w).drew).trans (show Below w.heap.size w.drew _ from hb)).alloc hb.size _ | exact ((((Below.refl w.heap.size w).alloc (Nat.le_refl _) _).drew).trans (hb.mono (by simp)))

set_option maxHeartbeats 800000 in
theorem ref_Dec_neg (k : Nat) : ∀ (u : Nat) (w : World), u ≤ k → 0 < u → u ≤ 9223372036854775808 →
    Calls Tryd.prog 121 #[.int .i64 (-(u : Int))] w fun e w' => e = .returned (.string ⟨(Lib.itoa (-(u : Int))).toArray⟩) ∧ Below w.heap.size w w' := by
  induction k with
  | zero => intro u w hk h0 hu; omega
  | succ k ih =>
    intro u w hk hp hu
    obtain ⟨n, hn⟩ : ∃ n : Int, n = -(u : Int) := ⟨_, rfl⟩
    rw [← hn]
    have e0 : decide (n < 0) = true := by rw [decide_eq_true_iff]; omega
    by_cases h10 : u < 10
    · have hT := hide (show Lib.itoa n = [45, UInt8.ofNat (48 + u)] by rw [hn]; exact itoa_negS hp h10)
      have hcv := conv1
      have q1 : n.tdiv 10 = 0 := by rw [hn, Int.neg_tdiv, Int.tdiv_eq_ediv_of_nonneg (by omega)]; omega
      have q3 : IntKind.i64.wrap (48 - n) = ((48 + u : Nat) : Int) := by rw [show 48 - n = ((48 + u : Nat) : Int) by omega]; exact IntWalk.i64_in _ (by omega)
      have hm : u < 10 := h10
      have hnl : -10 < n := by omega
      have q4 : 48 - n = ((48 + u : Nat) : Int) := by omega
      have q6 : IntKind.u8.wrap ((48 + u : Nat) : Int) = ((48 + u : Nat) : Int) := by unfold IntKind.wrap; simp [IntKind.bits, IntKind.signed] <;> omega
      clear hk hu hn hp h10
      go_enter Tryd.func121, Tryd.ntmps121
      go_wp2_with fail
      go_ret
      refine ⟨ret_str (by rw [hT.out, UInt8.ofNat_add]; exact str_add [45] (48 + UInt8.ofNat u)), (Below.refl _ _).alloc (Nat.le_refl _) _⟩
    · have hT := hide (show Lib.itoa n = Lib.itoa (-((u / 10 : Nat) : Int)) ++ [UInt8.ofNat (48 + u % 10)] by rw [hn]; exact itoa_negB h10)
      have hcv := conv1
      have hstep := hide (fun w => ih (u / 10) w (by omega) (by omega) (by omega))
      obtain ⟨q, hq⟩ : ∃ q : Int, q = -((u / 10 : Nat) : Int) := ⟨_, rfl⟩
      rw [← hq] at hT hstep
      have q1 : n.tdiv 10 = q := by rw [hn, Int.neg_tdiv, Int.tdiv_eq_ediv_of_nonneg (by omega)]; omega
      have q2 : n.tmod 10 = -((u % 10 : Nat) : Int) := by rw [hn, Int.neg_tmod, Int.tmod_eq_emod_of_nonneg (by omega)]; omega
      have q0 : (q == 0) = false := by rw [beq_eq_false_iff_ne]; omega
      have q00 : ¬ q = 0 := by omega
      have q3 : IntKind.i64.wrap q = q := IntWalk.i64_in _ (by omega)
      have q4 : IntKind.i64.wrap (-((u % 10 : Nat) : Int)) = -((u % 10 : Nat) : Int) := IntWalk.i64_in _ (by omega)
      have hm : u % 10 < 10 := by omega
      have hL : (Lib.itoa q).length ≤ 30 := by rw [hq]; exact itoa_lenN _ (by omega)
      clear hk hu h10 ih hn hq hp
      generalize u % 10 = r at *
      have q5 : IntKind.i64.wrap (48 - -(r : Int)) = ((48 + r : Nat) : Int) := by rw [show 48 - -(r : Int) = ((48 + r : Nat) : Int) by omega]; exact IntWalk.i64_in _ (by omega)
      have q7 : IntKind.i64.wrap (48 + (r : Int)) = ((48 + r : Nat) : Int) := by rw [show 48 + (r : Int) = ((48 + r : Nat) : Int) by omega]; exact IntWalk.i64_in _ (by omega)
      have q6 : IntKind.u8.wrap ((48 + r : Nat) : Int) = ((48 + r : Nat) : Int) := by unfold IntKind.wrap; simp [IntKind.bits, IntKind.signed] <;> omega
      have q8 : IntKind.u8.wrap (48 + (r : Int)) = ((48 + r : Nat) : Int) := by rw [show 48 + (r : Int) = ((48 + r : Nat) : Int) by omega]; exact q6
      go_enter Tryd.func121, Tryd.ntmps121
      go_wp2_with fail
      go_region_with (go_at_call 121; refine (hstep.out _).mono ?_; rintro e w' ⟨rfl, hb⟩; have hbc := bcell hb)
      all_goals go_wp2
      all_goals go_ret
      all_goals refine ⟨ret_str (by rw [str_add, hT.out]; simp), ?_⟩
      all_goals first | exact (((Below.refl w.heap.size w).drew).trans (show Below w.heap.size w.drew _ from hb)).alloc hb.size _ | exact ((((Below.refl w.heap.size w).alloc (Nat.le_refl _) _).drew).trans (hb.mono (by simp)))

theorem ref_Dec (n : Int) (h0 : -9223372036854775808 ≤ n) (h1 : n ≤ 9223372036854775807) (w : World) :
    Calls Tryd.prog 121 #[.int .i64 n] w fun e w' => e = .returned (.string ⟨(Lib.itoa n).toArray⟩) ∧ Below w.heap.size w w' := by
  rcases Int.lt_or_le n 0 with h | h
  · obtain ⟨u, hu⟩ := Int.eq_ofNat_of_zero_le (show 0 ≤ -n by omega)
    have e : n = -(u : Int) := by omega
    rw [e]
    exact ref_Dec_neg u u w (Nat.le_refl _) (by omega) (by omega)
  · obtain ⟨u, rfl⟩ := Int.eq_ofNat_of_zero_le h
    exact ref_Dec_pos u u w (Nat.le_refl _) (by omega)
end Go.Proofs.YtcjoohaagdihlaaDoor.Dec
