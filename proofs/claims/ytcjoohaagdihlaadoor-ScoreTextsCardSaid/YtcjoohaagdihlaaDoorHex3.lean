/- Contracts on a score's text, the program's and the document's. -/
import Derived.Test.YtcjoohaagdihlaaDoorHex2
import Derived.Test.YtcjoohaagdihlaaDoorHexShelf
namespace Go.Proofs.YtcjoohaagdihlaaDoor.Hex
open Go.RowKit Go.Lt Go.Proofs.YtcjoohaagdihlaaDoor.Score Go.Proofs.YtcjoohaagdihlaaDoor.CubeText
set_option linter.unusedVariables false
set_option linter.unusedSimpArgs false

/-- the table's cell that counts sixteen's zeros -/
def Tz (w : World) : Prop := w.cell? ⟨7, 15, none⟩ = some (.int .u8 4)
theorem Tz.below {w w' : World} (h : Tz w) (hb : Below w.heap.size w w') : Tz w' := (hb.cell (World.block_lt_of_cell? _ _ h)).trans h
def FuIs (b : Nat) (w : World) (e : Ending) (w' : World) : Prop := ∃ m, 1 ≤ m ∧ m ≤ 16 ∧ b < 16 ^ m ∧ e = .returned (str (byt (hexL m b))) ∧ Below w.heap.size w w'
theorem fu (b : Nat) (hb : b < 18446744073709551616) (w : World) (h : Tz w) : Calls Tryd.prog 133 #[.int .u64 b, .int .i64 16] w (FuIs b w) := by
  have HF := hide (fb b hb w h)
  clear hb
  go_enter Tryd.func133, Tryd.ntmps133
  go_wp2_with fail
  refine HF.out.mono ?_
  rintro e w1 ⟨m, h1, h2, h3, rfl, hbel⟩
  have hR := hide (show FuIs b w (.returned (str (byt (hexL m b)))) w1 from ⟨m, h1, h2, h3, rfl, hbel⟩)
  clear h1 h2 h3
  generalize str (byt (hexL m b)) = S at *
  go_wp2
  go_ret
  exact hR.out
theorem fu2 (b : Nat) (hb : b < 18446744073709551616) (w : World) (h : Tz w) : Calls Tryd.prog 106 #[.int .u64 b, .int .i64 16] w (FuIs b w) := by
  have HF := hide (fu b hb w h)
  clear hb
  go_enter Tryd.func106, Tryd.ntmps106
  go_wp2_with fail
  refine HF.out.mono ?_
  rintro e w1 ⟨m, h1, h2, h3, rfl, hbel⟩
  have hR := hide (show FuIs b w (.returned (str (byt (hexL m b)))) w1 from ⟨m, h1, h2, h3, rfl, hbel⟩)
  clear h1 h2 h3
  generalize str (byt (hexL m b)) = S at *
  go_wp2
  go_ret
  exact hR.out
theorem score_bits (b : Nat) (w : World) : Calls Tryd.prog 103 #[.float .f64 b] w fun e w' => e = .returned (.int .u64 (plainB b)) ∧ w = w' := by
  have hn := ord_ne b
  have ht := tobits b
  unfold plainB
  cases h : nanB b
  · rw [h] at hn
    go_enter Tryd.func103, Tryd.ntmps103
    go_wp2
    go_ret
    exact ⟨rfl, rfl⟩
  · rw [h] at hn
    go_enter Tryd.func103, Tryd.ntmps103
    go_wp2
    go_ret
    exact ⟨rfl, rfl⟩
theorem rep48 (c : Nat) : Lib.repeatL [48] c = List.replicate c 48 := by
  induction c with
  | zero => rfl
  | succ c ih => rw [Lib.repeatL, ih]; rfl
theorem u8_pad (m : Nat) (b : Nat) (hm : m ≤ 16) (h : b < 16 ^ m) : List.replicate (16 - m) (48 : UInt8) ++ byt (hexL m b) = byt (hexL 16 b) := by
  have := hexL_pad m (16 - m) b h
  rw [show m + (16 - m) = 16 by omega] at this
  rw [this]
  unfold byt
  rw [List.map_append, List.map_replicate]
  rfl
set_option maxHeartbeats 1000000 in
theorem score_Text (b : Nat) (hb : b < 18446744073709551616) (w : World) (h : Tz w) : Calls Tryd.prog 46 #[.float .f64 b] w fun e w' => e = .returned (str (byt (textX b))) ∧ Below w.heap.size w w' := by
  have HF := hide (fu2 (plainB b) (plainB_lt hb) w h)
  have HB := hide (score_bits b w)
  unfold textX
  generalize plainB b = c at *
  clear hb
  go_enter Tryd.func46, Tryd.ntmps46
  go_wp2_with fail
  refine HB.out.mono ?_
  rintro e w1 ⟨rfl, rfl⟩
  go_wp2_with fail
  refine HF.out.mono ?_
  rintro e w2 ⟨m, h1, h2, h3, rfl, hbel⟩
  have hP := hide (u8_pad m c h2 h3)
  have hlen : (byt (hexL m c)).length = m := by unfold byt; rw [List.length_map, hexL_len]
  have hL := hide hlen
  have hb2 := hide hbel
  obtain ⟨d, hd⟩ : ∃ d : Nat, Hid (d = 16 - m) := ⟨_, rfl⟩
  have hdI : (16 : Int) - (m : Int) = (d : Int) := by have := hd.out; omega
  rw [show 16 - m = d from hd.out.symm] at hP
  have hAp := fun (l : List UInt8) => ByteArray.mk_append_mk (List.replicate d 48) l
  generalize byt (hexL m c) = l at *
  have hAp := hAp l
  unfold str
  clear h3
  go_wp2_with (go_at_call 107; refine (Tryd.strings_Repeat ⟨#[48]⟩ d _ (by omega) (by show 1 * d ≤ _; omega)).mono ?_; rintro e w4 ⟨rfl, hb4⟩; rw [show (⟨#[48]⟩ : ByteArray).data.toList = [48] from rfl, rep48])
  go_ret
  refine ⟨?_, hb2.out.trans (hb4.mono hb2.out.size)⟩
  have e : ((⟨Array.replicate d 48⟩ : ByteArray) ++ ⟨l.toArray⟩) = ⟨(List.replicate d 48 ++ l).toArray⟩ := by rw [← hAp]; simp
  rw [e, hP.out]
  rfl
theorem sl16 (r : Nat) (h : r < 16) (W : World) : (Instr.slice 9 (.string ⟨#[48, 49, 50, 51, 52, 53, 54, 55, 56, 57, 97, 98, 99, 100, 101, 102]⟩) (some (.int .i64 r)) (some (.int .i64 ((r : Int) + 1))) none).run Tryd.prog W = .ok (.string ⟨#[UInt8.ofNat (hexD r)]⟩) W := by
  rcases (show r = 0 ∨ r = 1 ∨ r = 2 ∨ r = 3 ∨ r = 4 ∨ r = 5 ∨ r = 6 ∨ r = 7 ∨ r = 8 ∨ r = 9 ∨ r = 10 ∨ r = 11 ∨ r = 12 ∨ r = 13 ∨ r = 14 ∨ r = 15 by omega) with rfl | rfl | rfl | rfl | rfl | rfl | rfl | rfl | rfl | rfl | rfl | rfl | rfl | rfl | rfl | rfl
  all_goals
    simp [Instr.slice, run_underlying Tryd.underlying9, Instr.sliceBounds, run_sliceBound]
    try rfl
set_option maxRecDepth 8000 in
set_option maxHeartbeats 1000000 in
theorem ref_Text (b : Nat) (hb : b < 18446744073709551616) (w : World) : Calls Tryd.prog 48 #[.int .u64 b] w fun e w' => e = .returned (str (byt (textX b))) ∧ w = w' := by
  have HB := hide (Plain83 b w)
  have hc := plainB_lt hb
  unfold textX
  generalize plainB b = c at *
  have hc := hide hc
  clear hb
  go_enter Tryd.func48, Tryd.ntmps48
  go_wp2_with fail
  refine HB.out.mono ?_
  rintro e w1 ⟨rfl, rfl⟩
  go_wp2
  go_loop [0, 3, 4] (fun u s i => ∃ (k x : Nat) (S : ByteArray), k ≤ 16 ∧ i = .int .i64 k ∧ u = .int .u64 x ∧ Hid (x = c / 16 ^ k) ∧ s = .string S ∧ Hid (S = ⟨(byt (hexL k c)).toArray⟩)) (fun _ _ i => 16 - (intOf i).toNat)
  case atStart => exact ⟨0, c, _, Nat.zero_le _, rfl, rfl, hide (by simp), rfl, hide rfl⟩
  case round =>
    obtain ⟨k, x, S, hk, rfl, rfl, hx, rfl, hS⟩ := hrel
    have hkI : (k : Int) ≤ 16 := by omega
    have hxl : (x : Int) < 18446744073709551616 := by have := hx.out; have := hc.out; have := Nat.div_le_self c (16 ^ k); omega
    by_cases hlt : k < 16
    · obtain ⟨r, hr⟩ : ∃ r, x % 16 = r := ⟨_, rfl⟩
      obtain ⟨y, hy⟩ : ∃ y, x / 16 = y := ⟨_, rfl⟩
      have hr16 : r < 16 := by omega
      have hrI : (x : Int) % 16 = (r : Int) := by omega
      have hyI : (x : Int) / 16 = (y : Int) := by omega
      have hrI16 : (r : Int) < 16 := by omega
      have hwr : IntKind.i64.wrap (r : Int) = (r : Int) := IntWalk.i64_in _ (by omega)
      obtain ⟨A, hA⟩ : ∃ A : ByteArray, (⟨#[UInt8.ofNat (hexD r)]⟩ : ByteArray) = A := ⟨_, rfl⟩
      have hs := sl16 r hr16
      rw [hA] at hs
      obtain ⟨T, hAp⟩ : ∃ T : ByteArray, A ++ S = T := ⟨_, rfl⟩
      have hT := hide (show T = ⟨(byt (hexL (k + 1) c)).toArray⟩ by
        rw [← hAp, ← hA, hS.out, hexL_cons, ← hx.out, hr]
        exact ByteArray.mk_append_mk [UInt8.ofNat (hexD r)] (byt (hexL k c)))
      have hY := hide (show y = c / 16 ^ (k + 1) by rw [← hy, hx.out, Nat.div_div_eq_div_mul, Nat.pow_succ])
      have hwy : (y : Int) ≤ 18446744073709551615 := by omega
      have hA1 : A.size = 1 := by rw [← hA]; rfl
      have hS1 : S.size = k := by rw [hS.out]; show (byt (hexL k c)).toArray.size = k; simp [byt, hexL_len]
      have hbig : (9223372036854775807 < A.size + S.size) = False := eq_false (by omega)
      clear hr hy hA hxl hA1 hS1
      go_wp2
      go_round
      case rel => exact ⟨k + 1, y, T, hlt, by go_num, rfl, hY, rfl, hT⟩
      case measure => simp [intOf]; omega
    · have hkn : k = 16 := by omega
      subst hkn
      clear hxl
      go_wp2
      go_ret
      exact ⟨by rw [hS.out]; rfl, rfl⟩
end Go.Proofs.YtcjoohaagdihlaaDoor.Hex
