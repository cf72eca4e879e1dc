/- A contract on a score's digits read, the document's. -/
import Derived.Test.YtcjoohaagdihlaaDoorHex4
namespace Go.Proofs.YtcjoohaagdihlaaDoor.Hex
open Go.RowKit Go.Lt Go.Proofs.YtcjoohaagdihlaaDoor.Score Go.Proofs.YtcjoohaagdihlaaDoor.CubeText
set_option linter.unusedVariables false
set_option linter.unusedSimpArgs false

/-- a byte's digit among the first ones; 16: it is none of them -/
def dAt (c j : Nat) : Nat := match hexV c with | some v => if v < j then v else 16 | none => 16
theorem dAt_zero (c : Nat) : dAt c 0 = 16 := by unfold dAt; cases hexV c <;> simp
theorem hexV_iff {c j : Nat} (hj : j < 16) : c = hexD j ↔ hexV c = some j := by
  constructor
  · intro h; rw [h]; exact hexV_D hj
  · intro h; exact (hexD_V h).2.symm
theorem dAt_hit {c j : Nat} (hj : j < 16) (h : c = hexD j) : dAt c (j + 1) = j := by
  unfold dAt; rw [(hexV_iff hj).1 h]; simp
theorem dAt_miss {c j : Nat} (hj : j < 16) (h : ¬ c = hexD j) : dAt c (j + 1) = dAt c j := by
  unfold dAt
  cases hv : hexV c with
  | none => rfl
  | some v =>
    have : v ≠ j := fun he => h ((hexV_iff hj).2 (by rw [hv, he]))
    simp only
    by_cases h1 : v < j
    · rw [if_pos h1, if_pos (by omega)]
    · rw [if_neg h1, if_neg (by omega)]
theorem dAt_le (c j : Nat) : dAt c j ≤ 16 := by
  unfold dAt
  cases hv : hexV c with
  | none => simp
  | some v => have := (hexD_V hv).1; simp only; split <;> omega
theorem dAt_end (c : Nat) : dAt c 16 = (hexV c).getD 16 := by
  unfold dAt
  cases hv : hexV c with
  | none => rfl
  | some v => have := (hexD_V hv).1; simp only; rw [if_pos this]; rfl
def RefReadIs (s : ByteArray) (w : World) (e : Ending) (w' : World) : Prop := e = .returned (.tuple #[.int .u64 ((readX (nb s)).getD 0 : Nat), .int .i64 (if (readX (nb s)).isSome then 0 else 2)]) ∧ Dr w w'
theorem refIs_no {s : ByteArray} {w w' : World} (h : readX (nb s) = none) (hd : Dr w w') : RefReadIs s w (.returned (.tuple #[.int .u64 0, .int .i64 2])) w' := by unfold RefReadIs; rw [h]; exact ⟨rfl, hd⟩
theorem refIs_yes {s : ByteArray} {x : Nat} {w w' : World} (h : readX (nb s) = some x) (hd : Dr w w') : RefReadIs s w (.returned (.tuple #[.int .u64 x, .int .i64 0])) w' := by unfold RefReadIs; rw [h]; exact ⟨rfl, hd⟩
set_option maxRecDepth 8000 in
set_option maxHeartbeats 2000000 in
theorem ref_Read (s : ByteArray) (w : World) (hs : s.size ≤ 1000) : Calls Tryd.prog 44 #[.string s] w (RefReadIs s w) := by
  by_cases h16 : s.size = 16
  case neg =>
    have d1 : ((s.size : Int) != 16) = true := by simp; omega
    have hR := hide (refIs_no (w := w) (readX_len (l := nb s) (by rw [nb_len]; exact h16)) (Dr.refl w))
    go_enter Tryd.func44, Tryd.ntmps44
    go_wp2
    go_ret2
    exact hR.out
  have hI : (s.size : Int) = 16 := by omega
  clear hs
  go_enter Tryd.func44, Tryd.ntmps44
  go_wp2
  go_loopw [4, 5] (fun b i wr => ∃ k x : Nat, k ≤ 16 ∧ i = .int .i64 k ∧ b = .int .u64 x ∧ Hid (hexTo ((nb s).take k) = some x) ∧ Hid (x < 16 ^ k) ∧ Dr w wr) (fun _ i _ => 16 - (intOf i).toNat)
  case atStart => exact ⟨0, 0, Nat.zero_le _, rfl, rfl, hide rfl, hide (by simp), Dr.refl _⟩
  case round =>
    obtain ⟨k, x, hk, rfl, rfl, hx, hxl, hd⟩ := hrel
    have hkI : (k : Int) ≤ 16 := by omega
    by_cases hlt : k < 16
    · have hltI : (k : Int) < 16 := by omega
      obtain ⟨c, hc⟩ : ∃ c, (nb s)[k]? = some c := ⟨_, List.getElem?_eq_getElem (by rw [nb_len]; omega)⟩
      have hix := ix_byte s k c hc
      have hc := hide hc
      obtain ⟨wo, hwo⟩ : ∃ wo, wo = wr := ⟨_, rfl⟩
      subst hwo
      go_wp2
      go_loopw [6, 7] (fun d i wr => ∃ j q : Nat, j ≤ 16 ∧ i = .int .i64 j ∧ d = .int .i64 q ∧ Hid (q = dAt c j) ∧ Dr wo wr) (fun _ i _ => 16 - (intOf i).toNat)
      case atStart => exact ⟨0, 16, Nat.zero_le _, rfl, rfl, hide (dAt_zero c).symm, Dr.refl _⟩
      case round =>
        obtain ⟨j, q, hj, rfl, rfl, hq, hd2⟩ := hrel
        have hjI : (j : Int) ≤ 16 := by omega
        by_cases hj16 : j < 16
        · have hjI2 : (j : Int) < 16 := by omega
          have hix2 := ix16 j hj16
          by_cases he : c = hexD j
          · have hH := hide (dAt_hit hj16 he)
            have e1 : ((c : Int) == (hexD j : Int)) = true := by rw [beq_iff_eq]; omega
            have e2 : (c : Int) = (hexD j : Int) := by omega
            clear he
            generalize hexD j = h at *
            go_wp2
            go_quiet (fail)
            go_wp2
            go_roundw
            case rel => exact ⟨j + 1, j, hj16, by go_num, rfl, hide hH.out.symm, hd2.more _⟩
            case measure => simp [intOf]; omega
          · have hH := hide (dAt_miss hj16 he)
            have e1 : ((c : Int) == (hexD j : Int)) = false := by rw [beq_eq_false_iff_ne]; omega
            have e2 : ¬ (c : Int) = (hexD j : Int) := by omega
            clear he
            generalize hexD j = h at *
            go_wp2
            go_quiet (fail)
            go_wp2
            go_roundw
            case rel => exact ⟨j + 1, q, hj16, by go_num, rfl, hide (by rw [hH.out]; exact hq.out), hd2.more _⟩
            case measure => simp [intOf]; omega
        · have hjn : j = 16 := by omega
          subst hjn
          have hdr := hide (hd.trans hd2)
          cases hv : hexV c with
          | none =>
            have hq3 : q = 16 := by have := hq.out; rw [dAt_end, hv] at this; exact this
            subst hq3
            have hR := hide (refIs_no (w := w) (readX_bad hc.out hx.out hv) hdr.out)
            clear hv
            go_wp2
            go_ret2
            exact hR.out
          | some d =>
            have hq3 : q = d := by have := hq.out; rw [dAt_end, hv] at this; exact this
            subst hq3
            have hd16 := (hexD_V hv).1
            have hX := hide (show hexTo ((nb s).take (k + 1)) = some (16 * x + q) by rw [take_next hc.out, hexTo_snoc, hx.out, hv]; rfl)
            obtain ⟨n1, n2⟩ := next_lt hlt hxl.out hd16
            have hN := hide n1
            have hqI : ¬ (15 : Int) < (q : Int) := by omega
            have w1 : IntKind.u64.wrap (16 * (x : Int)) = 16 * (x : Int) := IntWalk.u64_in _ (by omega)
            have w2 : IntKind.u64.wrap (q : Int) = (q : Int) := IntWalk.u64_in _ (by omega)
            obtain ⟨y, hy⟩ : ∃ y, 16 * x + q = y := ⟨_, rfl⟩
            have w3 : IntKind.u64.wrap (16 * (x : Int) + (q : Int)) = (y : Int) := by rw [IntWalk.u64_in _ (by omega)]; omega
            rw [hy] at hX hN
            have w4 : 16 * (x : Int) + (q : Int) = (y : Int) := by omega
            have w5 : IntKind.u64.wrap (y : Int) = (y : Int) := IntWalk.u64_in _ (by omega)
            clear hv n1 n2 hy
            go_wp2
            go_roundw
            case rel => exact ⟨k + 1, y, hlt, by go_num, rfl, hX, hN, hdr.out⟩
            case measure => simp [intOf]; omega
    · have hkn : k = 16 := by omega
      subst hkn
      have hE := hide (readX_end (by rw [nb_len]; exact h16) hx.out)
      have HB := hide (Plain83 x wr)
      by_cases hp : plainB x = x
      · have hR := hide (refIs_yes (s := s) (w := w) (by rw [hE.out, if_pos hp]) hd)
        rw [hp] at HB
        clear hE hp
        go_wp2_with fail
        refine HB.out.mono ?_
        rintro e w1 ⟨rfl, rfl⟩
        go_wp2
        go_ret2
        exact hR.out
      · have hR := hide (refIs_no (s := s) (w := w) (by rw [hE.out, if_neg hp]) hd)
        have e1 : ((plainB x : Int) != (x : Int)) = true := by simp; omega
        have e2 : ¬ (plainB x : Int) = (x : Int) := by omega
        generalize plainB x = p at *
        clear hE hp
        go_wp2_with fail
        refine HB.out.mono ?_
        rintro e w1 ⟨rfl, rfl⟩
        go_wp2
        go_ret2
        exact hR.out
end Go.Proofs.YtcjoohaagdihlaaDoor.Hex
