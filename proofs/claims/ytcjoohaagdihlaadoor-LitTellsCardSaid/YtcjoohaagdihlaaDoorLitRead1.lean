/- Contracts on the literal of a text, and of a variable. -/
import Derived.Test.YtcjoohaagdihlaaDoorNat2
import Derived.Test.YtcjoohaagdihlaaDoorDec3
namespace Go.Proofs.YtcjoohaagdihlaaDoor.Dec
open Go.RowKit Go.Lt Go.Proofs.YtcjoohaagdihlaaDoor.Lit
set_option linter.unusedVariables false
set_option linter.unusedSimpArgs false

/-- a variable's literal -/
def litOf (v : Int) (b : Bool) : Int := if 0 ≤ v ∧ v ≤ 16777216 then (if b then 2 * v + 1 else 2 * v) else -1
theorem lit_Of (v : Int) (b : Bool) (w : World) : Calls Tryd.prog 58 #[.int .i64 v, .bool b] w fun e w' => e = .returned (.int .i64 (litOf v b)) ∧ w = w' := by
  by_cases h0 : v < 0
  · have HR := hide (show -1 = litOf v b by unfold litOf; rw [if_neg (by omega)])
    go_enter Tryd.func58, Tryd.ntmps58
    go_wp2
    go_ret
    exact ⟨ret_int HR.out, rfl⟩
  · by_cases h1 : 16777216 < v
    · have HR := hide (show -1 = litOf v b by unfold litOf; rw [if_neg (by omega)])
      have f1 : True → decide (16777216 < v) = true := fun _ => by rw [decide_eq_true_iff]; exact h1
      clear h1
      go_enter Tryd.func58, Tryd.ntmps58
      go_wp2
      go_ret
      exact ⟨ret_int HR.out, rfl⟩
    · have f1 : True → decide (16777216 < v) = false := fun _ => by rw [decide_eq_false_iff_not]; exact h1
      have h2 : v ≤ 16777216 := by omega
      cases b
      · have HR := hide (show 2 * v = litOf v false by unfold litOf; rw [if_pos (by omega)]; rfl)
        go_enter Tryd.func58, Tryd.ntmps58
        go_wp2
        go_ret
        exact ⟨ret_int HR.out, rfl⟩
      · have HR := hide (show 2 * v + 1 = litOf v true by unfold litOf; rw [if_pos (by omega)]; rfl)
        go_enter Tryd.func58, Tryd.ntmps58
        go_wp2
        go_ret
        exact ⟨ret_int HR.out, rfl⟩
theorem ref_Of (v : Int) (b : Bool) (w : World) : Calls Tryd.prog 59 #[.int .i64 v, .bool b] w fun e w' => e = .returned (.int .i64 (litOf v b)) ∧ w = w' := by
  by_cases h0 : v < 0
  · have HR := hide (show -1 = litOf v b by unfold litOf; rw [if_neg (by omega)])
    go_enter Tryd.func59, Tryd.ntmps59
    go_wp2
    go_ret
    exact ⟨ret_int HR.out, rfl⟩
  · by_cases h1 : 16777216 < v
    · have HR := hide (show -1 = litOf v b by unfold litOf; rw [if_neg (by omega)])
      have f1 : True → decide (16777216 < v) = true := fun _ => by rw [decide_eq_true_iff]; exact h1
      clear h1
      go_enter Tryd.func59, Tryd.ntmps59
      go_wp2
      go_ret
      exact ⟨ret_int HR.out, rfl⟩
    · have f1 : True → decide (16777216 < v) = false := fun _ => by rw [decide_eq_false_iff_not]; exact h1
      have h2 : v ≤ 16777216 := by omega
      cases b
      · have HR := hide (show 2 * v = litOf v false by unfold litOf; rw [if_pos (by omega)]; rfl)
        go_enter Tryd.func59, Tryd.ntmps59
        go_wp2
        go_ret
        exact ⟨ret_int HR.out, rfl⟩
      · have HR := hide (show 2 * v + 1 = litOf v true by unfold litOf; rw [if_pos (by omega)]; rfl)
        go_enter Tryd.func59, Tryd.ntmps59
        go_wp2
        go_ret
        exact ⟨ret_int HR.out, rfl⟩

/-- whether a text begins with the inverse's sign, and what stands behind it -/
def bang (s : ByteArray) : Bool := Lib.hasPrefix s.data.toList [33]
def cutS (s : ByteArray) : ByteArray := if bang s then s.extract 1 s.size else s
theorem bang_head (s : ByteArray) : bang s = decide (s.data.toList.head? = some 33) := by
  unfold bang Lib.hasPrefix
  cases s.data.toList with
  | nil => rfl
  | cons a l =>
    rw [Bool.eq_iff_iff]
    simp [List.isPrefixOf]
    exact ⟨fun h => h.symm, fun h => h.symm⟩
theorem cutS_list (s : ByteArray) : (cutS s).data.toList = if bang s then s.data.toList.drop 1 else s.data.toList := by
  unfold cutS
  split
  · rw [Lib.extract_data, List.take_of_length_le (by rw [List.length_drop, size_list]; omega)]
  · rfl
theorem cutS_size (s : ByteArray) : (cutS s).size ≤ s.size := by
  rw [← size_list, ← size_list s, cutS_list]
  split
  · rw [List.length_drop]; omega
  · omega
theorem slite_CutPrefix (s : ByteArray) (w : World) :
    Calls Tryd.prog 141 #[.string s, .string ⟨#[33]⟩] w fun e w' => e = .returned (.tuple #[.string (cutS s), .bool (bang s)]) ∧ w = w' := by
  have HP := hide (fun W => Tryd.stringslite_HasPrefix s ⟨#[33]⟩ W)
  cases hb : bang s
  · have hc := hide (show cutS s = s by unfold cutS; rw [hb]; rfl)
    have hb' : Lib.hasPrefix s.data.toList [33] = false := hb
    clear hb
    go_enter Tryd.func141, Tryd.ntmps141
    go_wp2_with fail
    refine (HP.out _).mono ?_
    rintro e w' ⟨rfl, rfl⟩
    rw [show Lib.hasPrefix s.data.toList (ByteArray.mk #[33]).data.toList = false from hb']
    go_wp2
    go_ret2
    exact ⟨by rw [hc.out]; rfl, rfl⟩
  · have hc := hide (show cutS s = s.extract 1 s.size by unfold cutS; rw [hb]; rfl)
    have hz : 1 ≤ s.size := by
      rw [bang_head, decide_eq_true_iff] at hb
      rw [← size_list]
      cases h : s.data.toList with
      | nil => rw [h] at hb; cases hb
      | cons a l => simp
    have hb' : Lib.hasPrefix s.data.toList [33] = true := hb
    clear hb
    go_enter Tryd.func141, Tryd.ntmps141
    go_wp2_with fail
    refine (HP.out _).mono ?_
    rintro e w' ⟨rfl, rfl⟩
    rw [show Lib.hasPrefix s.data.toList (ByteArray.mk #[33]).data.toList = true from hb']
    go_wp2
    go_ret2
    exact ⟨by rw [hc.out]; rfl, rfl⟩
theorem strings_CutPrefix (s : ByteArray) (w : World) :
    Calls Tryd.prog 117 #[.string s, .string ⟨#[33]⟩] w fun e w' => e = .returned (.tuple #[.string (cutS s), .bool (bang s)]) ∧ w = w' := by
  go_enter Tryd.func117, Tryd.ntmps117
  go_wp2_with fail
  refine (slite_CutPrefix _ _).mono ?_
  rintro e w' ⟨rfl, rfl⟩
  go_wp2
  go_ret2
  exact ⟨rfl, rfl⟩

/-- the literal of a text, and an error's number -/
def readV (s : ByteArray) : Int × Int :=
  let n := natR (cutS s).data.toList
  if n.2.2 = 0 ∧ n.2.1 = (cutS s).size ∧ n.1 ≤ 16777216 then (litOf (n.1 : Nat) (bang s), 0) else (0, 2)
def ReadIs (s : ByteArray) (w : World) (e : Ending) (w' : World) : Prop :=
  e = .returned (.tuple #[.int .i64 (readV s).1, .int .i64 (readV s).2]) ∧ Below w.heap.size w w'
theorem readV_no {s : ByteArray} (h : ¬ ((natR (cutS s).data.toList).2.2 = 0 ∧ (natR (cutS s).data.toList).2.1 = (cutS s).size ∧ (natR (cutS s).data.toList).1 ≤ 16777216)) : readV s = (0, 2) := if_neg h
theorem readV_yes {s : ByteArray} (h : (natR (cutS s).data.toList).2.2 = 0 ∧ (natR (cutS s).data.toList).2.1 = (cutS s).size ∧ (natR (cutS s).data.toList).1 ≤ 16777216) : readV s = (litOf ((natR (cutS s).data.toList).1 : Nat) (bang s), 0) := if_pos h
theorem read_is {s : ByteArray} {w w' : World} {a b : Int} (h : readV s = (a, b)) (hb : Below w.heap.size w w') : ReadIs s w (.returned (.tuple #[.int .i64 a, .int .i64 b])) w' := by
  refine ⟨?_, hb⟩
  rw [h]

set_option maxHeartbeats 800000 in
theorem lit_Read (s : ByteArray) (w : World) (hs : s.size ≤ 1000000) : Calls Tryd.prog 68 #[.string s] w (ReadIs s w) := by
  have hcs : (cutS s).size ≤ 1000000 := Nat.le_trans (cutS_size s) hs
  have HN := hide (fun W => octet_Nat (cutS s) W hcs)
  obtain ⟨hv, he, hr⟩ := natR_lt (cutS s).data.toList
  have HY := hide (@readV_yes s)
  have HZ := hide (@readV_no s)
  obtain ⟨r, hr'⟩ : ∃ r, cutS s = r := ⟨_, rfl⟩
  obtain ⟨b, hb'⟩ : ∃ b, bang s = b := ⟨_, rfl⟩
  rw [hr'] at hv he hr HY HZ HN
  rw [hb'] at HY
  have hr2 := hide hr'
  have hb2 := hide hb'
  clear hr' hb' hcs
  obtain ⟨t, ht⟩ : ∃ t, natR r.data.toList = t := ⟨_, rfl⟩
  rw [ht] at hv he hr HY HZ
  have ht2 := hide ht
  clear ht
  obtain ⟨v, en, er⟩ := t
  simp only at hv he hr HY HZ
  go_enter Tryd.func68, Tryd.ntmps68
  go_wp2_with fail
  refine (strings_CutPrefix _ _).mono ?_
  rintro e w' ⟨rfl, rfl⟩
  rw [hr2.out, hb2.out]
  go_wp2_with fail
  refine (HN.out _).mono ?_
  rintro e w' ⟨rfl, hb⟩
  rw [ht2.out]
  clear HN
  have hvI : (v : Int) < 1000000000 := by omega
  have HL := hide (lit_Of (v : Int) b)
  by_cases h1 : er = 0 ∧ en = r.size
  · obtain ⟨rfl, hen⟩ := h1
    by_cases h2 : v ≤ 16777216
    · have hR := hide (HY.out ⟨rfl, hen, h2⟩)
      have hge := hide (show 0 ≤ litOf (v : Int) b by unfold litOf; rw [if_pos (by omega)]; split <;> omega)
      clear HY HZ hv hvI h2 hr he
      generalize litOf (v : Int) b = L at *
      have h0 : 0 ≤ L := hge.out
      have e1 : ((en : Int) == (r.size : Int)) = true := by rw [beq_iff_eq]; omega
      have e2 : (en == r.size) = true := by rw [beq_iff_eq]; exact hen
      clear hen
      go_wp2_with fail
      refine (HL.out _).mono ?_
      rintro e w2 ⟨rfl, rfl⟩
      go_wp2
      go_ret2
      exact read_is hR.out hb
    · have hR := hide (HZ.out (fun h => h2 h.2.2))
      have hl : litOf (v : Int) b = -1 := by unfold litOf; rw [if_neg (by omega)]
      rw [hl] at HL
      have e1 : ((en : Int) == (r.size : Int)) = true := by rw [beq_iff_eq]; omega
      have e2 : (en == r.size) = true := by rw [beq_iff_eq]; exact hen
      clear HY HZ hv hvI h2 hr he hl hen
      go_wp2_with fail
      refine (HL.out _).mono ?_
      rintro e w2 ⟨rfl, rfl⟩
      go_wp2
      go_ret2
      exact read_is hR.out hb
  · have hR := hide (HZ.out (fun h => h1 ⟨h.1, h.2.1⟩))
    by_cases h3 : er = 0
    · have hen : ¬ en = r.size := fun h => h1 ⟨h3, h⟩
      subst h3
      have e1 : ((en : Int) == (r.size : Int)) = false := by rw [beq_eq_false_iff_ne]; omega
      have e2 : (en == r.size) = false := by rw [beq_eq_false_iff_ne]; exact hen
      clear HY HZ hv hvI h1 hr he hen
      go_wp2_with fail
      refine (HL.out _).mono ?_
      rintro e w2 ⟨rfl, rfl⟩
      go_wp2
      go_ret2
      exact read_is hR.out hb
    · have e1 : ((er : Int) == 0) = false := by rw [beq_eq_false_iff_ne]; omega
      have e2 : (er == 0) = false := by rw [beq_eq_false_iff_ne]; exact h3
      clear HY HZ hv hvI h1 hr he h3
      go_wp2_with fail
      refine (HL.out _).mono ?_
      rintro e w2 ⟨rfl, rfl⟩
      go_wp2
      go_ret2
      exact read_is hR.out hb
end Go.Proofs.YtcjoohaagdihlaaDoor.Dec
