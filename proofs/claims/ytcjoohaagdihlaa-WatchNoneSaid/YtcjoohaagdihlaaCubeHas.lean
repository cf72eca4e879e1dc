/- Contracts on whether a state is in a cube, the program's and the document's. -/
import Derived.Test.YtcjoohaagdihlaaLit2
namespace Go.Proofs.Ytcjoohaagdihlaa.CubeHas
open Go.RowKit Go.Lt Go.Proofs.Ytcjoohaagdihlaa.Lit
set_option linter.unusedVariables false
set_option linter.unusedSimpArgs false

/-- whether a literal is so in a state -/
def inS (s : List Bool) (x : Int) : Bool := decide (0 ≤ x) && decide (s[(x / 2).toNat]? = some (decide (x % 2 = 0)))
def hasS (c : List Int) (s : List Bool) : Bool := c.all (inS s)
theorem all_take {α : Type} (f : α → Bool) (l : List α) (k : Nat) (x : α) (h : (l.take k).all f = true) (hx : l[k]? = some x) : (l.take (k + 1)).all f = f x := by
  rw [List.take_add_one, hx, List.all_append, h]; simp
theorem hasS_no {c : List Int} {s : List Bool} {k : Nat} {x : Int} (hx : c[k]? = some x) (h : inS s x = false) : hasS c s = false := by
  unfold hasS
  rw [List.all_eq_false]
  exact ⟨x, List.mem_of_getElem? hx, by rw [h]; simp⟩
theorem inS_neg {s : List Bool} {x : Int} (h : x < 0) : inS s x = false := by
  unfold inS; rw [show decide (0 ≤ x) = false by rw [decide_eq_false_iff_not]; omega]; rfl
theorem inS_nat (s : List Bool) (q : Nat) : inS s (q : Int) = decide (s[q / 2]? = some (decide (q % 2 = 0))) := by
  unfold inS
  rw [show decide (0 ≤ (q : Int)) = true by rw [decide_eq_true_iff]; omega, show ((q : Int) / 2).toNat = q / 2 by omega,
    show decide ((q : Int) % 2 = 0) = decide (q % 2 = 0) by rw [Bool.eq_iff_iff, decide_eq_true_iff, decide_eq_true_iff]; omega]
  rfl
/-- numbers of 64 bits -/
def Wfs (c : List Int) : Prop := ∀ x ∈ c, x ≤ 9223372036854775807
theorem tdiv_two (q : Nat) : (q : Int).tdiv 2 = ((q / 2 : Nat) : Int) := by
  rw [Int.tdiv_eq_ediv_of_nonneg (by omega)]; omega

set_option maxHeartbeats 800000 in
theorem cube_Has (A B : Option Addr) (n m cc cd : Nat) (c : List Int) (s : List Bool) (w : World) (hn : n ≤ 1000000) (hm : m ≤ 1000000) (hrc : Rd w A n (ivs c)) (hrs : Rd w B m (bvs s)) (hw : Wfs c) :
    Calls Try.prog 106 #[.slice A n cc, .slice B m cd] w fun e w' => e = .returned (.bool (hasS c s)) ∧ w = w' := by
  have hlc := hide hrc.len
  have hls := hide hrs.len
  have hnI : (n : Int) ≤ 1000000 := by omega
  have hmI : (m : Int) ≤ 1000000 := by omega
  clear hn hm
  go_enter Try.func106, Try.ntmps106
  go_wp2
  go_loop [9] (fun i => ∃ k : Nat, k ≤ n ∧ i = .int .i64 k ∧ Hid ((c.take k).all (inS s) = true)) (fun i => n - (intOf i).toNat)
  case atStart => exact ⟨0, Nat.zero_le _, rfl, by simp [hide]⟩
  case round =>
    obtain ⟨k, hk, rfl, hall⟩ := hrel
    by_cases hlt : k < n
    · obtain ⟨ad, x, rfl, hB, hx, hc⟩ := hrc.get hlt
      have HT := hide (all_take _ _ _ _ hall.out hx)
      have HF := hide (fun h : inS s x = false => hasS_no hx h)
      have HW := hide (hw x (List.mem_of_getElem? hx))
      clear hx hall
      by_cases h0 : x < 0
      · have HR := hide (show false = hasS c s from (HF.out (inS_neg h0)).symm)
        go_wp2
        go_ret
        exact ⟨ret_bool HR.out, rfl⟩
      · obtain ⟨q, rfl⟩ := Int.eq_ofNat_of_zero_le (show 0 ≤ x by omega)
        have hq := tdiv_two q
        have HI := hide (inS_nat s q)
        have hwj : IntKind.i64.wrap ((q / 2 : Nat) : Int) = ((q / 2 : Nat) : Int) := IntWalk.i64_in _ (by have := HW.out; omega)
        clear h0
        by_cases h1 : q / 2 < m
        · have h1I : ((q / 2 : Nat) : Int) < m := by omega
          obtain ⟨ad2, b, rfl, hB2, hx2, hc2⟩ := hrs.get h1
          have hq0 : (0 : Int) ≤ q := by omega
          have h1n : ¬ m ≤ q / 2 := by omega
          have ha : bits .and .i64 (q : Int) 1 = ((q % 2 : Nat) : Int) := by rw [and_one _ (by omega) (by omega)]; omega
          rw [hx2] at HI
          clear hx2
          generalize q / 2 = j at *
          rcases Nat.mod_two_eq_zero_or_one q with hz | hz
          all_goals
            rw [hz] at ha HI
            clear hz
            cases b
            all_goals
              have HI := HI.out
              simp at HI
              have HI := hide HI
              go_wp2
              first
                | (go_ret
                   exact ⟨ret_bool (HF.out HI.out).symm, rfl⟩)
                | (go_round
                   case rel => exact ⟨k + 1, hlt, by go_num, hide (HT.out.trans HI.out)⟩
                   case measure => simp [intOf]; omega)
        · have h1' : m ≤ q / 2 := by omega
          have hno := hide (show inS s (q : Int) = false by
            rw [HI.out, List.getElem?_eq_none (by rw [hls.out]; exact h1')]; rfl)
          have hq0 : (0 : Int) ≤ q := by omega
          have hd1 : True → decide ((m : Int) ≤ ((q / 2 : Nat) : Int)) = true := fun _ => by rw [decide_eq_true_iff]; omega
          have hd2 : True → decide (m ≤ q / 2) = true := fun _ => by rw [decide_eq_true_iff]; omega
          clear HI h1 h1'
          generalize q / 2 = j at *
          go_wp2
          go_ret
          exact ⟨ret_bool (HF.out hno.out).symm, rfl⟩
    · have hkn : n = k := by omega
      subst hkn
      have HR := hide (show true = hasS c s by unfold hasS; rw [← hall.out, ← hlc.out, List.take_length])
      clear hall
      go_wp2
      go_ret
      exact ⟨ret_bool HR.out, rfl⟩

set_option maxHeartbeats 800000 in
theorem ref_HasS (A B : Option Addr) (n m cc cd : Nat) (c : List Int) (s : List Bool) (w : World) (hn : n ≤ 1000000) (hm : m ≤ 1000000) (hrc : Rd w A n (ivs c)) (hrs : Rd w B m (bvs s)) (hw : Wfs c) :
    Calls Try.prog 43 #[.slice A n cc, .slice B m cd] w fun e w' => e = .returned (.bool (hasS c s)) ∧ Dr w w' := by
  have hlc := hide hrc.len
  have hls := hide hrs.len
  have hnI : (n : Int) ≤ 1000000 := by omega
  have hmI : (m : Int) ≤ 1000000 := by omega
  clear hn hm
  go_enter Try.func43, Try.ntmps43
  go_wp2
  go_loopw [5] (fun i wr => ∃ k : Nat, k ≤ n ∧ i = .int .i64 k ∧ Dr w wr ∧ Hid ((c.take k).all (inS s) = true)) (fun i _ => n - (intOf i).toNat)
  case atStart => exact ⟨0, Nat.zero_le _, rfl, Dr.refl _, by simp [hide]⟩
  case round =>
    obtain ⟨k, hk, rfl, hd, hall⟩ := hrel
    by_cases hlt : k < n
    · obtain ⟨ad, x, rfl, hB, hx, hc⟩ := (Dr.rd hd hrc).get hlt
      have HT := hide (all_take _ _ _ _ hall.out hx)
      have HF := hide (fun h : inS s x = false => hasS_no hx h)
      have HW := hide (hw x (List.mem_of_getElem? hx))
      clear hx hall
      by_cases h0 : x < 0
      · have HR := hide (show false = hasS c s from (HF.out (inS_neg h0)).symm)
        have hd0 : decide (x < 0) = true := by simp [h0]
        go_wp2
        go_quiet (fail)
        go_wp2
        go_ret
        exact ⟨ret_bool HR.out, hd.more _⟩
      · obtain ⟨q, rfl⟩ := Int.eq_ofNat_of_zero_le (show 0 ≤ x by omega)
        have hq := tdiv_two q
        have HI := hide (inS_nat s q)
        have hwj : IntKind.i64.wrap ((q / 2 : Nat) : Int) = ((q / 2 : Nat) : Int) := IntWalk.i64_in _ (by have := HW.out; omega)
        clear h0
        have hd0 : decide ((q : Int) < 0) = false := by rw [decide_eq_false_iff_not]; omega
        have hq0 : (0 : Int) ≤ q := by omega
        by_cases h1 : q / 2 < m
        · have h1I : ((q / 2 : Nat) : Int) < m := by omega
          have h1n : ¬ m ≤ q / 2 := by omega
          have hd1 : decide ((m : Int) ≤ ((q / 2 : Nat) : Int)) = false := by rw [decide_eq_false_iff_not]; omega
          obtain ⟨ad2, b, rfl, hB2, hx2, hc2⟩ := (Dr.rd hd hrs).get h1
          have ha : (q : Int).tmod 2 = ((q % 2 : Nat) : Int) := by rw [Int.tmod_eq_emod_of_nonneg (by omega)]; omega
          rw [hx2] at HI
          clear hx2
          generalize q / 2 = j at *
          rcases Nat.mod_two_eq_zero_or_one q with hz | hz
          all_goals
            rw [hz] at ha HI
            clear hz
            cases b
            all_goals
              have HI := HI.out
              simp at HI
              have HI := hide HI
              go_wp2
              go_quiet (fail)
              go_wp2
              first
                | (go_ret
                   exact ⟨ret_bool (HF.out HI.out).symm, hd.more _⟩)
                | (go_roundw
                   case rel => exact ⟨k + 1, hlt, by go_num, hd.more _, hide (HT.out.trans HI.out)⟩
                   case measure => simp [intOf]; omega)
        · have h1' : m ≤ q / 2 := by omega
          have hd1 : decide ((m : Int) ≤ ((q / 2 : Nat) : Int)) = true := by rw [decide_eq_true_iff]; omega
          have hno := hide (show inS s (q : Int) = false by
            rw [HI.out, List.getElem?_eq_none (by rw [hls.out]; exact h1')]; rfl)
          have hd2 : decide (m ≤ q / 2) = true := by rw [decide_eq_true_iff]; omega
          clear HI h1 h1'
          generalize q / 2 = j at *
          go_wp2
          go_quiet (fail)
          go_wp2
          go_ret
          exact ⟨ret_bool (HF.out hno.out).symm, hd.more _⟩
    · have hkn : n = k := by omega
      subst hkn
      have HR := hide (show true = hasS c s by unfold hasS; rw [← hall.out, ← hlc.out, List.take_length])
      clear hall
      go_wp2
      go_ret
      exact ⟨ret_bool HR.out, hd⟩
end Go.Proofs.Ytcjoohaagdihlaa.CubeHas
