/- Contracts on whether two lists of faults are one; a slice of faults copied. -/
import Derived.Test.YtcjoohaagdihlaaDoorFault10
import Derived.Test.YtcjoohaagdihlaaDoorMem3
import Derived.BigQuiet
namespace Go.Proofs.YtcjoohaagdihlaaDoor.Fault
open Go.RowKit Go.Lt Go.Proofs.YtcjoohaagdihlaaDoor.Lit Go.Instr
set_option linter.unusedVariables false
set_option linter.unusedSimpArgs false

def cellsF (f : Ft) : List Value := [.int .i64 f.v, .int .i64 f.p, .bool f.o]
theorem encF_flat (l : List Ft) : encF l = l.flatMap cellsF := rfl
theorem RdF.rdS {w : World} {A : Option Addr} {n : Nat} {l : List Ft} (h : RdF w A n l) : RdS w A n 3 (encF l) := by
  refine ⟨by rw [encF_len, h.1], ?_⟩
  rcases Nat.eq_zero_or_pos n with h0 | h0
  · exact .inl h0
  · obtain ⟨ad, _, h1, h2, _⟩ := h.2 0 h0
    refine .inr ⟨ad, h1, h2, fun k u hk => ?_⟩
    rw [encF_flat, flat_get cellsF 3 (fun _ => rfl) (by omega)] at hk
    obtain ⟨x, hx, hu⟩ := Option.bind_eq_some_iff.1 hk
    have hlt := (List.getElem?_eq_some_iff.1 hx).1
    obtain ⟨ad', y, h1', _, hy, c0, c1, c2⟩ := h.2 (k / 3) (by rw [← h.1]; exact hlt)
    rw [h1] at h1'
    injection h1' with h1'
    subst h1'
    rw [hx] at hy
    injection hy with hy
    subst hy
    have hm : k % 3 = 0 ∨ k % 3 = 1 ∨ k % 3 = 2 := by omega
    rcases hm with hm | hm | hm
    · rw [hm] at hu
      rw [show k = k / 3 * 3 by omega, c0]; exact hu
    · rw [hm] at hu
      rw [show k = k / 3 * 3 + 1 by omega, c1]; exact hu
    · rw [hm] at hu
      rw [show k = k / 3 * 3 + 2 by omega, c2]; exact hu
theorem encF_one {l : List Ft} : ∀ u ∈ encF l, u.oneCell' = true := by
  intro u hu
  rw [encF_flat, List.mem_flatMap] at hu
  obtain ⟨f, _, hf⟩ := hu
  unfold cellsF at hf
  simp only [List.mem_cons, List.not_mem_nil, or_false] at hf
  rcases hf with rfl | rfl | rfl <;> rfl
theorem ft_case (g h : Ft) : (g = h) ∨ (¬ g.v = h.v) ∨ (g.v = h.v ∧ ¬ g.p = h.p) ∨ (g.v = h.v ∧ g.p = h.p ∧ ¬ g.o = h.o) := by
  by_cases e1 : g.v = h.v
  · by_cases e2 : g.p = h.p
    · by_cases e3 : g.o = h.o
      · exact .inl (by cases g; cases h; simp at e1 e2 e3; simp [e1, e2, e3])
      · exact .inr (.inr (.inr ⟨e1, e2, e3⟩))
    · exact .inr (.inr (.inl ⟨e1, e2⟩))
  · exact .inr (.inl e1)
set_option maxHeartbeats 2000000 in
theorem ref_SameF (A C : Option Addr) (n m c cc : Nat) (l r : List Ft) (w : World) (hn : n ≤ 1000000) (hr : RdF w A n l) (hr2 : RdF w C m r) :
    Calls Tryd.prog 34 #[.slice A n c, .slice C m cc] w fun e w' => e = .returned (.bool (decide (l = r))) ∧ Dr w w' := by
  have hl := hide hr.1
  have hl2 := hide hr2.1
  have hnI : (n : Int) ≤ 1000000 := by omega
  by_cases hnm : n = m
  · subst hnm
    go_enter Tryd.func34, Tryd.ntmps34
    go_wp2
    go_loopw [5] (fun i wr => ∃ k : Nat, k ≤ n ∧ i = .int .i64 k ∧ Dr w wr ∧ Hid (l.take k = r.take k)) (fun i _ => n - (intOf i).toNat)
    case atStart => exact ⟨0, Nat.zero_le _, rfl, Dr.refl _, hide rfl⟩
    case round =>
      obtain ⟨k, hk, rfl, hd, hg⟩ := hrel
      have hkI : (k : Int) ≤ 1000000 := by omega
      by_cases hlt : k < n
      · obtain ⟨ad, x, rfl, hB, hx, hc0, hc1, hc2⟩ := (hr.below (hd.below w.heap.size) (Nat.le_refl _)).get hlt
        obtain ⟨ad2, y, rfl, hB2, hy, hd0, hd1, hd2⟩ := (hr2.below (hd.below w.heap.size) (Nat.le_refl _)).get hlt
        have HN := hide (fun (h : x ≠ y) => show decide (l = r) = false by
          rw [decide_eq_false_iff_not]; rintro rfl; rw [hx] at hy; exact h (Option.some.inj hy))
        have HY := hide (fun (h : x = y) => show l.take (k + 1) = r.take (k + 1) by rw [List.take_add_one, List.take_add_one, hx, hy, hg.out, h])
        clear hx hy
        rcases ft_case x y with rfl | e1 | ⟨e1, e2⟩ | ⟨e1, e2, e3⟩
        · have hok := hide (HY.out rfl)
          go_wp2
          go_quiet (fail)
          go_wp2
          go_roundw
          case rel => exact ⟨k + 1, hlt, by go_num, hd.more _, hok⟩
          case measure => simp [intOf]; omega
        all_goals
          have hno := hide (HN.out (by rintro rfl; first | exact e1 rfl | exact e2 rfl | exact e3 rfl))
          clear HN HY
          go_wp2
          go_quiet (fail)
          go_wp2
          go_ret
          exact ⟨ret_bool hno.out.symm, hd.more _⟩
      · have hkn : k = n := by omega
        subst hkn
        go_wp2
        go_ret
        refine ⟨ret_bool ?_, hd⟩
        have := hg.out
        rw [List.take_of_length_le (by rw [hl.out]; exact Nat.le_refl _), List.take_of_length_le (by rw [hl2.out]; exact Nat.le_refl _)] at this
        exact (decide_eq_true this).symm
  · have hne : ¬ (n : Int) = m := by omega
    have e1 : ((n : Int) != m) = true := by simp; omega
    go_enter Tryd.func34, Tryd.ntmps34
    go_wp2
    go_ret
    refine ⟨ret_bool (Eq.symm (decide_eq_false ?_)), Dr.refl _⟩
    intro h
    exact hnm (hl.out.symm.trans ((congrArg List.length h).trans hl2.out))
theorem same_yes {A C : Option Addr} {n m c cc : Nat} {l : List Ft} (w : World) (hn : n ≤ 1000000) (hr : RdF w A n l) (hr2 : RdF w C m l) :
    Calls Tryd.prog 34 #[.slice A n c, .slice C m cc] w fun e w' => e = .returned (.bool true) ∧ Dr w w' :=
  (ref_SameF A C n m c cc l l w hn hr hr2).mono fun e w' ⟨h1, h2⟩ => ⟨by rw [h1, decide_eq_true rfl], h2⟩
end Go.Proofs.YtcjoohaagdihlaaDoor.Fault
