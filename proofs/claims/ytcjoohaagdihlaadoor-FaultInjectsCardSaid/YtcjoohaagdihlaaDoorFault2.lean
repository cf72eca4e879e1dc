/- Slices of faults read as lists; the document's Good; both Lists. -/
import Derived.Test.YtcjoohaagdihlaaDoorFault1
namespace Go.Proofs.YtcjoohaagdihlaaDoor.Fault
open Go.RowKit Go.Lt Go.Proofs.YtcjoohaagdihlaaDoor.Lit
set_option linter.unusedVariables false
set_option linter.unusedSimpArgs false

set_option maxHeartbeats 800000 in
theorem ref_Good (A : Option Addr) (n c : Nat) (l : List Nd) (f : Ft) (w : World) (hn : n ≤ 1000000) (hr : RdN w A n l) :
    Calls Tryd.prog 32 #[.slice A n c, .agg #[.int .i64 f.v, .int .i64 f.p, .bool f.o]] w fun e w' => e = .returned (.bool (goodF l f)) ∧ Below w.heap.size w w' := by
  have hnI : (n : Int) ≤ 1000000 := by omega
  have hl := hide hr.1
  obtain ⟨v, p, o⟩ := f
  have HN := hide (@goodF_no l ⟨v, p, o⟩)
  have HZ := hide (@goodF_zero l ⟨v, p, o⟩)
  have HP := hide (fun k x => @goodF_pin l ⟨v, p, o⟩ k x)
  by_cases hv1 : v < 1
  · have hR := hide (HN.out (by simp only; omega))
    have d1 : decide (0 < v) = false := by rw [decide_eq_false_iff_not]; omega
    go_enter Tryd.func32, Tryd.ntmps32
    go_wp2
    go_ret
    exact ⟨ret_bool hR.out.symm, (Below.refl _ _).alloc (Nat.le_refl _) _⟩
  have d1 : decide (0 < v) = true := by rw [decide_eq_true_iff]; omega
  by_cases hv2 : (n : Int) < v
  · have hR := hide (HN.out (by simp only; have := hl.out; omega))
    have d2 : decide (v ≤ (n : Int)) = false := by rw [decide_eq_false_iff_not]; omega
    go_enter Tryd.func32, Tryd.ntmps32
    go_wp2
    go_ret
    exact ⟨ret_bool hR.out.symm, (Below.refl _ _).alloc (Nat.le_refl _) _⟩
  have d2 : decide (v ≤ (n : Int)) = true := by rw [decide_eq_true_iff]; omega
  by_cases hp0 : p = 0
  · have hR := hide (HZ.out (by simp only; omega) (by simp only; have := hl.out; omega) hp0)
    subst hp0
    go_enter Tryd.func32, Tryd.ntmps32
    go_wp2
    go_ret
    exact ⟨ret_bool hR.out.symm, (Below.refl _ _).alloc (Nat.le_refl _) _⟩
  have d5 : (p == 0) = false := by rw [beq_eq_false_iff_ne]; exact hp0
  by_cases hp12 : p = 1 ∨ p = 2
  · obtain ⟨k, hk⟩ := Int.eq_ofNat_of_zero_le (show 0 ≤ v - 1 by omega)
    have hkn : k < n := by omega
    obtain ⟨ad, x, rfl, hB, hx, hc, hc2, hca, hcb⟩ := hr.get hkn
    have hR := hide (HP.out k _ hk hx hp12)
    have hi : v - 1 = (k : Int) := hk
    have hkI : (k : Int) < n := by omega
    clear hx hk hc2 hcb HN HZ HP
    obtain ⟨a, b⟩ := x
    simp only at hc hca
    have hR : Hid (goodF l ⟨v, p, o⟩ = decide (0 ≤ a)) := hR
    rcases hp12 with rfl | rfl
    all_goals
      cases ha : decide (0 ≤ a)
      all_goals
        rw [ha] at hR
        have ha' : decide (0 ≤ a) = _ := ha
        go_enter Tryd.func32, Tryd.ntmps32
        go_wp2
        go_ret
        exact ⟨ret_bool hR.out.symm, (Below.refl _ _).alloc (Nat.le_refl _) _⟩
  · have hR := hide (HN.out (by simp only; omega))
    have d6 : (p == 1) = false := by rw [beq_eq_false_iff_ne]; omega
    have d7 : (p == 2) = false := by rw [beq_eq_false_iff_ne]; omega
    have d8 : ¬ p = 1 := by omega
    have d9 : ¬ p = 2 := by omega
    clear hp12
    go_enter Tryd.func32, Tryd.ntmps32
    go_wp2
    go_ret
    exact ⟨ret_bool hR.out.symm, (Below.refl _ _).alloc (Nat.le_refl _) _⟩

/-- faults as cells -/
def encF (l : List Ft) : List Value := l.flatMap fun f => [.int .i64 f.v, .int .i64 f.p, .bool f.o]
theorem encF_len (l : List Ft) : (encF l).length = l.length * 3 := by
  unfold encF
  induction l with
  | nil => rfl
  | cons a l ih => rw [List.flatMap_cons, List.length_append, ih]; simp; omega
theorem encF_app (a b : List Ft) : encF (a ++ b) = encF a ++ encF b := by unfold encF; rw [List.flatMap_append]
theorem encF_get (l : List Ft) (k : Nat) (f : Ft) (h : l[k]? = some f) : (encF l)[k * 3]? = some (.int .i64 f.v) ∧ (encF l)[k * 3 + 1]? = some (.int .i64 f.p) ∧ (encF l)[k * 3 + 2]? = some (.bool f.o) := by
  induction l generalizing k with
  | nil => simp at h
  | cons a l ih =>
    have e : encF (a :: l) = [.int .i64 a.v, .int .i64 a.p, .bool a.o] ++ encF l := rfl
    rw [e]
    cases k with
    | zero =>
      have : a = f := by simpa using h
      subst this
      exact ⟨rfl, rfl, rfl⟩
    | succ k =>
      obtain ⟨h1, h2, h3⟩ := ih k (by simpa using h)
      rw [List.getElem?_append_right (by simp; omega), List.getElem?_append_right (by simp; omega), List.getElem?_append_right (by simp; omega)]
      have e0 : (k + 1) * 3 - [Value.int .i64 a.v, .int .i64 a.p, .bool a.o].length = k * 3 := by simp; omega
      have e1 : (k + 1) * 3 + 1 - [Value.int .i64 a.v, .int .i64 a.p, .bool a.o].length = k * 3 + 1 := by simp; omega
      have e2 : (k + 1) * 3 + 2 - [Value.int .i64 a.v, .int .i64 a.p, .bool a.o].length = k * 3 + 2 := by simp; omega
      rw [e0, e1, e2]
      exact ⟨h1, h2, h3⟩
/-- a slice of faults reads as a list -/
def RdF (w : World) (A : Option Addr) (n : Nat) (l : List Ft) : Prop :=
  l.length = n ∧ ∀ k, k < n → ∃ ad x, A = some ad ∧ ad.block < w.heap.size ∧ l[k]? = some x ∧ w.cell? (ad.add (k * 3)) = some (.int .i64 x.v) ∧ w.cell? (ad.add (k * 3 + 1)) = some (.int .i64 x.p) ∧ w.cell? (ad.add (k * 3 + 2)) = some (.bool x.o)
theorem RdF.nil (w : World) (A : Option Addr) : RdF w A 0 [] := ⟨rfl, fun _ h => absurd h (Nat.not_lt_zero _)⟩
theorem RdF.below {w w' : World} {A : Option Addr} {n B : Nat} {l : List Ft} (h : RdF w A n l) (hb : Below B w w') (hB : w.heap.size ≤ B) : RdF w' A n l :=
  ⟨h.1, fun k hk => by
    obtain ⟨ad, x, h1, h2, h3, h4, h5, h6⟩ := h.2 k hk
    have hh : ad.block < B := Nat.lt_of_lt_of_le h2 hB
    exact ⟨ad, x, h1, Nat.lt_of_lt_of_le h2 hb.size, h3, (hb.cell (by rw [add_block]; exact hh)).trans h4, (hb.cell (by rw [add_block]; exact hh)).trans h5, (hb.cell (by rw [add_block]; exact hh)).trans h6⟩⟩
theorem add_lit3 (g o j : Nat) : (⟨g, o, none⟩ : Addr).add j = ⟨g, o + j, none⟩ := by unfold Addr.add; split <;> simp_all
theorem RdF.of_own {w : World} {base n : Nat} {e : TypeId} {v : Value} {l : List Ft} (h : w.ownsRow base e 3 v n (encF l)) : ∃ A c, v = .slice A n c ∧ n ≤ c ∧ c ≤ maxLen ∧ RdF w A n l := by
  have hl : l.length = n := by have := h.1; rw [encF_len] at this; omega
  obtain ⟨_, h2⟩ := h
  rcases h2 with ⟨rfl, rfl⟩ | ⟨g, cap, cur, rfl, hbg, hg, hnc, hcm, hcs, htake⟩
  · exact ⟨none, 0, rfl, Nat.le_refl _, Nat.zero_le _, hl, fun k hk => absurd hk (Nat.not_lt_zero _)⟩
  · refine ⟨some ⟨g, 0, none⟩, cap, rfl, hnc, hcm, hl, fun k hk => ?_⟩
    have hx : l[k]? = some (l[k]'(by omega)) := List.getElem?_eq_getElem _
    have hcell := World.ownsRow.cells (w := w) (v := .slice (some ⟨g, 0, none⟩) n cap) ⟨by rw [encF_len, hl], .inr ⟨g, cap, cur, rfl, hbg, hg, hnc, hcm, hcs, htake⟩⟩ rfl
    obtain ⟨h1, h2, h3⟩ := encF_get l k _ hx
    refine ⟨_, _, rfl, (Array.getElem?_eq_some_iff.1 hg).1, hx, ?_, ?_, ?_⟩
    · exact hcell _ _ h1
    · exact hcell _ _ h2
    · exact hcell _ _ h3

/-- the fault of a variable and a number below six -/
def ft (v k : Nat) : Ft := ⟨(v : Int), ((k / 2 : Nat) : Int), decide (k % 2 = 1)⟩
def blkF (l : List Nd) (i k : Nat) : List Ft := ((List.range k).map (ft (i + 1))).filter (goodF l)
def partF (l : List Nd) (i k : Nat) : List Ft := (List.range i).flatMap (fun i => blkF l i 6) ++ blkF l i k
def listF (l : List Nd) : List Ft := (List.range l.length).flatMap fun i => blkF l i 6
theorem partF_next (l : List Nd) (i : Nat) : partF l i 6 = partF l (i + 1) 0 := by
  unfold partF
  rw [List.range_succ, List.flatMap_append]
  simp [blkF]
theorem blkF_succ (l : List Nd) (i k : Nat) : blkF l i (k + 1) = blkF l i k ++ (if goodF l (ft (i + 1) k) then [ft (i + 1) k] else []) := by
  unfold blkF
  rw [List.range_succ, List.map_append, List.filter_append]
  congr 1
  cases h : goodF l (ft (i + 1) k) <;> simp [h]
theorem partF_yes {l : List Nd} {i k : Nat} (h : goodF l (ft (i + 1) k) = true) : partF l i (k + 1) = partF l i k ++ [ft (i + 1) k] := by
  unfold partF
  rw [blkF_succ, if_pos h, List.append_assoc]
theorem partF_no {l : List Nd} {i k : Nat} (h : goodF l (ft (i + 1) k) = false) : partF l i (k + 1) = partF l i k := by
  unfold partF
  rw [blkF_succ, h]
  simp
theorem partF_all (l : List Nd) : partF l l.length 0 = listF l := by unfold partF listF blkF; simp
theorem partF_len (l : List Nd) (i k : Nat) : (partF l i k).length ≤ 6 * i + k := by
  unfold partF
  rw [List.length_append]
  have h1 : ∀ i k, (blkF l i k).length ≤ k := fun i k => by
    unfold blkF
    exact Nat.le_trans (List.length_filter_le _ _) (by simp)
  have h2 : ((List.range i).flatMap fun i => blkF l i 6).length ≤ 6 * i := by
    induction i with
    | zero => simp
    | succ i ih =>
      rw [List.range_succ, List.flatMap_append, List.length_append]
      have := h1 i 6
      simp at *
      omega
  have := h1 i k
  omega
theorem info_f : (Tryd.prog.info? 54).map (fun i => (i.zero, i.size, i.bytes)) = some (some (.agg #[.int .i64 0, .int .i64 0, .bool false]), 3, 24) := by kernel_rfl
theorem goodR_is {A : Option Addr} {n c : Nat} {l : List Nd} {f : Ft} {b : Bool} (h : goodF l f = b) (hn : n ≤ 1000000) (w : World) (hr : RdN w A n l) :
    Calls Tryd.prog 32 #[.slice A n c, .agg #[.int .i64 f.v, .int .i64 f.p, .bool f.o]] w fun e w' => e = .returned (.bool b) ∧ Below w.heap.size w w' := by
  subst h; exact ref_Good A n c l f w hn hr
theorem goodP_is {A : Option Addr} {n c : Nat} {l : List Nd} {f : Ft} {b : Bool} (h : goodF l f = b) (hn : n ≤ 1000000) (w : World) (hr : RdN w A n l) :
    Calls Tryd.prog 31 #[.slice A n c, .agg #[.int .i64 f.v, .int .i64 f.p, .bool f.o]] w fun e w' => e = .returned (.bool b) ∧ Below w.heap.size w w' := by
  subst h; exact fault_Good A n c l f w hn hr
end Go.Proofs.YtcjoohaagdihlaaDoor.Fault
