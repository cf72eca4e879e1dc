/- Slices of nodes read as lists; contracts on whether a fault is good. -/
import Derived.Test.YtcjoohaagdihlaaDoorLit2
import Derived.Outline
namespace Go.Proofs.YtcjoohaagdihlaaDoor.Fault
open Go.RowKit Go.Lt Go.Proofs.YtcjoohaagdihlaaDoor.Lit
set_option linter.unusedVariables false
set_option linter.unusedSimpArgs false

structure Nd where
  A : Int
  B : Int
deriving DecidableEq, Repr
structure Ft where
  v : Int
  p : Int
  o : Bool
deriving DecidableEq, Repr
/-- a slice of nodes reads as a list -/
def RdN (w : World) (A : Option Addr) (n : Nat) (l : List Nd) : Prop :=
  l.length = n ∧ ∀ k, k < n → ∃ ad x, A = some ad ∧ ad.block < w.heap.size ∧ l[k]? = some x ∧ w.cell? (ad.add (k * 2)) = some (.int .i64 x.A) ∧ w.cell? (ad.add (k * 2 + 1)) = some (.int .i64 x.B)
theorem RdN.nil (w : World) (A : Option Addr) : RdN w A 0 [] := ⟨rfl, fun _ h => absurd h (Nat.not_lt_zero _)⟩
theorem RdN.keep {w w' : World} {A : Option Addr} {n : Nat} {l : List Nd} (h : RdN w A n l) (hs : w.heap.size ≤ w'.heap.size) (hc : ∀ p : Addr, p.block < w.heap.size → w'.cell? p = w.cell? p) : RdN w' A n l :=
  ⟨h.1, fun k hk => by
    obtain ⟨ad, x, h1, h2, h3, h4, h5⟩ := h.2 k hk
    exact ⟨ad, x, h1, Nat.lt_of_lt_of_le h2 hs, h3, (hc _ (by rw [add_block]; exact h2)).trans h4, (hc _ (by rw [add_block]; exact h2)).trans h5⟩⟩
theorem RdN.below {w w' : World} {A : Option Addr} {n B : Nat} {l : List Nd} (h : RdN w A n l) (hb : Below B w w') (hB : w.heap.size ≤ B) : RdN w' A n l :=
  h.keep hb.size fun _ hp => hb.cell (Nat.lt_of_lt_of_le hp hB)

/-- whether a fault is good -/
def goodF (l : List Nd) (f : Ft) : Bool := decide (1 ≤ f.v ∧ f.v ≤ l.length ∧ (f.p = 0 ∨ ((f.p = 1 ∨ f.p = 2) ∧ 0 ≤ ((l[(f.v - 1).toNat]?).getD ⟨0, 0⟩).A)))

theorem addr_off (ad : Addr) (n j : Nat) (hj : 0 < j) : (⟨(ad.add n).block, (ad.add n).off + j, none⟩ : Addr) = ad.add (n + j) := by
  unfold Addr.add
  rw [if_neg (show ¬ n + j = 0 by omega)]
  split
  · rename_i h; subst h; simp
  · simp [Nat.add_assoc]
theorem RdN.get {w : World} {A : Option Addr} {n k : Nat} {l : List Nd} (h : RdN w A n l) (hk : k < n) :
    ∃ ad x, A = some ad ∧ ad.block < w.heap.size ∧ l[k]? = some x ∧ w.cell? (ad.add (k * 2)) = some (.int .i64 x.A) ∧ w.cell? ⟨(ad.add (k * 2)).block, (ad.add (k * 2)).off + 1, none⟩ = some (.int .i64 x.B) ∧
      (∀ o, (w.alloc o).cell? (ad.add (k * 2)) = some (.int .i64 x.A)) ∧ (∀ o, (w.alloc o).cell? ⟨(ad.add (k * 2)).block, (ad.add (k * 2)).off + 1, none⟩ = some (.int .i64 x.B)) := by
  obtain ⟨ad, x, h1, h2, h3, h4, h5⟩ := h.2 k hk
  exact ⟨ad, x, h1, h2, h3, h4, by rw [addr_off _ _ _ (by omega)]; exact h5, fun o => (World.cell?_alloc_lt w o _ (by rw [add_block]; exact h2)).trans h4, fun o => by rw [addr_off _ _ _ (by omega)]; exact (World.cell?_alloc_lt w o _ (by rw [add_block]; exact h2)).trans h5⟩
theorem goodF_no {l : List Nd} {f : Ft} (h : ¬ (1 ≤ f.v ∧ f.v ≤ l.length ∧ (f.p = 0 ∨ f.p = 1 ∨ f.p = 2))) : goodF l f = false := by
  unfold goodF; rw [decide_eq_false_iff_not]; rintro ⟨h1, h2, h3⟩; exact h ⟨h1, h2, by omega⟩
theorem goodF_zero {l : List Nd} {f : Ft} (h1 : 1 ≤ f.v) (h2 : f.v ≤ l.length) (h : f.p = 0) : goodF l f = true := by
  unfold goodF; rw [decide_eq_true_iff]; exact ⟨h1, h2, .inl h⟩
theorem goodF_pin {l : List Nd} {f : Ft} {k : Nat} {x : Nd} (hk : f.v - 1 = (k : Int)) (hx : l[k]? = some x) (h : f.p = 1 ∨ f.p = 2) : goodF l f = decide (0 ≤ x.A) := by
  have hl := (List.getElem?_eq_some_iff.1 hx).1
  unfold goodF
  rw [show (f.v - 1).toNat = k by omega, hx, Bool.eq_iff_iff, decide_eq_true_iff, decide_eq_true_iff]
  constructor
  · rintro ⟨_, _, h3⟩
    rcases h3 with h3 | h3
    · omega
    · exact h3.2
  · intro h3; exact ⟨by omega, by omega, .inr ⟨h, h3⟩⟩

set_option maxHeartbeats 800000 in
theorem fault_Good (A : Option Addr) (n c : Nat) (l : List Nd) (f : Ft) (w : World) (hn : n ≤ 1000000) (hr : RdN w A n l) :
    Calls Tryd.prog 31 #[.slice A n c, .agg #[.int .i64 f.v, .int .i64 f.p, .bool f.o]] w fun e w' => e = .returned (.bool (goodF l f)) ∧ Below w.heap.size w w' := by
  have hnI : (n : Int) ≤ 1000000 := by omega
  have hl := hide hr.1
  obtain ⟨v, p, o⟩ := f
  have HN := hide (@goodF_no l ⟨v, p, o⟩)
  have HZ := hide (@goodF_zero l ⟨v, p, o⟩)
  have HP := hide (fun k x => @goodF_pin l ⟨v, p, o⟩ k x)
  by_cases hv1 : v < 1
  · have hR := hide (HN.out (by simp only; omega))
    have d1 : decide (v < 1) = true := by rw [decide_eq_true_iff]; exact hv1
    go_enter Tryd.func31, Tryd.ntmps31
    go_wp2
    go_ret
    exact ⟨ret_bool hR.out.symm, (Below.refl _ _).alloc (Nat.le_refl _) _⟩
  have d1 : decide (v < 1) = false := by rw [decide_eq_false_iff_not]; exact hv1
  by_cases hv2 : (n : Int) < v
  · have hR := hide (HN.out (by simp only; have := hl.out; omega))
    have d2 : decide ((n : Int) < v) = true := by rw [decide_eq_true_iff]; exact hv2
    go_enter Tryd.func31, Tryd.ntmps31
    go_wp2
    go_ret
    exact ⟨ret_bool hR.out.symm, (Below.refl _ _).alloc (Nat.le_refl _) _⟩
  have d2 : decide ((n : Int) < v) = false := by rw [decide_eq_false_iff_not]; exact hv2
  by_cases hp1 : p < 0
  · have hR := hide (HN.out (by simp only; omega))
    have d3 : decide (p < 0) = true := by rw [decide_eq_true_iff]; exact hp1
    go_enter Tryd.func31, Tryd.ntmps31
    go_wp2
    go_ret
    exact ⟨ret_bool hR.out.symm, (Below.refl _ _).alloc (Nat.le_refl _) _⟩
  have d3 : decide (p < 0) = false := by rw [decide_eq_false_iff_not]; exact hp1
  by_cases hp2 : 2 < p
  · have hR := hide (HN.out (by simp only; omega))
    have d4 : decide (2 < p) = true := by rw [decide_eq_true_iff]; exact hp2
    go_enter Tryd.func31, Tryd.ntmps31
    go_wp2
    go_ret
    exact ⟨ret_bool hR.out.symm, (Below.refl _ _).alloc (Nat.le_refl _) _⟩
  have d4 : decide (2 < p) = false := by rw [decide_eq_false_iff_not]; exact hp2
  by_cases hp0 : p = 0
  · have hR := hide (HZ.out (by simp only; omega) (by simp only; have := hl.out; omega) hp0)
    subst hp0
    go_enter Tryd.func31, Tryd.ntmps31
    go_wp2
    go_ret
    exact ⟨ret_bool hR.out.symm, (Below.refl _ _).alloc (Nat.le_refl _) _⟩
  have d5 : (p == 0) = false := by rw [beq_eq_false_iff_ne]; exact hp0
  obtain ⟨k, hk⟩ := Int.eq_ofNat_of_zero_le (show 0 ≤ v - 1 by omega)
  have hkn : k < n := by omega
  obtain ⟨ad, x, rfl, hB, hx, hc, hc2, hca, hcb⟩ := hr.get hkn
  have hR := hide (HP.out k _ hk hx (by simp only; omega))
  have hi : v - 1 = (k : Int) := hk
  have hkI : (k : Int) < n := by omega
  clear hx hk hc2 hcb HN HZ HP
  obtain ⟨a, b⟩ := x
  simp only at hc hca
  have hR : Hid (goodF l ⟨v, p, o⟩ = decide (0 ≤ a)) := hR
  cases ha : decide (0 ≤ a)
  all_goals
    rw [ha] at hR
    have ha' : decide (0 ≤ a) = _ := ha
    go_enter Tryd.func31, Tryd.ntmps31
    go_wp2
    go_ret
    exact ⟨ret_bool hR.out.symm, (Below.refl _ _).alloc (Nat.le_refl _) _⟩
end Go.Proofs.YtcjoohaagdihlaaDoor.Fault
