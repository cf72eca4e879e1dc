/- Contracts on a number's lowest bits. -/
import Derived.Test.YtcjoohaagdihlaaDoorStart1
import Derived.Test.YtcjoohaagdihlaaDoorCirc1
namespace Go.Proofs.YtcjoohaagdihlaaDoor.CubeStart
open Go.RowKit Go.Lt Go.Proofs.YtcjoohaagdihlaaDoor.Lit Go.Proofs.YtcjoohaagdihlaaDoor.Circ
set_option linter.unusedVariables false
set_option linter.unusedSimpArgs false

theorem bitsOf_snoc (i : Nat) : ∀ n, bitsOf n (i + 1) = bitsOf n i ++ [decide ((n / 2 ^ i) % 2 = 1)] := by
  induction i with
  | zero => intro n; simp [bitsOf]
  | succ i ih =>
    intro n
    rw [bitsOf, ih (n / 2), bitsOf, List.cons_append, Nat.div_div_eq_div_mul, Nat.pow_succ, Nat.mul_comm 2]
def BitsIs (n many : Nat) (w : World) (e : Ending) (w' : World) : Prop :=
  ∃ v, e = .returned v ∧ w'.ownsRow w.heap.size 4 1 v many (bvs (bitsOf n many)) ∧ Below w.heap.size w w'

set_option maxHeartbeats 2000000 in
theorem ref_bits (n many : Nat) (w : World) (hn : n ≤ 1000) (hm : many ≤ 1000) :
    Calls Tryd.prog 85 #[.int .i64 n, .int .i64 many] w (BitsIs n many w) := by
  have hmI : (many : Int) ≤ 1000 := by omega
  have hN := hide hn
  clear hn
  go_enter Tryd.func85, Tryd.ntmps85
  go_wp2
  go_loopw [0, 5, 6] (fun x u i wr => ∃ k c : Nat, k ≤ many ∧ i = .int .i64 k ∧ x = .int .i64 c ∧ Hid (c = n / 2 ^ k) ∧ wr.ownsRow w.heap.size 4 1 u k (bvs (bitsOf n k)) ∧ Below w.heap.size w wr) (fun _ _ i _ => many - (intOf i).toNat)
  case atStart => exact ⟨0, n, Nat.zero_le _, rfl, rfl, hide (by simp), made_empty _ _ _ _ (Nat.le_refl _), (Below.refl _ _).alloc (Nat.le_refl _) _⟩
  case round =>
    obtain ⟨k, c, hk, rfl, rfl, hc, hown, hb⟩ := hrel
    have hkI : (k : Int) ≤ 1000 := by omega
    have hcI : (c : Int) ≤ 1000 := by have h1 := hc.out; have h2 := hN.out; have h3 := Nat.div_le_self n (2 ^ k); omega
    obtain ⟨U, cU, rfl, _, _, _⟩ := Rd.of_own hown
    by_cases hlt : k < many
    · obtain ⟨t, ht⟩ : ∃ t, ((c : Int) % 2 == 1) = t := ⟨_, rfl⟩
      have hT := hide (show bitsOf n (k + 1) = bitsOf n k ++ [t] by
        rw [bitsOf_snoc, ← hc.out, ← ht]
        congr 2
        rw [Bool.eq_iff_iff, decide_eq_true_iff, beq_iff_eq]; omega)
      obtain ⟨d, hdd⟩ : ∃ d : Nat, c / 2 = d := ⟨_, rfl⟩
      have hd : (c : Int) / 2 = (d : Int) := by omega
      have hc2 := hide (show d = n / 2 ^ (k + 1) by rw [← hdd, hc.out, Nat.div_div_eq_div_mul, Nat.pow_succ])
      clear hdd
      have h63 := hide (show k + 1 ≤ maxLen by unfold maxLen; omega)
      have hby := hide (show (k + 1) * 1 ≤ 140737488355328 by omega)
      go_wp2_with (at_builtin; refine wpList_pushG rfl _ _ _ rfl Tryd.underlying30 info_b rfl (by decide) rfl (by first | rfl | simp [go_sem]) hown hb (Nat.le_refl _) rfl (by simp [Value.oneCell']) h63.out hby.out ?_; intro v6 w6 hown6 hb6 hgr6)
      go_roundw
      case rel => exact ⟨k + 1, d, hlt, by go_num, rfl, hc2, by rw [hT.out, bvs_app]; exact hown6, hb6⟩
      case measure => simp [intOf]; omega
    · have hkm : k = many := by omega
      subst hkm
      go_wp2
      go_ret
      exact ⟨_, rfl, hown, hb⟩
theorem ref_Bits (n many : Nat) (w : World) (hn : n ≤ 1000) (hm : many ≤ 1000) :
    Calls Tryd.prog 21 #[.int .i64 n, .int .i64 many] w (BitsIs n many w) := by
  have HB := hide (ref_bits n many w hn hm)
  unfold BitsIs at *
  clear hn hm
  go_enter Tryd.func21, Tryd.ntmps21
  go_wp2_with fail
  refine HB.out.mono ?_
  rintro e w1 ⟨v, rfl, hown, hb⟩
  go_wp2
  go_ret
  exact ⟨v, rfl, hown, hb⟩
end Go.Proofs.YtcjoohaagdihlaaDoor.CubeStart
