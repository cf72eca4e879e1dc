/- The example of the laws on faults. -/
import Derived.Test.YtcjoohaagdihlaaDoorFault3
import Derived.Test.YtcjoohaagdihlaaDoorFault4
import Derived.Test.YtcjoohaagdihlaaDoorFault10
import Derived.Test.YtcjoohaagdihlaaDoorFaultEnc
import Derived.Test.YtcjoohaagdihlaaDoorFaultSame1
import Derived.Test.YtcjoohaagdihlaaDoorFaultTxt1
import Derived.Deep.RegionWith
namespace Go.Proofs.YtcjoohaagdihlaaDoor.Fault
open Go.RowKit Go.Lt Go.Proofs.YtcjoohaagdihlaaDoor.Lit Go.Proofs.YtcjoohaagdihlaaDoor.Dec Go.Instr
set_option linter.unusedVariables false
set_option linter.unusedSimpArgs false

def exN : List Nd := [⟨-1, 0⟩, ⟨-1, 0⟩, ⟨2, 4⟩]
theorem ex_good : GoodNet exN := by
  intro i x hx h
  match i, hx with
  | 0, hx => injection hx with hx; subst hx; simp at h
  | 1, hx => injection hx with hx; subst hx; simp at h
  | 2, hx => injection hx with hx; subst hx; simp
  | n + 3, hx => simp [exN] at hx
theorem ex_outs : GoodOuts exN [6] := by
  intro x hx
  simp at hx
  subst hx
  simp [exN]
theorem ex_list : (listF exN).length = 10 := by kernel_rfl
theorem ex_coll : (collP exN [6] (listF exN)).length = 4 ∧ (collP exN [6] (listF exN))[0]? = some ⟨3, 0, false⟩ := ⟨by kernel_rfl, by kernel_rfl⟩
theorem ex_text : textF ⟨3, 1, true⟩ = [51, 46, 49, 47, 49] := by
  unfold textF pinT
  rw [if_neg (by decide), show (3 : Int) = ((3 : Nat) : Int) from rfl, show (1 : Int) = ((1 : Nat) : Int) from rfl, itoa_nat, itoa_nat, Lib.decDigits_one (by omega), Lib.decDigits_one (by omega)]
  rfl
theorem textF_is {f : Ft} {t : List UInt8} (h : textF f = t) (h0 : -9223372036854775808 ≤ f.v) (h1 : f.v ≤ 9223372036854775807) (h2 : -9223372036854775808 ≤ f.p) (h3 : f.p ≤ 9223372036854775807) (w : World) (hp : Pows w) :
    Calls Tryd.prog 74 #[.agg #[.int .i64 f.v, .int .i64 f.p, .bool f.o]] w fun e w' => e = .returned (.string ⟨t.toArray⟩) ∧ Below w.heap.size w w' := by subst h; exact fault_Text f h0 h1 h2 h3 w hp

theorem lives (w : World) (hp : Pows w) : Calls Tryd.prog 30 #[] w fun e w' => e = .returned (.bool true) ∧ Below w.heap.size w w' := by
  have b1 := (Below.refl w.heap.size w).alloc (Nat.le_refl _) (.cells #[.int .i64 (-1), .int .i64 0, .int .i64 (-1), .int .i64 0, .int .i64 2, .int .i64 4] 111)
  have hrn : RdN (w.alloc (.cells #[.int .i64 (-1), .int .i64 0, .int .i64 (-1), .int .i64 0, .int .i64 2, .int .i64 4] 111)) (some ⟨w.heap.size, 0, none⟩) 3 exN := RdN.of_blk (l := exN) (Blk.new w _ _)
  have HT := hide (fun W hW => textF_is (f := ⟨3, 1, true⟩) ex_text (by decide) (by decide) (by decide) (by decide) W hW)
  go_enter Tryd.func30, Tryd.ntmps30
  go_wp2_with fail
  refine (fault_List _ _ _ exN _ (by omega) hrn).mono ?_
  rintro e w2 ⟨v, m, rfl, hown, hb2⟩
  have hm : m = 10 := by have h1 := hown.1; rw [encF_len, ex_list] at h1; omega
  subst hm
  obtain ⟨F, cF, rfl, _, _, hrf⟩ := RdF.of_own hown
  have hrn2 := hrn.below hb2 (Nat.le_refl _)
  have hB2 := hide (b1.trans (hb2.mono b1.size))
  clear hown hb2
  have b3 := (Below.refl w2.heap.size w2).alloc (Nat.le_refl _) (.cells #[.int .i64 6] 3)
  have hro : Rd (w2.alloc (.cells #[.int .i64 6] 3)) (some ⟨w2.heap.size, 0, none⟩) 1 (ivs [6]) := by
    refine ⟨rfl, fun k hk => ?_⟩
    have : k = 0 := by omega
    subst this
    exact ⟨_, _, rfl, by simp, rfl, (Blk.new w2 3 #[.int .i64 6]).cell 0⟩
  go_wp2_with fail
  refine (fault_Collapse _ _ _ 3 1 10 _ _ _ exN [6] (listF exN) _ (by omega) (by omega) (by omega) (hrn2.below b3 (Nat.le_refl _)) hro (hrf.below b3 (Nat.le_refl _)) ex_good ex_outs).mono ?_
  rintro e w4 ⟨v, m, rfl, hown, hb4⟩
  have hm : m = 4 := by have h1 := hown.1; rw [encF_len, ex_coll.1] at h1; omega
  subst hm
  obtain ⟨G, cG, rfl, _, _, hrg⟩ := RdF.of_own hown
  obtain ⟨ad, x, rfl, hB, hx, hc0, hc1, hc2⟩ := hrg.get (k := 0) (by omega)
  rw [ex_coll.2] at hx
  injection hx with hx
  subst hx
  have hB4 := hide (hB2.out.trans ((b3.trans (hb4.mono b3.size)).mono hB2.out.size))
  clear hown hb4 b3 hro
  have ez : ad.add 0 = ad := by unfold Addr.add; rw [if_pos rfl]
  simp only [Nat.zero_mul, ez] at hc0 hc1 hc2
  go_wp2_with fail
  refine (HT.out _ (hp.below hB4.out)).mono ?_
  rintro e w5 ⟨rfl, hb5⟩
  have hB5 := hide (hB4.out.trans (hb5.mono hB4.out.size))
  clear hb5
  go_wp2
  go_ret
  exact ⟨rfl, hB5.out⟩
end Go.Proofs.YtcjoohaagdihlaaDoor.Fault
