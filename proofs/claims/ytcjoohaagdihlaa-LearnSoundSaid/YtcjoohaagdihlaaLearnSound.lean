/- LearnSound of the seat: for every input the law returns true and its arguments read as before. It holds for every input; there is no condition. -/
import Derived.Test.YtcjoohaagdihlaaRows
import Derived.WalkKit
import Derived.ProofKit
import Derived.OpenShut
import Derived.ShutString
import Derived.ChangeOld
import Derived.Below
import Derived.Test.YtcjoohaagdihlaaOpen1
import Derived.Test.YtcjoohaagdihlaaLearnOpen
import Derived.Test.YtcjoohaagdihlaaSound3
namespace Go.Proofs.Ytcjoohaagdihlaa.learnSound
open Go.ChangeShapes Go.WideShapes Go.ChangeAt Go.RowKit
open Go.ChangeMaps (open_string shut_string)
set_option linter.unusedVariables false

theorem own : ownKnob Try.prog.godebug = none := by kernel_rfl
theorem laidOut : laidOutB Try.prog = true := by kernel_rfl
open Go.Lt
open Go.Proofs.Ytcjoohaagdihlaa.Lit
theorem walk (a0 : Option Addr) (n0 c0 : Nat) (y0 : List Learn.St) (a1 : Option Addr) (n1 c1 : Nat) (l1 : List Int) (W : World)  (hn0 : n0 ≤ c0) (hc0 : c0 ≤ maxLen) (r0 : Learn.RdT W a0 n0 y0) (w0 : ∀ s ∈ y0, Learn.WfSt s) (hn1 : n1 ≤ c1) (hc1 : c1 ≤ maxLen) (r1 : Rd W a1 n1 (l1.map (Value.int .i64))) (u1 : ∀ x ∈ l1, (Lit.int .i64 x).wf = true) :
    Calls Try.prog 6 #[.slice a0 n0 c0, .slice a1 n1 c1] W fun e w' => e = .returned (.bool true) ∧ Below W.heap.size W w' := by
  exact Learn.law_LearnSound a0 n0 c0 y0 a1 n1 c1 l1 W hn0 (Nat.le_trans hn0 hc0) r0 (Nat.le_trans hn1 hc1) r1

set_option maxRecDepth 100000 in
theorem lifted (os : Os) (started : os.Started) (H : Type) (enc : TypeId × Value → H) :
    ReturnsInHanded {} Try.checked os 6 .any (Rows.learnSoundSpec.pre6 enc Try.prog Try.f6 Rows.learnSoundRow.domain false) (Rows.learnSoundSpec.post enc Try.prog Try.f6 false true false false) := by
  refine returnsInHanded_of_change (C := Try.checked) own started (by kernel_rfl) Try.func6
    (ChangeSpec.witness6 (enc := enc) (C := Try.checked) false ⟨#[], #[.slice none 0 0, .slice none 0 0], []⟩ 8 (by kernel_rfl) (by kernel_rfl) (by kernel_rfl) (by kernel_rfl)) ?_
  intro W base args ds gs before hval0 hW hcnd _
  have hval : ∀ (j : Nat) t v, Try.f6.params[j]? = some t → args[j]? = some v → Value.okWide Try.prog W .any base t v := hval0
  have hW' := hW
  obtain ⟨p, q, hA0, hV, rfl, hfz, hnd⟩ := hW
  have hA : DataW.TrodAll enc Try.prog W 0 (fun _ => true) true Try.f6.params.toList args.toList ds p := hA0
  rw [Try.params6] at hA hval
  obtain ⟨v0, vs0, d0, ds0, p0, q0, hargs, rfl, rfl, h0, r0x⟩ := trodAll_cons hA
  obtain ⟨v1, vs1, d1, ds1, p1, q1, rfl, rfl, rfl, h1, r1x⟩ := trodAll_cons r0x
  obtain ⟨rfl, rfl, rfl⟩ := trodAll_nil r1x
  obtain rfl : args = #[v0, v1] := by cases args; simp_all
  obtain ⟨rfl, rfl⟩ := trodVars_none hV
  have k0 := h0
  have lt0 : ∀ x ∈ p0, x.block < W.heap.size := by obtain ⟨m, hm⟩ := k0; exact DataW.trod_lt m _ _ _ hm
  have k1 := h1
  have lt1 : ∀ x ∈ p1, x.block < W.heap.size := by obtain ⟨m, hm⟩ := k1; exact DataW.trod_lt m _ _ _ hm
  obtain ⟨a0, n0, c0, y0, rfl, hn0, hc0, r0, w0⟩ := Learn.open_steps_rd Try.underlying39 Try.underlying51 (by kernel_rfl) Try.underlying3 Try.underlying3 Try.underlying40 Try.underlying3 (by kernel_rfl) (by kernel_rfl) (by kernel_rfl) (by kernel_rfl) rfl rfl rfl (hval 0 39 v0 rfl rfl) k0
  obtain ⟨a1, n1, c1, l1, rfl, hn1, hc1, r1, u1⟩ := open_ints_rd Try.underlying40 Try.underlying3 (by kernel_rfl) (hval 1 40 v1 rfl rfl) k1
  clear hA0
  refine (walk a0 n0 c0 y0 a1 n1 c1 l1 W  hn0 hc0 r0 w0 hn1 hc1 r1 u1).mono fun e W' ⟨he, bel⟩ => ?_
  subst he
  exact ⟨_, rfl, _, _, _, [], _, [], hW', trodAll_mk1 (shut_bool Try.underlying4 _), (trodAll_cons_mk (Below.trod laidOut (by kernel_rfl) (of_decide_eq_true (by kernel_rfl)) h0 bel lt0) (trodAll_cons_mk (Below.trod laidOut (by kernel_rfl) (of_decide_eq_true (by kernel_rfl)) h1 bel lt1) trodAll_mk0)), rfl, bel.frame _, fun h => by cases h⟩


theorem over : Rows.learnSoundRow.holds Try.pinned (OpenSpec.ofChange Rows.learnSoundSpec) :=
  OpenClaim.holds_of_wide 6 Try.f6 rfl rfl rfl rfl rfl rfl rfl ⟨rfl, rfl, rfl, rfl, rfl⟩ rfl rfl rfl rfl rfl (by kernel_rfl) Try.func6 (by kernel_rfl)
    (of_decide_eq_true (by kernel_rfl)) (by unfold Func.isWrapper; first | (rw [if_pos (by decide +kernel)]; kernel_rfl) | (rw [if_neg (by decide +kernel)]; exact ⟨rfl, rfl⟩))
    (fun os started H enc _ => lifted os started H enc)

/-- THE STATEMENT -/
theorem proved : Rows.LearnSoundSaid := over
#print axioms proved
end Go.Proofs.Ytcjoohaagdihlaa.learnSound
