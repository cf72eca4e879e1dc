/- WatchNone of the seat: for every input the law returns true and its arguments read as before. It holds for every input; there is no condition. -/
import Derived.Test.YtcjoohaagdihlaaRows
import Derived.WalkKit
import Derived.ProofKit
import Derived.OpenShut
import Derived.ShutString
import Derived.ChangeOld
import Derived.Below
import Derived.Test.YtcjoohaagdihlaaOpen1
import Derived.Test.YtcjoohaagdihlaaOpenSz
import Derived.Test.YtcjoohaagdihlaaWatchN
namespace Go.Proofs.Ytcjoohaagdihlaa.watchNone
open Go.ChangeShapes Go.WideShapes Go.ChangeAt Go.RowKit
open Go.ChangeMaps (open_string shut_string)
set_option linter.unusedVariables false

theorem own : ownKnob Try.prog.godebug = none := by kernel_rfl
theorem laidOut : laidOutB Try.prog = true := by kernel_rfl
open Go.Lt
open Go.Proofs.Ytcjoohaagdihlaa.Lit
theorem walk (x0 : Int) (a1 : Option Addr) (n1 c1 : Nat) (l1 : List Int) (W : World)  (u0 : (Lit.int .i64 x0).wf = true) (hn1 : n1 ≤ c1) (hc1 : c1 ≤ maxLen) (r1 : Rd W a1 n1 (l1.map (Value.int .i64))) (u1 : ∀ x ∈ l1, (Lit.int .i64 x).wf = true) (sz1 : n1 ≤ 17592186044416) :
    Calls Try.prog 12 #[.int .i64 x0, .slice a1 n1 c1] W fun e w' => e = .returned (.bool true) ∧ Below W.heap.size W w' := by
  exact Watch.law_WatchNone x0 a1 n1 c1 l1 W sz1 r1

set_option maxRecDepth 100000 in
theorem lifted (os : Os) (started : os.Started) (H : Type) (enc : TypeId × Value → H) :
    ReturnsInHanded {} Try.checked os 12 .any (Rows.watchNoneSpec.pre6 enc Try.prog Try.f12 Rows.watchNoneRow.domain false) (Rows.watchNoneSpec.post enc Try.prog Try.f12 false true false false) := by
  refine returnsInHanded_of_change_sized (C := Try.checked) own started (by kernel_rfl) Try.func12
    (ChangeSpec.witness6 (enc := enc) (C := Try.checked) false ⟨#[], #[.int .i64 0, .slice none 0 0], []⟩ 8 (by kernel_rfl) (by kernel_rfl) (by kernel_rfl) (by kernel_rfl)) ?_
  intro W base args ds gs before hval0 hW hcnd hsz _
  have hval : ∀ (j : Nat) t v, Try.f12.params[j]? = some t → args[j]? = some v → Value.okWide Try.prog W .any base t v := hval0
  have hW' := hW
  obtain ⟨p, q, hA0, hV, rfl, hfz, hnd⟩ := hW
  have hA : DataW.TrodAll enc Try.prog W 0 (fun _ => true) true Try.f12.params.toList args.toList ds p := hA0
  rw [Try.params12] at hA hval
  obtain ⟨v0, vs0, d0, ds0, p0, q0, hargs, rfl, rfl, h0, r0x⟩ := trodAll_cons hA
  obtain ⟨v1, vs1, d1, ds1, p1, q1, rfl, rfl, rfl, h1, r1x⟩ := trodAll_cons r0x
  obtain ⟨rfl, rfl, rfl⟩ := trodAll_nil r1x
  obtain rfl : args = #[v0, v1] := by cases args; simp_all
  obtain ⟨rfl, rfl⟩ := trodVars_none hV
  have k0 := h0
  have lt0 : ∀ x ∈ p0, x.block < W.heap.size := by obtain ⟨m, hm⟩ := k0; exact DataW.trod_lt m _ _ _ hm
  have k1 := h1
  have lt1 : ∀ x ∈ p1, x.block < W.heap.size := by obtain ⟨m, hm⟩ := k1; exact DataW.trod_lt m _ _ _ hm
  have sz1 : ∀ (a : Option Addr) (n c : Nat), v1 = .slice a n c → n ≤ 17592186044416 := fun a n c hv => ints_size Try.underlying40 Try.underlying3 (by kernel_rfl) k1 (fun e1 e2 h => by
    subst h
    have := sized_slice hsz (j := 1) (t := 40) (by rw [Try.params12]; rfl) rfl Try.underlying40
    rwa [show Try.checked.prog.bytesOf 3 = 8 by kernel_rfl] at this) hv
  obtain ⟨x0, rfl, _, _, u0⟩ := open_int Try.underlying3 (hval 0 3 v0 rfl rfl) k0
  obtain ⟨a1, n1, c1, l1, rfl, hn1, hc1, r1, u1⟩ := open_ints_rd Try.underlying40 Try.underlying3 (by kernel_rfl) (hval 1 40 v1 rfl rfl) k1
  replace sz1 := sz1 _ _ _ rfl
  clear hA0
  refine (walk x0 a1 n1 c1 l1 W  u0 hn1 hc1 r1 u1 sz1).mono fun e W' ⟨he, bel⟩ => ?_
  subst he
  exact ⟨_, rfl, _, _, _, [], _, [], hW', trodAll_mk1 (shut_bool Try.underlying4 _), (trodAll_cons_mk (Below.trod laidOut (by kernel_rfl) (of_decide_eq_true (by kernel_rfl)) h0 bel lt0) (trodAll_cons_mk (Below.trod laidOut (by kernel_rfl) (of_decide_eq_true (by kernel_rfl)) h1 bel lt1) trodAll_mk0)), rfl, bel.frame _, fun h => by cases h⟩


theorem over : Rows.watchNoneRow.holds Try.pinned (OpenSpec.ofChange Rows.watchNoneSpec) :=
  OpenClaim.holds_of_wide 12 Try.f12 rfl rfl rfl rfl rfl rfl rfl ⟨rfl, rfl, rfl, rfl, rfl⟩ rfl rfl rfl rfl rfl (by kernel_rfl) Try.func12 (by kernel_rfl)
    (of_decide_eq_true (by kernel_rfl)) (by unfold Func.isWrapper; first | (rw [if_pos (by decide +kernel)]; kernel_rfl) | (rw [if_neg (by decide +kernel)]; exact ⟨rfl, rfl⟩))
    (fun os started H enc _ => lifted os started H enc)

/-- THE STATEMENT -/
theorem proved : Rows.WatchNoneSaid := over
#print axioms proved
end Go.Proofs.Ytcjoohaagdihlaa.watchNone
