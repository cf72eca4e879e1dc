/- StoreNone of the seat: for every input the law returns true and its arguments read as before. It holds for every input; there is no condition. -/
import Derived.Test.YtcjoohaagdihlaaRows
import Derived.WalkKit
import Derived.ProofKit
import Derived.OpenShut
import Derived.ShutString
import Derived.ChangeOld
import Derived.Below
import Derived.Test.YtcjoohaagdihlaaOpen1
import Derived.Test.YtcjoohaagdihlaaOpenSz
import Derived.Test.YtcjoohaagdihlaaStoreN
namespace Go.Proofs.Ytcjoohaagdihlaa.storeNone
open Go.ChangeShapes Go.WideShapes Go.ChangeAt Go.RowKit
open Go.ChangeMaps (open_string shut_string)
set_option linter.unusedVariables false

theorem own : ownKnob Try.prog.godebug = none := by kernel_rfl
theorem laidOut : laidOutB Try.prog = true := by kernel_rfl
open Go.Lt
open Go.Proofs.Ytcjoohaagdihlaa.Lit
theorem walk (a0 : Option Addr) (n0 c0 : Nat) (l0 : List Int) (x1 : Int) (a2 : Option Addr) (n2 c2 : Nat) (l2 : List Bool) (W : World)  (hn0 : n0 ≤ c0) (hc0 : c0 ≤ maxLen) (r0 : Rd W a0 n0 (l0.map (Value.int .i64))) (u0 : ∀ x ∈ l0, (Lit.int .i64 x).wf = true) (sz0 : n0 ≤ 17592186044416) (u1 : (Lit.int .i64 x1).wf = true) (hn2 : n2 ≤ c2) (hc2 : c2 ≤ maxLen) (r2 : Rd W a2 n2 (l2.map Value.bool)) :
    Calls Try.prog 9 #[.slice a0 n0 c0, .int .i64 x1, .slice a2 n2 c2] W fun e w' => e = .returned (.bool true) ∧ Below W.heap.size W w' := by
  exact Kept.nones a0 n0 c0 l0 x1 a2 n2 c2 l2 W sz0 r0 r2

set_option maxRecDepth 100000 in
theorem lifted (os : Os) (started : os.Started) (H : Type) (enc : TypeId × Value → H) :
    ReturnsInHanded {} Try.checked os 9 .any (Rows.storeNoneSpec.pre6 enc Try.prog Try.f9 Rows.storeNoneRow.domain false) (Rows.storeNoneSpec.post enc Try.prog Try.f9 false true false false) := by
  refine returnsInHanded_of_change_sized (C := Try.checked) own started (by kernel_rfl) Try.func9
    (ChangeSpec.witness6 (enc := enc) (C := Try.checked) false ⟨#[], #[.slice none 0 0, .int .i64 0, .slice none 0 0], []⟩ 8 (by kernel_rfl) (by kernel_rfl) (by kernel_rfl) (by kernel_rfl)) ?_
  intro W base args ds gs before hval0 hW hcnd hsz _
  have hval : ∀ (j : Nat) t v, Try.f9.params[j]? = some t → args[j]? = some v → Value.okWide Try.prog W .any base t v := hval0
  have hW' := hW
  obtain ⟨p, q, hA0, hV, rfl, hfz, hnd⟩ := hW
  have hA : DataW.TrodAll enc Try.prog W 0 (fun _ => true) true Try.f9.params.toList args.toList ds p := hA0
  rw [Try.params9] at hA hval
  obtain ⟨v0, vs0, d0, ds0, p0, q0, hargs, rfl, rfl, h0, r0x⟩ := trodAll_cons hA
  obtain ⟨v1, vs1, d1, ds1, p1, q1, rfl, rfl, rfl, h1, r1x⟩ := trodAll_cons r0x
  obtain ⟨v2, vs2, d2, ds2, p2, q2, rfl, rfl, rfl, h2, r2x⟩ := trodAll_cons r1x
  obtain ⟨rfl, rfl, rfl⟩ := trodAll_nil r2x
  obtain rfl : args = #[v0, v1, v2] := by cases args; simp_all
  obtain ⟨rfl, rfl⟩ := trodVars_none hV
  have k0 := h0
  have lt0 : ∀ x ∈ p0, x.block < W.heap.size := by obtain ⟨m, hm⟩ := k0; exact DataW.trod_lt m _ _ _ hm
  have k1 := h1
  have lt1 : ∀ x ∈ p1, x.block < W.heap.size := by obtain ⟨m, hm⟩ := k1; exact DataW.trod_lt m _ _ _ hm
  have k2 := h2
  have lt2 : ∀ x ∈ p2, x.block < W.heap.size := by obtain ⟨m, hm⟩ := k2; exact DataW.trod_lt m _ _ _ hm
  have sz0 : ∀ (a : Option Addr) (n c : Nat), v0 = .slice a n c → n ≤ 17592186044416 := fun a n c hv => ints_size Try.underlying40 Try.underlying3 (by kernel_rfl) k0 (fun e1 e2 h => by
    subst h
    have := sized_slice hsz (j := 0) (t := 40) (by rw [Try.params9]; rfl) rfl Try.underlying40
    rwa [show Try.checked.prog.bytesOf 3 = 8 by kernel_rfl] at this) hv
  obtain ⟨a0, n0, c0, l0, rfl, hn0, hc0, r0, u0⟩ := open_ints_rd Try.underlying40 Try.underlying3 (by kernel_rfl) (hval 0 40 v0 rfl rfl) k0
  replace sz0 := sz0 _ _ _ rfl
  obtain ⟨x1, rfl, _, _, u1⟩ := open_int Try.underlying3 (hval 1 3 v1 rfl rfl) k1
  obtain ⟨a2, n2, c2, l2, rfl, hn2, hc2, r2⟩ := open_bools_rd Try.underlying59 Try.underlying4 (by kernel_rfl) (hval 2 59 v2 rfl rfl) k2
  clear hA0
  refine (walk a0 n0 c0 l0 x1 a2 n2 c2 l2 W  hn0 hc0 r0 u0 sz0 u1 hn2 hc2 r2).mono fun e W' ⟨he, bel⟩ => ?_
  subst he
  exact ⟨_, rfl, _, _, _, [], _, [], hW', trodAll_mk1 (shut_bool Try.underlying4 _), (trodAll_cons_mk (Below.trod laidOut (by kernel_rfl) (of_decide_eq_true (by kernel_rfl)) h0 bel lt0) (trodAll_cons_mk (Below.trod laidOut (by kernel_rfl) (of_decide_eq_true (by kernel_rfl)) h1 bel lt1) (trodAll_cons_mk (Below.trod laidOut (by kernel_rfl) (of_decide_eq_true (by kernel_rfl)) h2 bel lt2) trodAll_mk0))), rfl, bel.frame _, fun h => by cases h⟩


theorem over : Rows.storeNoneRow.holds Try.pinned (OpenSpec.ofChange Rows.storeNoneSpec) :=
  OpenClaim.holds_of_wide 9 Try.f9 rfl rfl rfl rfl rfl rfl rfl ⟨rfl, rfl, rfl, rfl, rfl⟩ rfl rfl rfl rfl rfl (by kernel_rfl) Try.func9 (by kernel_rfl)
    (of_decide_eq_true (by kernel_rfl)) (by unfold Func.isWrapper; first | (rw [if_pos (by decide +kernel)]; kernel_rfl) | (rw [if_neg (by decide +kernel)]; exact ⟨rfl, rfl⟩))
    (fun os started H enc _ => lifted os started H enc)

/-- THE STATEMENT -/
theorem proved : Rows.StoreNoneSaid := over
#print axioms proved
end Go.Proofs.Ytcjoohaagdihlaa.storeNone
