/- A region that draws its order in a round of a range over a function: by one invariant. No program in sight. -/
import Derived.Test.YtcjoohaagdihlaaRegInv2
import Derived.OrdersIn
import Derived.RangeFuncCalls
import Derived.TacticsIn
namespace Go.Lt
open Go.RowKit
set_option linter.unusedVariables false
set_option linter.unusedSimpArgs false

section
variable {P : Program} {ops : Array Oper} {Q : Exit → Act → World → Prop} {md : Region.Mode} {l n : Nat}
theorem oper_wpIn_of {o : Oper} {a : Act} {w : World} {K : Act → World → Prop} (hd : ∀ c, o.op ≠ .defer c) (h : o.wp P a w K Q) : o.wpIn (Fence.wide.inRound l) n P a w K Q := by
  unfold Oper.wpIn
  refine ⟨fun _ _ => trivial, ?_⟩
  rw [show (Fence.wide.inRound l).round = some l from rfl, Oper.semAt_some l _ o hd]
  unfold Oper.wp at h
  generalize (execOp a.eval o).run P w = r at h ⊢
  cases r with
  | ok x w' =>
    cases x with
    | value v => exact h
    | skip => exact h
    | defer d => exact h
    | enter f args => exact ⟨fun h => (by cases h), CallsIn.inRound l (callsIn_wide.2 h)⟩
    | row r args =>
      refine ⟨fun h => (by cases h), fun c cs _ => ?_⟩
      obtain ⟨v, w'', h1, h2⟩ := h c cs
      exact ⟨v, w'', h1, stepsIn_wide.2 h2⟩
    | _ => exact h.elim
  | halt x w' =>
    cases x <;> exact h
theorem wpOpIn_of {i : Nat} {a : Act} {w : World} {K : Act → World → Prop} (hd : ∀ o : Oper, ops[i]? = some o → ∀ c, o.op ≠ .defer c) (hQ : ¬ LetsOut Q) (h : wpOp P ops Q i K a w) : wpOpIn (Fence.wide.inRound l) n P ops Q i K a w := by
  unfold wpOp at h
  unfold wpOpIn
  cases ho : ops[i]? with
  | none => rw [ho] at h; exact h
  | some o =>
    rw [ho] at h
    dsimp only at h ⊢
    split
    · rename_i hw
      rw [if_pos hw] at h
      rcases h with h | h
      · exact oper_wpIn_of (hd o ho) h
      · exact absurd h.2 hQ
    · rename_i hw
      rw [if_neg hw] at h
      exact ⟨fun _ _ => trivial, h⟩
theorem wpAnyIn_of (hd : ∀ (i : Nat) (o : Oper), ops[i]? = some o → ∀ c, o.op ≠ .defer c) (hQ : ¬ LetsOut Q) : ∀ (fuel : Nat) (listed : Array Bool) (a : Act) (w : World), wpAny P md ops Q fuel listed a w → wpAnyIn (Fence.wide.inRound l) n P md ops Q fuel listed a w
  | 0, _, _, _, h => h
  | fuel + 1, _, _, _, h => ⟨h.1, fun i hi => wpOpIn_mono (fun a' w' h' => wpAnyIn_of hd hQ fuel _ a' w' h') (wpOpIn_of (hd i) hQ (h.2 i hi))⟩
def noDefer (ops : Array Oper) : Bool := ops.toList.all fun o => match o.op with | .defer _ => false | _ => true
theorem noDefer_spec (h : noDefer ops = true) : ∀ (i : Nat) (o : Oper), ops[i]? = some o → ∀ c, o.op ≠ .defer c := by
  intro i o ho c he
  have hm : o ∈ ops.toList := Array.mem_toList_iff.2 (Array.mem_of_getElem? ho)
  have := List.all_eq_true.1 h o hm
  rw [he] at this
  cases this
theorem wpAny_of_inv3 {a : Act} {w : World} (I : (Nat → Prop) → Act → World → Prop)
    (hwf : (ops.toList.zipIdx.all fun p => p.1.after.all fun e => !Region.binds .any e || decide (e.on < p.2)) = true)
    (h0 : I (fun j => ops.size ≤ j) a w.drew)
    (hstep : ∀ D a w i, i < ops.size → ¬ D i → (∀ j, depsB ops i j = true → D j) → I D a w → wpOp P ops Q i (fun a' w' => I (fun j => j = i ∨ D j) a' w') a w)
    (hdone : ∀ D a w, (∀ j, D j) → I D a w → Q .normal a w) : wpAny P .any ops Q ops.size (Array.replicate ops.size false) a w.drew := by
  refine wpAny_inv3 I (fun j o ho e he hb => ?_) (fun D a w i o ho hn hd hI => hstep D a w i (Array.getElem?_eq_some_iff.1 ho).1 hn (fun j hj => ?_) hI) hdone ops.size _ a _ (by simp) (by unfold leftN; simp [List.countP_replicate]) ?_
  · have hlt : j < ops.size := (Array.getElem?_eq_some_iff.1 ho).1
    have hp : (o, j) ∈ ops.toList.zipIdx := by
      rw [List.mem_iff_getElem?]
      exact ⟨j, by rw [List.getElem?_zipIdx, Array.getElem?_toList, ho]; simp⟩
    have h1 := List.all_eq_true.1 hwf _ hp
    have h2 := Array.all_eq_true_iff_forall_mem.1 h1 e he
    simpa [hb] using h2
  · unfold depsB at hj
    rw [ho] at hj
    simp only [Option.map_some, Option.getD_some] at hj
    rw [List.any_eq_true] at hj
    obtain ⟨e, he, h2⟩ := hj
    rw [Bool.and_eq_true, beq_iff_eq] at h2
    obtain ⟨h3, rfl⟩ := h2
    exact hd e (Array.mem_toList_iff.1 he) h3
  · have hfun : (fun j => (Array.replicate ops.size false).getD j true = true) = fun j => ops.size ≤ j := funext fun j => propext (by
      by_cases hj : j < ops.size
      · simp [Array.getD, hj]
      · simp [Array.getD, hj]; omega)
    rw [hfun]
    exact h0
/-- the law of one invariant, in a round -/
theorem wpIn_region_inv3 {id : Nat} {a : Act} {w : World} (I : (Nat → Prop) → Act → World → Prop) (hm : P.follows .mixedOrders = true)
    (hwf : (ops.toList.zipIdx.all fun p => p.1.after.all fun e => !Region.binds .any e || decide (e.on < p.2)) = true) (hnd : noDefer ops = true) (hQ : ¬ LetsOut Q)
    (h0 : I (fun j => ops.size ≤ j) a w.drew)
    (hstep : ∀ D a w i, i < ops.size → ¬ D i → (∀ j, depsB ops i j = true → D j) → I D a w → wpOp P ops Q i (fun a' w' => I (fun j => j = i ∨ D j) a' w') a w)
    (hdone : ∀ D a w, (∀ j, D j) → I D a w → Q .normal a w) : (Code.region id ops true).wpIn (Fence.wide.inRound l) n P Q a w :=
  wpIn_region_any hm (wpAnyIn_of (noDefer_spec hnd) hQ _ _ _ _ (wpAny_of_inv3 I hwf h0 hstep hdone))
end
end Go.Lt
