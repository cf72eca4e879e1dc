/- A region that draws its order, by one invariant over what has come up, told also that what comes up has not come up yet. No program in sight. -/
import Derived.Test.YtcjoohaagdihlaaRegInv
namespace Go.Lt
open Go.RowKit
set_option linter.unusedVariables false
set_option linter.unusedSimpArgs false

section
variable {P : Program} {ops : Array Oper} {Q : Exit → Act → World → Prop}
theorem all_listed3 {listed : Array Bool} (hwf : ∀ (j : Nat) o, ops[j]? = some o → ∀ e ∈ o.after, Region.binds .any e = true → e.on < j) (hs : listed.size = ops.size) (hr : Region.ready .any ops listed = []) : ∀ j, listed.getD j true = true := by
  intro j
  induction j using Nat.strongRecOn with
  | _ j ih =>
    cases hj : listed.getD j true with
    | true => rfl
    | false =>
      have hlt : j < ops.size := by
        obtain ⟨hi, _⟩ := getD_false hj
        rw [← hs]; simpa using hi
      have ho : ops[j]? = some ops[j] := Array.getElem?_eq_getElem hlt
      have : j ∈ Region.ready .any ops listed := mem_ready.2 ⟨hj, _, ho, fun e he hb => by
        have h1 := ih e.on (hwf j _ ho e he hb)
        have h2 : e.on < listed.size := by have := hwf j _ ho e he hb; omega
        simpa [Array.getD, h2] using h1⟩
      rw [hr] at this
      cases this
theorem wpAny_inv3 (I : (Nat → Prop) → Act → World → Prop) (hwf : ∀ (j : Nat) o, ops[j]? = some o → ∀ e ∈ o.after, Region.binds .any e = true → e.on < j)
    (hstep : ∀ D a w i o, ops[i]? = some o → ¬ D i → (∀ e ∈ o.after, Region.binds .any e = true → D e.on) → I D a w → wpOp P ops Q i (fun a' w' => I (fun j => j = i ∨ D j) a' w') a w)
    (hdone : ∀ D a w, (∀ j, D j) → I D a w → Q .normal a w) :
    ∀ (fuel : Nat) (listed : Array Bool) (a : Act) (w : World), listed.size = ops.size → leftN listed ≤ fuel → I (fun j => listed.getD j true = true) a w → wpAny P .any ops Q fuel listed a w
  | 0, listed, a, w, hs, hf, hI => by
    have hr : Region.ready .any ops listed = [] := by
      cases h : Region.ready .any ops listed with
      | nil => rfl
      | cons i rs =>
        have hi : i ∈ Region.ready .any ops listed := by rw [h]; simp
        have := leftN_pos (mem_ready.1 hi).1
        omega
    exact ⟨hr, hdone _ a w (all_listed3 hwf hs hr) hI⟩
  | fuel + 1, listed, a, w, hs, hf, hI => by
    refine ⟨fun hr => hdone _ a w (all_listed3 hwf hs hr) hI, fun i hi => ?_⟩
    obtain ⟨hn, o, ho, hd⟩ := mem_ready.1 hi
    refine wpOp_mono (fun a' w' hI' => ?_) (hstep _ a w i o ho (by rw [hn]; simp) (fun e he hb => ?_) hI)
    · refine wpAny_inv3 I hwf hstep hdone fuel _ a' w' (by simpa using hs) (by have := leftN_set hn; omega) ?_
      have hfun : (fun j => (listed.setIfInBounds i true).getD j true = true) = fun j => j = i ∨ listed.getD j true = true := funext fun j => propext (getD_put j)
      rw [hfun]
      exact hI'
    · have h1 := hd e he hb
      have h2 : e.on < listed.size := by
        rcases Nat.lt_or_ge e.on listed.size with h | h
        · exact h
        · simp [Array.getD, Nat.not_lt.2 h] at h1
      simpa [Array.getD, h2] using h1
/-- the law, by the operations' numbers: what comes up has not come up yet -/
theorem wp_region_inv3 {id : Nat} {a : Act} {w : World} (I : (Nat → Prop) → Act → World → Prop) (hm : P.follows .mixedOrders = true)
    (hwf : (ops.toList.zipIdx.all fun p => p.1.after.all fun e => !Region.binds .any e || decide (e.on < p.2)) = true)
    (h0 : I (fun j => ops.size ≤ j) a w.drew)
    (hstep : ∀ D a w i, i < ops.size → ¬ D i → (∀ j, depsB ops i j = true → D j) → I D a w → wpOp P ops Q i (fun a' w' => I (fun j => j = i ∨ D j) a' w') a w)
    (hdone : ∀ D a w, (∀ j, D j) → I D a w → Q .normal a w) : (Code.region id ops true).wp P Q a w := by
  refine wp_region_any hm (wpAny_inv3 I (fun j o ho e he hb => ?_) (fun D a w i o ho hn hd hI => hstep D a w i (Array.getElem?_eq_some_iff.1 ho).1 hn (fun j hj => ?_) hI) hdone ops.size _ a _ (by simp) (by unfold leftN; simp [List.countP_replicate]) ?_)
  · have hlt : j < ops.size := (Array.getElem?_eq_some_iff.1 ho).1
    have hp : (o, j) ∈ ops.toList.zipIdx := by
      rw [List.mem_iff_getElem?]
      exact ⟨j, by rw [List.getElem?_zipIdx, Array.getElem?_toList, ho]; simp⟩
    have h1 := List.all_eq_true.1 hwf _ hp
    have h2 := Array.all_eq_true_iff_forall_mem.1 h1 e he
    simpa [hb] using h2
  · unfold depsB at hj
    rw [ho] at hj
    simp only [Option.map_some, Option.getD_some] at hj
    rw [List.any_eq_true] at hj
    obtain ⟨e, he, h2⟩ := hj
    rw [Bool.and_eq_true, beq_iff_eq] at h2
    obtain ⟨h3, rfl⟩ := h2
    exact hd e (Array.mem_toList_iff.1 he) h3
  · have hfun : (fun j => (Array.replicate ops.size false).getD j true = true) = fun j => ops.size ≤ j := funext fun j => propext (by
      by_cases hj : j < ops.size
      · simp [Array.getD, hj]
      · simp [Array.getD, hj]; omega)
    rw [hfun]
    exact h0
end
end Go.Lt
