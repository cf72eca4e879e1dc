/- Where variables are used in a net: the plain words. -/
import Derived.Test.YtcjoohaagdihlaaDoorFault5
namespace Go.Proofs.YtcjoohaagdihlaaDoor.Fault
open Go.RowKit Go.Lt Go.Proofs.YtcjoohaagdihlaaDoor.Lit Go.Instr
set_option linter.unusedVariables false
set_option linter.unusedSimpArgs false

/-- a use of a variable: which one, the gate's pin, by which literal -/
structure Oc where
  k : Int
  f : Ft
  lit : Int
deriving DecidableEq, Repr
def encU (o : Oc) : Value := .agg #[.int .i64 o.f.v, .int .i64 o.f.p, .bool o.f.o, .int .i64 o.lit]
def occNode (i : Nat) (x : Nd) : List Oc := if x.A < 0 then [] else [⟨x.A / 2, ⟨(i : Int) + 1, 1, false⟩, x.A⟩, ⟨x.B / 2, ⟨(i : Int) + 1, 2, false⟩, x.B⟩]
def occs (l : List Nd) (k : Nat) : List Oc := (List.range k).flatMap fun i => occNode i (l.getD i ⟨0, 0⟩)
theorem occs_succ (l : List Nd) (k : Nat) (x : Nd) (h : l[k]? = some x) : occs l (k + 1) = occs l k ++ occNode k x := by
  unfold occs
  rw [List.range_succ, List.flatMap_append]
  simp [List.getD_eq_getElem?_getD, h]
theorem occs_len (l : List Nd) (k : Nat) : (occs l k).length ≤ 2 * k := by
  unfold occs
  induction k with
  | zero => simp
  | succ k ih =>
    rw [List.range_succ, List.flatMap_append, List.length_append]
    have : (occNode k (l.getD k ⟨0, 0⟩)).length ≤ 2 := by unfold occNode; split <;> simp
    simp at *
    omega
def lastO (os : List Oc) (v : Int) : Option Oc := (os.filter fun o => decide (o.k = v)).getLast?
def countO (os : List Oc) (v : Int) : Nat := (os.filter fun o => decide (o.k = v)).length
def cntOut (outs : List Int) (v : Int) : Nat := (outs.filter fun x => decide (x / 2 = v)).length
def OneIs (os : List Oc) (m : List (Int × Value)) : Prop := ∀ v, mget m v = (lastO os v).map encU
def OftIs (os : List Oc) (outs : List Int) (m : List (Int × Value)) : Prop := ∀ v, (mget m v).getD (.int .i64 0) = .int .i64 ((countO os v + 2 * cntOut outs v : Nat) : Int)
theorem one_nil : OneIs [] [] := fun v => rfl
theorem oft_nil : OftIs [] [] [] := fun v => rfl
theorem lastO_snoc (os : List Oc) (o : Oc) (v : Int) : lastO (os ++ [o]) v = if o.k = v then some o else lastO os v := by
  unfold lastO
  rw [List.filter_append]
  by_cases h : o.k = v <;> simp [h]
theorem countO_snoc (os : List Oc) (o : Oc) (v : Int) : countO (os ++ [o]) v = countO os v + (if o.k = v then 1 else 0) := by
  unfold countO
  rw [List.filter_append]
  by_cases h : o.k = v <;> simp [h]
theorem cntOut_snoc (outs : List Int) (x v : Int) : cntOut (outs ++ [x]) v = cntOut outs v + (if x / 2 = v then 1 else 0) := by
  unfold cntOut
  rw [List.filter_append]
  by_cases h : x / 2 = v <;> simp [h]
theorem one_step {os : List Oc} {m : List (Int × Value)} (h : OneIs os m) (o : Oc) : OneIs (os ++ [o]) (mput m o.k (encU o)) := by
  intro v
  rw [mget_mput, lastO_snoc]
  split
  · rfl
  · exact h v
theorem oft_step {os : List Oc} {outs : List Int} {m : List (Int × Value)} (h : OftIs os outs m) (o : Oc) : OftIs (os ++ [o]) outs (mput m o.k (.int .i64 ((countO os o.k + 2 * cntOut outs o.k : Nat) + 1 : Int))) := by
  intro v
  rw [mget_mput, countO_snoc]
  by_cases hv : o.k = v
  · subst hv
    rw [if_pos rfl, if_pos rfl]
    show Value.int .i64 _ = Value.int .i64 _
    congr 1 <;> omega
  · rw [if_neg hv, if_neg hv]
    exact h v
theorem oft_out {os : List Oc} {outs : List Int} {m : List (Int × Value)} (h : OftIs os outs m) (x : Int) : OftIs os (outs ++ [x]) (mput m (x / 2) (.int .i64 ((countO os (x / 2) + 2 * cntOut outs (x / 2) : Nat) + 2 : Int))) := by
  intro v
  rw [mget_mput, cntOut_snoc]
  by_cases hv : x / 2 = v
  · subst hv
    rw [if_pos rfl, if_pos rfl]
    show Value.int .i64 _ = Value.int .i64 _
    congr 1 <;> omega
  · rw [if_neg hv, if_neg hv]
    exact h v
theorem countO_le (os : List Oc) (v : Int) : countO os v ≤ os.length := List.length_filter_le _ _
theorem cntOut_le (outs : List Int) (v : Int) : cntOut outs v ≤ outs.length := List.length_filter_le _ _
/-- a good net, and outs that are its own -/
def GoodNet (l : List Nd) : Prop := ∀ (i : Nat) x, l[i]? = some x → 0 ≤ x.A → x.A ≤ 2 * (i : Int) + 1 ∧ 0 ≤ x.B ∧ x.B ≤ 2 * (i : Int) + 1
def GoodOuts (l : List Nd) (outs : List Int) : Prop := ∀ x ∈ outs, 0 ≤ x ∧ x ≤ 2 * (l.length : Int) + 1
theorem zero_use (w : World) : (zeroValue 117).run Tryd.prog w = .ok (.agg #[.int .i64 0, .int .i64 0, .bool false, .int .i64 0]) w := by kernel_rfl
theorem zero_int (w : World) : (zeroValue 3).run Tryd.prog w = .ok (.int .i64 0) w := by kernel_rfl
theorem zero_bool (w : World) : (zeroValue 4).run Tryd.prog w = .ok (.bool false) w := by kernel_rfl
end Go.Proofs.YtcjoohaagdihlaaDoor.Fault
