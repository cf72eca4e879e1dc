/- Maps at one operation of a region that draws its order. No program in sight. -/
import Derived.Test.YtcjoohaagdihlaaMap2
import Derived.Test.YtcjoohaagdihlaaRegSlots
namespace Go.Lt
open Go.RowKit Go.Instr Go.ChangeMaps
set_option linter.unusedVariables false
set_option linter.unusedSimpArgs false
section
variable {κ : Type} [DecidableEq κ] {P : Program} {t K E : TypeId} {z : Value} {enc : κ → Value} {w : World} {B : Nat} {l : List (κ × Value)} {o : Oper} {a : Act} {N : Act → World → Prop} {Q : Exit → Act → World → Prop}
theorem oper_lookupO (L : KeyLaw P K enc) (ht : P.underlying t = some (.map K E)) (hz : ∀ w : World, (zeroValue E).run P w = .ok z w) (m k : Operand)
    (hop : o.op = Op.lookup t m k false) (h : MapO w enc B l) (x : κ) (hm : a.eval m = .map (some B)) (hx : a.eval k = enc x)
    (hK : N (a.put o.dst ((mget l x).getD z)) w) : Oper.wp P o a w N Q := by
  have hrun := run_lookupO L ht hz h x
  unfold Oper.wp
  simp [execOp, hop, hm, hx, hrun, Result.andThen]
  exact hK
theorem oper_updateS (L : KeyLaw P K enc) (ht : P.underlying t = some (.map K E)) (m k v : Operand)
    (hop : o.op = Op.mapUpdate t m k v) (h : MapS w enc B l) (x : κ) (u : Value) (hm : a.eval m = .map (some B)) (hx : a.eval k = enc x) (hv : a.eval v = u)
    (hK : ∀ w', MapS w' enc B (mput l x u) → w.grownBy w' (some B) → w'.heap.size = w.heap.size → N (a.put o.dst undef) w') : Oper.wp P o a w N Q := by
  obtain ⟨w', hrun, r1, r2, r3⟩ := run_updateS L ht h x u
  unfold Oper.wp
  simp [execOp, hop, hm, hx, hv, hrun, Result.andThen]
  exact hK w' r1 r2 r3
theorem wpList_insertS {ops : Array Oper} {rest : List Oper} (L : KeyLaw P K enc) (ht : P.underlying t = some (.map K E)) (hgd : o.guard = none) (m k v : Operand)
    (hop : o.op = Op.insert t m k v) (h : MapS w enc B l) (x : κ) (u : Value) (hm : a.eval m = .map (some B)) (hx : a.eval k = enc x) (hv : a.eval v = u)
    (hK : ∀ w', MapS w' enc B (mput l x u) → w.grownBy w' (some B) → w'.heap.size = w.heap.size → wpList P ops Q rest (a.put o.dst undef) w') : wpList P ops Q (o :: rest) a w := by
  refine wpList_plain hgd fun K' hK' => ?_
  obtain ⟨w', hrun, r1, r2, r3⟩ := run_updateS L ht h x u
  unfold Oper.wp
  simp [execOp, hop, hm, hx, hv, hrun, Result.andThen]
  exact hK' _ _ (hK w' r1 r2 r3)
theorem oper_deleteS (L : KeyLaw P K enc) (ht : P.underlying t = some (.map K E)) (m k : Operand)
    (hop : o.op = Op.call { callee := Callee.builtin Builtin.delete, args := #[m, k], argTypes := #[t, K] }) (h : MapS w enc B l) (x : κ) (hm : a.eval m = .map (some B)) (hx : a.eval k = enc x)
    (hK : ∀ w', MapS w' enc B (mdel l x) → w.grownBy w' (some B) → w'.heap.size = w.heap.size → N (a.put o.dst (.tuple #[])) w') : Oper.wp P o a w N Q := by
  obtain ⟨w', hrun, r1, r2, r3⟩ := run_deleteS L ht h x o.type
  unfold Oper.wp
  simp [execOp, hop, resolve, invoke, builtin, hm, hx, hrun, Result.andThen]
  exact hK w' r1 r2 r3
end
end Go.Lt
