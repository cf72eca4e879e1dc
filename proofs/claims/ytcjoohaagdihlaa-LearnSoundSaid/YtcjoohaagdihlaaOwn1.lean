/- Steps on slices of numbers of the call's own: a copy into a new one, one more list put to it. -/
import Derived.Test.YtcjoohaagdihlaaLit2
namespace Go.Proofs.Ytcjoohaagdihlaa.Lit
open Go.RowKit Go.Lt
set_option linter.unusedVariables false
set_option linter.unusedSimpArgs false

theorem info_n : (Try.prog.info? 3).map (fun i => (i.zero, i.size, i.bytes)) = some (some (.int .i64 0), 1, 8) := by kernel_rfl
theorem ivs_cell {l : List Int} : ∀ u ∈ ivs l, u.oneCell' = true := by
  intro u hu
  obtain ⟨x, _, rfl⟩ := List.mem_map.1 hu
  rfl
theorem ivs_app (a b : List Int) : ivs (a ++ b) = ivs a ++ ivs b := List.map_append
/-- append([]int{}, l...) -/
theorem wpList_fresh {w : World} {n c : Nat} {A : Option Addr} {l : List Int} {ops : Array Oper} {rest : List Oper} {o : Oper} {a : Act} {Q : Exit → Act → World → Prop} (hgd : o.guard = none) (s x : Operand)
    (ho : o.op = .call { callee := .builtin .append, args := #[s, x], argTypes := #[40, 40] })
    (hs : a.eval s = .slice (some ⟨w.heap.size, 0, none⟩) 0 0) (hx : a.eval x = .slice A n c) (hr : Rd w A n (ivs l)) (hn : n ≤ 1000000)
    (h : ∀ v' w', w'.ownsRow w.heap.size 3 1 v' n (ivs l) → Below w.heap.size w w' → wpList Try.prog ops Q rest (a.put o.dst v') w') :
    wpList Try.prog ops Q (o :: rest) a (w.alloc (.cells #[] 3)) := by
  refine wpList_append_rd hgd s x 40 ho Try.underlying40 info_n rfl hs hx (World.ownsRow_lit w #[] 0 (Nat.le_refl _) (by unfold maxLen; omega) rfl) ((Below.refl w.heap.size w).alloc (Nat.le_refl _) _) (by simp)
    (hr.below ((Below.refl w.heap.size w).alloc (Nat.le_refl _) _) (Nat.le_refl _)) ivs_cell (by unfold maxLen; omega) (by omega) ?_
  intro v' w' hown hb
  rw [Nat.zero_add] at hown
  exact h v' w' hown hb
/-- append(v, l...) onto a row of the call's own -/
theorem wpList_more {w0 w : World} {base n m c : Nat} {v : Value} {A : Option Addr} {k l : List Int} {ops : Array Oper} {rest : List Oper} {o : Oper} {a : Act} {Q : Exit → Act → World → Prop} (hgd : o.guard = none) (s x : Operand)
    (ho : o.op = .call { callee := .builtin .append, args := #[s, x], argTypes := #[40, 40] })
    (hs : a.eval s = v) (hx : a.eval x = .slice A m c) (hown : w.ownsRow base 3 1 v n (ivs k)) (hb : Below base w0 w) (hbase : base ≤ w.heap.size) (hr : Rd w A m (ivs l)) (hn : n + m ≤ 1000000)
    (h : ∀ v' w', w'.ownsRow base 3 1 v' (n + m) (ivs (k ++ l)) → Below base w0 w' → wpList Try.prog ops Q rest (a.put o.dst v') w') :
    wpList Try.prog ops Q (o :: rest) a w := by
  refine wpList_append_rd hgd s x 40 ho Try.underlying40 info_n rfl hs hx hown hb hbase hr ivs_cell (by unfold maxLen; omega) (by omega) ?_
  intro v' w' hown hb
  rw [← ivs_app] at hown
  exact h v' w' hown hb
end Go.Proofs.Ytcjoohaagdihlaa.Lit
