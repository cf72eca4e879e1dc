/- The contract of the closure that gives a fault its next name. -/
import Derived.Test.YtcjoohaagdihlaaDoorFault7
import Derived.Outline
namespace Go.Proofs.YtcjoohaagdihlaaDoor.Fault
open Go.RowKit Go.Lt Go.Proofs.YtcjoohaagdihlaaDoor.Lit Go.Instr
set_option linter.unusedVariables false
set_option linter.unusedSimpArgs false

/-- an operation whose guard is met, as one without a guard -/
theorem wpList_wanted {P : Program} {ops : Array Oper} {Q : Exit → Act → World → Prop} {a : Act} {w : World} {rest : List Oper} {d : Option Tmp} {op : Op} {ty : TypeId} {pos : String} {af : Array Edge} {gd : Option (Nat × Bool)}
    (hw : Region.wanted ⟨d, op, ty, pos, af, gd⟩ (yielded ops a.tmps) = true) (h : wpList P ops Q (⟨d, op, ty, pos, af, none⟩ :: rest) a w) : wpList P ops Q (⟨d, op, ty, pos, af, gd⟩ :: rest) a w := by
  unfold wpList at h ⊢
  rw [if_pos hw]
  rw [if_pos (by simp [Region.wanted])] at h
  exact h
/-- how often a variable is used, outs counted twice -/
def usedN (os : List Oc) (outs : List Int) (v : Int) : Nat := countO os v + 2 * cntOut outs v
/-- a fault's next name, and whether there is one -/
def nameF (os : List Oc) (outs : List Int) (f : Ft) : Ft × Bool :=
  if 0 < f.p ∧ f.o = false then (⟨f.v, 0, false⟩, true)
  else if f.p = 0 ∧ usedN os outs f.v = 1 then
    match lastO os f.v with
    | some u => (⟨u.f.v, u.f.p, f.o != decide (u.lit % 2 = 1)⟩, true)
    | none => (f, false)
  else (f, false)
def NameIs (os : List Oc) (outs : List Int) (f : Ft) (w : World) (e : Ending) (w' : World) : Prop :=
  e = .returned (.tuple #[encK (nameF os outs f).1, .bool (nameF os outs f).2]) ∧ Below w.heap.size w w'
theorem name_is {os : List Oc} {outs : List Int} {f g : Ft} {b : Bool} {w w' : World} (h : nameF os outs f = (g, b)) (hb : Below w.heap.size w w') :
    NameIs os outs f w (.returned (.tuple #[.agg #[.int .i64 g.v, .int .i64 g.p, .bool g.o], .bool b])) w' := by
  refine ⟨?_, hb⟩
  rw [h]; rfl

set_option maxHeartbeats 1600000 in
theorem coll_name (g7 g8 B1 B2 : Nat) (os : List Oc) (outs : List Int) (m1 m2 : List (Int × Value)) (f : Ft) (w : World) (h7 : w.cell? ⟨g7, 0, none⟩ = some (.map (some B1))) (h8 : w.cell? ⟨g8, 0, none⟩ = some (.map (some B2)))
    (hM1 : MapO w encI B1 m1) (hM2 : MapO w encI B2 m2) (h1 : OneIs os m1) (h2 : OftIs os outs m2) (hlit : ∀ o ∈ os, 0 ≤ o.lit ∧ o.lit ≤ 1000000) :
    Calls Tryd.prog 91 #[encK f, .pointer (some ⟨g8, 0, none⟩), .pointer (some ⟨g7, 0, none⟩)] w (NameIs os outs f w) := by
  have hg7 : g7 < w.heap.size := World.block_lt_of_cell? w _ h7
  have hg8 : g8 < w.heap.size := World.block_lt_of_cell? w _ h8
  have HL := hide hlit
  have h1 := hide h1
  have h2 := hide h2
  obtain ⟨v, p, o⟩ := f
  unfold encK
  simp only
  by_cases hp : 0 < p
  · have d1 : decide (0 < p) = true := by rw [decide_eq_true_iff]; exact hp
    cases o
    · have hR := hide (show nameF os outs ⟨v, p, false⟩ = (⟨v, 0, false⟩, true) by unfold nameF; rw [if_pos ⟨hp, rfl⟩])
      go_enter Tryd.func91, Tryd.ntmps91
      go_wp2
      refine bodyPost_ret (v := .tuple #[.agg #[.int .i64 v, .int .i64 0, .bool false], .bool true]) (by simp [results, Tryd.results91, go_sem]) rfl ?_
      refine name_is hR.out ?_
      repeat first | exact Below.refl _ _ | refine Below.alloc ?_ (by first | (simp; done) | (simp; omega)) _ | refine Below.setCell ?_ (by first | (simp; done) | (simp; omega)) _
    · have hR := hide (show nameF os outs ⟨v, p, true⟩ = (⟨v, p, true⟩, false) by unfold nameF; rw [if_neg (by simp), if_neg (by simp; omega)])
      have d2 : (p == 0) = false := by rw [beq_eq_false_iff_ne]; omega
      go_enter Tryd.func91, Tryd.ntmps91
      go_wp2
      refine bodyPost_ret (v := .tuple #[.agg #[.int .i64 v, .int .i64 p, .bool true], .bool false]) (by simp [results, Tryd.results91, go_sem]) rfl ?_
      refine name_is hR.out ?_
      repeat first | exact Below.refl _ _ | refine Below.alloc ?_ (by first | (simp; done) | (simp; omega)) _ | refine Below.setCell ?_ (by first | (simp; done) | (simp; omega)) _
  · have d1 : decide (0 < p) = false := by rw [decide_eq_false_iff_not]; exact hp
    by_cases hp0 : p = 0
    · subst hp0
      obtain ⟨N, hN⟩ : ∃ N : Nat, usedN os outs v = N := ⟨_, rfl⟩
      have hget := hide (show (mget m2 v).getD (.int .i64 0) = .int .i64 (N : Int) by rw [← hN]; exact h2.out v)
      by_cases hN1 : N = 1
      · subst hN1
        cases hu : lastO os v with
        | none =>
          exfalso
          unfold usedN countO at hN
          unfold lastO at hu
          rw [List.getLast?_eq_none_iff] at hu
          rw [hu] at hN
          simp at hN
          omega
        | some u =>
          have hmem : u ∈ os := by
            unfold lastO at hu
            exact (List.mem_filter.1 (List.mem_of_getLast? hu)).1
          obtain ⟨hl0, hl1⟩ := HL.out u hmem
          have hR := hide (show nameF os outs ⟨v, 0, o⟩ = (⟨u.f.v, u.f.p, o != decide (u.lit % 2 = 1)⟩, true) by unfold nameF; rw [if_neg (by simp), if_pos ⟨rfl, hN⟩]; simp only [hu])
          have hget1 := hide (show (mget m1 v).getD (.agg #[.int .i64 0, .int .i64 0, .bool false, .int .i64 0]) = .agg #[.int .i64 u.f.v, .int .i64 u.f.p, .bool u.f.o, .int .i64 u.lit] by rw [h1.out v, hu]; rfl)
          have hx : bits .and .i64 u.lit 1 = u.lit % 2 := and_one _ hl0 (by omega)
          obtain ⟨b, hbb⟩ : ∃ b, (u.lit % 2 == 1) = b := ⟨_, rfl⟩
          have hbd : decide (u.lit % 2 = 1) = b := by rw [← hbb]; rfl
          rw [hbd] at hR
          clear hu hmem hN hbd h1 h2
          obtain ⟨uk, ⟨uv, up, uo⟩, ul⟩ := u
          simp only at *
          cases o <;> cases b
          all_goals
            go_enter Tryd.func91, Tryd.ntmps91
            go_wp2_with (at_lookup; first | (refine wpList_wanted (by rfl) ?_; refine wpList_lookupO (keyLaw_int Tryd.underlying3) Tryd.underlying113 zero_int rfl _ _ rfl ((hM2.alloc _).alloc _) v (by rfl) (by rfl) ?_; rw [hget.out]) | (refine wpList_lookupO (keyLaw_int Tryd.underlying3) Tryd.underlying112 zero_use rfl _ _ rfl ((hM1.alloc _).alloc _) v (by rfl) (by rfl) ?_; rw [hget1.out]))
            refine bodyPost_ret (v := .tuple #[.agg #[.int .i64 uv, .int .i64 up, .bool _], .bool true]) (by simp [results, Tryd.results91, go_sem]; rfl) rfl ?_
            refine name_is hR.out ?_
            repeat first | exact Below.refl _ _ | refine Below.alloc ?_ (by first | (simp; done) | (simp; omega)) _ | refine Below.setCell ?_ (by first | (simp; done) | (simp; omega)) _
      · have hR := hide (show nameF os outs ⟨v, 0, o⟩ = (⟨v, 0, o⟩, false) by unfold nameF; rw [if_neg (by simp), if_neg (by rintro ⟨_, h⟩; exact hN1 (hN.symm.trans h))])
        have e1 : ((N : Int) == 1) = false := by rw [beq_eq_false_iff_ne]; omega
        have e2 : (N == 1) = false := by rw [beq_eq_false_iff_ne]; exact hN1
        clear hN h1 h2
        go_enter Tryd.func91, Tryd.ntmps91
        go_wp2_with (at_lookup; refine wpList_wanted (by rfl) ?_; refine wpList_lookupO (keyLaw_int Tryd.underlying3) Tryd.underlying113 zero_int rfl _ _ rfl ((hM2.alloc _).alloc _) v (by rfl) (by rfl) ?_; rw [hget.out])
        refine bodyPost_ret (v := .tuple #[.agg #[.int .i64 v, .int .i64 0, .bool o], .bool false]) (by simp [results, Tryd.results91, go_sem]) rfl ?_
        refine name_is hR.out ?_
        repeat first | exact Below.refl _ _ | refine Below.alloc ?_ (by first | (simp; done) | (simp; omega)) _ | refine Below.setCell ?_ (by first | (simp; done) | (simp; omega)) _
    · have hR := hide (show nameF os outs ⟨v, p, o⟩ = (⟨v, p, o⟩, false) by unfold nameF; rw [if_neg (fun h => hp h.1), if_neg (fun h => hp0 h.1)])
      have d2 : (p == 0) = false := by rw [beq_eq_false_iff_ne]; exact hp0
      clear h1 h2
      go_enter Tryd.func91, Tryd.ntmps91
      go_wp2
      refine bodyPost_ret (v := .tuple #[.agg #[.int .i64 v, .int .i64 p, .bool o], .bool false]) (by simp [results, Tryd.results91, go_sem]) rfl ?_
      refine name_is hR.out ?_
      repeat first | exact Below.refl _ _ | refine Below.alloc ?_ (by first | (simp; done) | (simp; omega)) _ | refine Below.setCell ?_ (by first | (simp; done) | (simp; omega)) _
end Go.Proofs.YtcjoohaagdihlaaDoor.Fault
