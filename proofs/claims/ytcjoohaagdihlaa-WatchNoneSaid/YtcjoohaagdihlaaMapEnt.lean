/- A map's entry, laid first and filled later. No program in sight. -/
import Derived.Test.YtcjoohaagdihlaaMapSlots
namespace Go.Lt
open Go.RowKit Go.Instr Go.ChangeMaps
set_option linter.unusedVariables false
set_option linter.unusedSimpArgs false
set_option linter.unusedSectionVars false

section
variable {κ : Type} [DecidableEq κ] {enc : κ → Value} {w w' : World} {B r : Nat} {l : List (κ × Value)} {P : Program} {t K E : TypeId} {z : Value}
/-- the map of block B holds just this, and the entry of key x bears this stamp -/
def EntS (w : World) (enc : κ → Value) (B : Nat) (l : List (κ × Value)) (x : κ) (c : Nat) : Prop :=
  ∃ (es : Array MapEntry) (clk : Nat), w.heap[B]? = some (.map es clk) ∧ es.toList.map (fun e => (e.key, e.val)) = l.map (fun p => (enc p.1, p.2)) ∧ (es.toList.map (·.born)).Nodup ∧ (∀ x ∈ es.toList, x.born < clk) ∧ (l.map (·.1)).Nodup ∧
    ∃ (i : Nat) (e : MapEntry) (u : Value), es.toList[i]? = some e ∧ e.born = c ∧ l[i]? = some (x, u)
theorem EntS.mapS {x : κ} {c : Nat} (h : EntS w enc B l x c) : MapS w enc B l := by
  obtain ⟨es, clk, h1, h2, h3, h4, h5, _⟩ := h
  exact ⟨es, clk, h1, h2, h3, h4, h5⟩
theorem EntS.block {x : κ} {c : Nat} (h : EntS w enc B l x c) (hb : w'.heap[B]? = w.heap[B]?) : EntS w' enc B l x c := by
  obtain ⟨es, clk, h1, h2⟩ := h
  exact ⟨es, clk, hb.trans h1, h2⟩
theorem mput_new {x : κ} {v : Value} (h : mfind l x 0 = none) : mput l x v = l ++ [(x, v)] := mfind_none h v
theorem run_entryNew (L : KeyLaw P K enc) (ht : P.underlying t = some (.map K E)) (hz : ∀ w : World, (zeroValue E).run P w = .ok z w) (h : MapS w enc B l) (x : κ) (hx : mfind l x 0 = none) :
    ∃ w' c, (Instr.mapEntry t (.map (some B)) (enc x)).run P w = .ok (.tuple #[z, .int .i64 ((c : Nat) : Int)]) w' ∧ EntS w' enc B (mput l x z) x c ∧ w.grownBy w' (some B) ∧ w'.heap.size = w.heap.size := by
  obtain ⟨es, c, h1, h2, hn, hc0, hk0⟩ := h
  have hf := L.find x es.toList l w h2
  have hc := fun b => L.check b x w
  have hlen : es.toList.length = l.length := by have := congrArg List.length h2; simpa using this
  rw [hx] at hf
  refine ⟨setBlock w B (.map (es.push ⟨enc x, z, c⟩) (c + 1)), c, ?_, ⟨_, _, heap_setBlock_same h1 _, ?_, ?_, ?_, mput_nodup hk0 x z, l.length, ⟨enc x, z, c⟩, z, ?_, rfl, ?_⟩, ⟨rfl, rfl, rfl, by simp [setBlock], fun i _ hi => heap_setBlock_other h1 _ (fun e => hi (by rw [e]))⟩, by simp [setBlock]⟩
  · simp [Instr.mapEntry, run_underlying ht, MapKept.run_getObj_map h1, hc, hf, hz, MapKept.run_setObj_map _ h1, Result.andThen, setBlock, goInt]
  · rw [mput_new hx, Array.toList_push, List.map_append, List.map_append, h2]; rfl
  · rw [Array.toList_push, List.map_append, List.nodup_append]
    refine ⟨hn, by simp, ?_⟩
    intro a ha b hb
    obtain ⟨y, hy, rfl⟩ := List.mem_map.1 ha
    have hb : b = c := by simpa using hb
    have := hc0 y hy
    omega
  · intro y hy
    rw [Array.toList_push, List.mem_append] at hy
    rcases hy with hy | hy
    · have := hc0 y hy; omega
    · have hy : y = ⟨enc x, z, c⟩ := by simpa using hy
      rw [hy]; show c < c + 1; omega
  · rw [Array.toList_push, ← hlen, List.getElem?_append_right (Nat.le_refl _)]; simp
  · rw [mput_new hx, List.getElem?_append_right (Nat.le_refl _)]; simp
theorem find_born {es : List MapEntry} (hn : (es.map (·.born)).Nodup) {i : Nat} {e : MapEntry} (hi : es[i]? = some e) : es.findIdx? (fun a => (a.born : Int) == (e.born : Int)) = some i := by
  obtain ⟨hl, he⟩ := List.getElem?_eq_some_iff.1 hi
  rw [List.findIdx?_eq_some_iff_getElem]
  refine ⟨hl, by rw [he]; simp, fun j hj => ?_⟩
  intro h
  have h : (es[j].born : Int) = e.born := by simpa using h
  have h2 : es[j].born = es[i].born := by rw [he]; omega
  have h3 := List.pairwise_iff_getElem.1 hn j i (by simp; omega) (by simpa using hl) hj
  exact h3 (by simpa using h2)
theorem run_entryStore {x : κ} {c : Nat} (hinj : ∀ a b : κ, enc a = enc b → a = b) (h : EntS w enc B l x c) (v : Value) :
    ∃ w', (Instr.entryStore t (.map (some B)) (.int .i64 (c : Int)) v).run P w = .ok () w' ∧ MapS w' enc B (mput l x v) ∧ w.grownBy w' (some B) ∧ w'.heap.size = w.heap.size := by
  obtain ⟨es, clk, h1, h2, hn, hc0, hk0, i, e, u, hi, rfl, hli⟩ := h
  have hfi := find_born hn hi
  have hfa : es.findIdx? (fun a => (a.born : Int) == (e.born : Int)) = some i := by rw [show es.findIdx? (fun a => (a.born : Int) == (e.born : Int)) = es.toList.findIdx? (fun a => (a.born : Int) == (e.born : Int)) by cases es; simp]; exact hfi
  obtain ⟨hil, hie0⟩ := List.getElem?_eq_some_iff.1 hi
  have hie : i < es.size := by rwa [Array.length_toList] at hil
  have hput : mput l x v = l.set i (x, v) := by
    cases hm : mfind l x 0 with
    | none => exact absurd (List.mem_map.2 ⟨(x, u), List.mem_of_getElem? hli, rfl⟩) (mfind_no hm)
    | some q =>
      obtain ⟨k, u2⟩ := q
      obtain ⟨k2, hk1, hk2, hp⟩ := mfind_some hm v
      have hki : k2 = i := by
        obtain ⟨a1, a2⟩ := List.getElem?_eq_some_iff.1 hk2
        obtain ⟨b1, b2⟩ := List.getElem?_eq_some_iff.1 hli
        rcases Nat.lt_trichotomy k2 i with h3 | h3 | h3
        · exact (List.pairwise_iff_getElem.1 hk0 k2 i (by simpa using a1) (by simpa using b1) h3 (by simp [a2, b2])).elim
        · exact h3
        · exact (List.pairwise_iff_getElem.1 hk0 i k2 (by simpa using b1) (by simpa using a1) h3 (by simp [a2, b2])).elim
      rw [hp, hki]
  have hborn : (es.modify i fun e => { e with val := v }).toList.map (·.born) = es.toList.map (·.born) := by
    apply List.ext_getElem?
    intro j
    rw [List.getElem?_map, Array.getElem?_toList, Array.getElem?_modify, List.getElem?_map, Array.getElem?_toList]
    by_cases hj : i = j
    · subst hj; simp [hie]
    · simp [hj]
  refine ⟨setBlock w B (.map (es.modify i fun e => { e with val := v }) clk), ?_, ⟨_, _, heap_setBlock_same h1 _, ?_, by rw [hborn]; exact hn, ?_, mput_nodup hk0 x v⟩, ⟨rfl, rfl, rfl, by simp [setBlock], fun i _ hi => heap_setBlock_other h1 _ (fun e => hi (by rw [e]))⟩, by simp [setBlock]⟩
  · simp [Instr.entryStore, MapKept.run_getObj_map h1, MapKept.run_setObj_map _ h1, Result.andThen, setBlock, asInt, asIntOf, hfa]
  · rw [hput, List.map_set, ← h2]
    apply List.ext_getElem?
    intro j
    rw [List.getElem?_map, Array.getElem?_toList, Array.getElem?_modify, List.getElem?_set, List.getElem?_map, Array.getElem?_toList]
    by_cases hj : i = j
    · subst hj
      have hkey : (es[i]'hie).key = enc x := by
        have h3 : (es.toList.map (fun e => (e.key, e.val)))[i]? = (l.map (fun p => (enc p.1, p.2)))[i]? := by rw [h2]
        rw [List.getElem?_map, List.getElem?_map, hli, Array.getElem?_toList, Array.getElem?_eq_getElem hie] at h3
        exact congrArg Prod.fst (Option.some.inj h3)
      simp [hie, hkey]
    · simp [hj]
  · intro y hy
    have hy2 : y.born ∈ es.toList.map (·.born) := by rw [← hborn]; exact List.mem_map.2 ⟨y, hy, rfl⟩
    obtain ⟨y', hy', e⟩ := List.mem_map.1 hy2
    rw [← e]; exact hc0 y' hy'
variable {o : Oper} {a : Act} {N : Act → World → Prop} {Q : Exit → Act → World → Prop}
theorem oper_entryNew (L : KeyLaw P K enc) (ht : P.underlying t = some (.map K E)) (hz : ∀ w : World, (zeroValue E).run P w = .ok z w) (m k : Operand) (hop : o.op = Op.mapEntry t m k) (h : MapS w enc B l) (x : κ) (hx : mfind l x 0 = none) (hm : a.eval m = .map (some B)) (hk : a.eval k = enc x)
    (hK : ∀ w' c, EntS w' enc B (mput l x z) x c → w.grownBy w' (some B) → w'.heap.size = w.heap.size → N (a.put o.dst (.tuple #[z, .int .i64 ((c : Nat) : Int)])) w') : Oper.wp P o a w N Q := by
  obtain ⟨w', c, hrun, r1, r2, r3⟩ := run_entryNew L ht hz h x hx
  unfold Oper.wp
  simp [execOp, hop, hm, hk, hrun, Result.andThen]
  exact hK w' c r1 r2 r3
theorem oper_entryStore (hinj : ∀ a b : κ, enc a = enc b → a = b) (m s v : Operand) (hop : o.op = Op.entryStore t m s v) {x : κ} {c : Nat} (h : EntS w enc B l x c) (u : Value) (hm : a.eval m = .map (some B)) (hs : a.eval s = .int .i64 (c : Int)) (hv : a.eval v = u)
    (hK : ∀ w', MapS w' enc B (mput l x u) → w.grownBy w' (some B) → w'.heap.size = w.heap.size → N (a.put o.dst undef) w') : Oper.wp P o a w N Q := by
  obtain ⟨w', hrun, r1, r2, r3⟩ := run_entryStore (P := P) (t := t) hinj h u
  unfold Oper.wp
  simp [execOp, hop, hm, hs, hv, hrun, Result.andThen]
  exact hK w' r1 r2 r3
end
end Go.Lt
