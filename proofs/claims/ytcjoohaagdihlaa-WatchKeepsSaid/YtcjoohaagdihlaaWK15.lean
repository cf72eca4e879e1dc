/- Texts behind a row, one behind the other: Map2, MapSlots, KeysS. -/
import Derived.Test.YtcjoohaagdihlaaWK14
import Derived.Maps.RangeWalk
import Derived.Test.YtcjoohaagdihlaaWK6
import Derived.Shelf.SlIterI.Nil
section
/- Maps with their stamps: that are gone through, and of which a key is struck. No program in sight. -/
namespace Go.Lt
open Go.RowKit Go.Instr Go.ChangeMaps
set_option linter.unusedVariables false
set_option linter.unusedSimpArgs false
set_option linter.unusedSectionVars false

theorem filter_one {α β : Type} [DecidableEq β] (f : α → β) : ∀ (L : List α) (i : Nat) (e : α), (L.map f).Nodup → L[i]? = some e → L.filter (fun x => !decide (f x = f e)) = L.eraseIdx i
  | [], _, _, _, h => by simp at h
  | x :: L, 0, e, hn, h => by
    have h : x = e := by simpa using h
    subst h
    rw [List.map_cons, List.nodup_cons] at hn
    rw [List.filter_cons, List.eraseIdx_cons_zero]
    simp only [decide_true, Bool.not_true, Bool.false_eq_true, if_false]
    rw [List.filter_eq_self]
    intro y hy
    have : f y ≠ f x := fun h1 => hn.1 (h1 ▸ List.mem_map.2 ⟨y, hy, rfl⟩)
    simp [this]
  | x :: L, i + 1, e, hn, h => by
    rw [List.map_cons, List.nodup_cons] at hn
    have h : L[i]? = some e := by simpa using h
    have hne : f x ≠ f e := fun h1 => hn.1 (h1 ▸ List.mem_map.2 ⟨e, List.mem_of_getElem? h, rfl⟩)
    rw [List.filter_cons, List.eraseIdx_cons_succ]
    simp only [hne, decide_false, Bool.not_false, if_true]
    rw [filter_one f L i e hn.2 h]
section
variable {κ : Type} [DecidableEq κ]
def mdel (l : List (κ × Value)) (x : κ) : List (κ × Value) := l.filter fun p => !decide (p.1 = x)
theorem mget_mem {l : List (κ × Value)} {x : κ} {v : Value} (h : mget l x = some v) : (x, v) ∈ l := by
  induction l with
  | nil => cases h
  | cons p l ih =>
    obtain ⟨k, u⟩ := p
    unfold mget at h
    by_cases h2 : k = x
    · rw [if_pos h2] at h; injection h with h; subst h h2; exact List.mem_cons_self
    · rw [if_neg h2] at h; exact List.mem_cons_of_mem _ (ih h)
theorem mem_mget {l : List (κ × Value)} {x : κ} {v : Value} (hn : (l.map (·.1)).Nodup) (h : (x, v) ∈ l) : mget l x = some v := by
  induction l with
  | nil => cases h
  | cons p l ih =>
    obtain ⟨k, u⟩ := p
    rw [List.map_cons, List.nodup_cons] at hn
    unfold mget
    rcases List.mem_cons.1 h with h | h
    · injection h with h1 h2; subst h1 h2; rw [if_pos rfl]
    · have hx : x ∈ l.map (·.1) := List.mem_map.2 ⟨_, h, rfl⟩
      rw [if_neg (fun e => hn.1 (by rw [e]; exact hx))]
      exact ih hn.2 h
theorem mfind_no {l : List (κ × Value)} {x : κ} {i : Nat} (h : mfind l x i = none) : x ∉ l.map (·.1) := by
  induction l generalizing i with
  | nil => simp
  | cons p l ih =>
    obtain ⟨k, u⟩ := p
    unfold mfind at h
    by_cases h2 : k = x
    · rw [if_pos h2] at h; cases h
    · rw [if_neg h2] at h
      rw [List.map_cons, List.mem_cons]
      rintro (h3 | h3)
      · exact h2 h3.symm
      · exact ih h h3
theorem mput_nodup {l : List (κ × Value)} (hn : (l.map (·.1)).Nodup) (x : κ) (v : Value) : ((mput l x v).map (·.1)).Nodup := by
  cases hm : mfind l x 0 with
  | none =>
    rw [mfind_none hm, List.map_append, List.nodup_append]
    refine ⟨hn, by simp, ?_⟩
    intro a ha b hb
    have hb : b = x := by simpa using hb
    subst hb
    exact fun e => mfind_no hm (e ▸ ha)
  | some r =>
    obtain ⟨i, u⟩ := r
    obtain ⟨k, hik, hk, hput⟩ := mfind_some hm v
    rw [hput, List.map_set]
    have : (l.map (·.1)).set k x = l.map (·.1) := by
      apply List.ext_getElem?
      intro j
      rw [List.getElem?_set]
      by_cases hj : k = j
      · subst hj
        have hl : k < l.length := (List.getElem?_eq_some_iff.1 hk).1
        rw [if_pos rfl, if_pos (by simpa using hl), List.getElem?_map, hk]; rfl
      · rw [if_neg hj]
    show ((l.map (·.1)).set k x).Nodup
    rw [this]; exact hn
theorem mdel_no {l : List (κ × Value)} {x : κ} (h : x ∉ l.map (·.1)) : mdel l x = l := by
  unfold mdel
  rw [List.filter_eq_self]
  intro p hp
  have : p.1 ≠ x := fun e => h (e ▸ List.mem_map.2 ⟨p, hp, rfl⟩)
  simp [this]
theorem mget_mdel (l : List (κ × Value)) (x y : κ) : mget (mdel l x) y = if x = y then none else mget l y := by
  induction l with
  | nil => simp [mdel, mget]
  | cons p l ih =>
    obtain ⟨k, u⟩ := p
    unfold mdel at ih ⊢
    rw [List.filter_cons]
    by_cases h : k = x
    · subst h
      simp only [decide_true, Bool.not_true, Bool.false_eq_true, if_false]
      rw [ih]
      rw [show mget ((k, u) :: l) y = if k = y then some u else mget l y from rfl]
      by_cases h2 : k = y <;> simp [h2]
    · simp only [h, decide_false, Bool.not_false, if_true]
      rw [show mget ((k, u) :: l) y = if k = y then some u else mget l y from rfl, show ∀ r, mget ((k, u) :: r) y = if k = y then some u else mget r y from fun _ => rfl]
      rw [ih]
      by_cases h2 : k = y
      · subst h2
        rw [if_pos rfl, if_pos rfl, if_neg (fun e => h e.symm)]
      · rw [if_neg h2, if_neg h2]
theorem mdel_nodup {l : List (κ × Value)} (hn : (l.map (·.1)).Nodup) (x : κ) : ((mdel l x).map (·.1)).Nodup := hn.sublist (List.filter_sublist.map _)

/-- the map of block B holds just this, and may be gone through -/
def MapS (w : World) (enc : κ → Value) (B : Nat) (l : List (κ × Value)) : Prop :=
  ∃ es c, w.heap[B]? = some (.map es c) ∧ es.toList.map (fun e => (e.key, e.val)) = l.map (fun p => (enc p.1, p.2)) ∧ (es.toList.map (·.born)).Nodup ∧ (∀ x ∈ es.toList, x.born < c) ∧ (l.map (·.1)).Nodup
variable {enc : κ → Value} {w w' : World} {B r : Nat} {l todo : List (κ × Value)}
theorem MapS.toO (h : MapS w enc B l) : MapO w enc B l := by
  obtain ⟨es, c, h1, h2, _⟩ := h
  exact ⟨es, c, h1, h2⟩
theorem MapS.lt (h : MapS w enc B l) : B < w.heap.size := h.toO.lt
theorem MapS.keys (h : MapS w enc B l) : (l.map (·.1)).Nodup := by obtain ⟨_, _, _, _, _, _, h⟩ := h; exact h
theorem MapS.block (h : MapS w enc B l) (hb : w'.heap[B]? = w.heap[B]?) : MapS w' enc B l := by
  obtain ⟨es, c, h1, h2⟩ := h
  exact ⟨es, c, hb.trans h1, h2⟩
theorem MapS.below {N : Nat} (h : MapS w enc B l) (hb : Below N w w') (hB : B < N) : MapS w' enc B l := h.block (hb.block B hB)
theorem MapS.alloc (h : MapS w enc B l) (o : Obj) : MapS (w.alloc o) enc B l := h.block (Below.heap_alloc w o B h.lt)
theorem MapS.grown {row : Option Nat} (h : MapS w enc B l) (hb : w.grownBy w' row) (hg : some B ≠ row) : MapS w' enc B l := h.block (hb.block B h.lt hg)
theorem MapS.setCell (h : MapS w enc B l) {p : Addr} (hp : B ≠ p.block) (u : Value) : MapS (w.setCell p u) enc B l := h.block (Below.heap_setCell w p u B hp)
theorem MapS.dr (h : MapS w enc B l) (hd : Dr w w') : MapS w' enc B l := by obtain ⟨m, rfl⟩ := hd; exact h
theorem MapS.own_ne {base : Nat} {e : TypeId} {size n : Nat} {v : Value} {xs : List Value} (h : MapS w enc B l) (ho : w.ownsRow base e size v n xs) : some B ≠ v.ownBlock := h.toO.own_ne ho
theorem MapS.made (w : World) (enc : κ → Value) : MapS (w.alloc (.map #[] 0)) enc w.heap.size ([] : List (κ × Value)) :=
  ⟨#[], 0, heap_alloc_new w _, rfl, by simp, by simp, by simp⟩

variable {P : Program} {t K E : TypeId} {z : Value}
theorem run_updateS (L : KeyLaw P K enc) (ht : P.underlying t = some (.map K E)) (h : MapS w enc B l) (x : κ) (v : Value) :
    ∃ w', (Instr.mapUpdate t (.map (some B)) (enc x) v).run P w = .ok () w' ∧ MapS w' enc B (mput l x v) ∧ w.grownBy w' (some B) ∧ w'.heap.size = w.heap.size := by
  obtain ⟨es, c, h1, h2, hn, hc0, hk0⟩ := h
  have hf := L.find x es.toList l w h2
  have hc := fun b => L.check b x w
  have hfr : ∀ o', w.grownBy (setBlock w B o') (some B) := fun o' => ⟨rfl, rfl, rfl, by simp [setBlock], fun i _ hi => heap_setBlock_other h1 _ (fun e => hi (by rw [e]))⟩
  cases hm : mfind l x 0 with
  | none =>
    rw [hm] at hf
    refine ⟨setBlock w B (.map (es.push ⟨enc x, v, c⟩) (c + 1)), ?_, ⟨_, _, heap_setBlock_same h1 _, ?_, ?_, ?_, mput_nodup hk0 x v⟩, hfr _, by simp [setBlock]⟩
    · simp [Instr.mapUpdate, run_underlying ht, MapKept.run_getObj_map h1, hc, hf, MapKept.run_setObj_map _ h1, Result.andThen, setBlock]
    · rw [mfind_none hm, Array.toList_push, List.map_append, List.map_append, h2]; rfl
    · rw [Array.toList_push, List.map_append, List.nodup_append]
      refine ⟨hn, by simp, ?_⟩
      intro a ha b hb
      obtain ⟨y, hy, rfl⟩ := List.mem_map.1 ha
      have hb : b = c := by simpa using hb
      have := hc0 y hy
      omega
    · intro y hy
      rw [Array.toList_push, List.mem_append] at hy
      rcases hy with hy | hy
      · have := hc0 y hy; omega
      · have hy : y = ⟨enc x, v, c⟩ := by simpa using hy
        rw [hy]; show c < c + 1; omega
  | some r =>
    obtain ⟨i, u⟩ := r
    rw [hm] at hf
    obtain ⟨k, hik, hk, hput⟩ := mfind_some hm v
    have hik : i = k := by omega
    subst hik
    have hlen : es.toList.length = l.length := by have := congrArg List.length h2; simpa using this
    have hil : i < l.length := (List.getElem?_eq_some_iff.1 hk).1
    have hie : i < es.size := by rw [← Array.length_toList]; omega
    have hkey : (es[i]'hie).key = enc x := by
      have h3 : (es.toList.map (fun e => (e.key, e.val)))[i]? = (l.map (fun p => (enc p.1, p.2)))[i]? := by rw [h2]
      rw [List.getElem?_map, List.getElem?_map, hk, Array.getElem?_toList, Array.getElem?_eq_getElem hie] at h3
      exact congrArg Prod.fst (Option.some.inj h3)
    have hborn : (es.modify i fun e => { e with key := enc x, val := v }).toList.map (·.born) = es.toList.map (·.born) := by
      apply List.ext_getElem?
      intro j
      rw [List.getElem?_map, Array.getElem?_toList, Array.getElem?_modify, List.getElem?_map, Array.getElem?_toList]
      by_cases hj : i = j
      · subst hj
        simp [hie]
      · simp [hj]
    refine ⟨setBlock w B (.map (es.modify i fun e => { e with key := enc x, val := v }) c), ?_, ⟨_, _, heap_setBlock_same h1 _, ?_, by rw [hborn]; exact hn, ?_, mput_nodup hk0 x v⟩, hfr _, by simp [setBlock]⟩
    · simp [Instr.mapUpdate, run_underlying ht, MapKept.run_getObj_map h1, hc, hf, MapKept.run_setObj_map _ h1, Result.andThen, setBlock, keyThatStays, hie, hkey, L.same]
    · rw [hput, List.map_set, ← h2]
      apply List.ext_getElem?
      intro j
      rw [List.getElem?_map, Array.getElem?_toList, Array.getElem?_modify, List.getElem?_set, List.getElem?_map, Array.getElem?_toList]
      by_cases hj : i = j
      · subst hj
        simp [hie]
      · simp [hj]
    · intro y hy
      have hy2 : y.born ∈ es.toList.map (·.born) := by rw [← hborn]; exact List.mem_map.2 ⟨y, hy, rfl⟩
      obtain ⟨y', hy', e⟩ := List.mem_map.1 hy2
      rw [← e]; exact hc0 y' hy'
theorem run_deleteS (L : KeyLaw P K enc) (ht : P.underlying t = some (.map K E)) (h : MapS w enc B l) (x : κ) (ty : TypeId) :
    ∃ w', (Builtin.delete_ #[t, K] ty #[.map (some B), enc x]).run P w = .ok (.tuple #[]) w' ∧ MapS w' enc B (mdel l x) ∧ w.grownBy w' (some B) ∧ w'.heap.size = w.heap.size := by
  obtain ⟨es, c, h1, h2, hn, hc0, hk0⟩ := h
  have hf := L.find x es.toList l w h2
  have hc := fun b => L.check b x w
  have hfr : ∀ o', w.grownBy (setBlock w B o') (some B) := fun o' => ⟨rfl, rfl, rfl, by simp [setBlock], fun i _ hi => heap_setBlock_other h1 _ (fun e => hi (by rw [e]))⟩
  cases hm : mfind l x 0 with
  | none =>
    rw [hm] at hf
    refine ⟨setBlock w B (.map es c), ?_, ⟨es, c, heap_setBlock_same h1 _, by rw [mdel_no (mfind_no hm)]; exact h2, hn, hc0, by rw [mdel_no (mfind_no hm)]; exact hk0⟩, hfr _, by simp [setBlock]⟩
    simp [Builtin.delete_, run_underlying ht, MapKept.run_getObj_map h1, hc, hf, MapKept.run_setObj_map _ h1, Result.andThen, setBlock]
  | some q =>
    obtain ⟨i, u⟩ := q
    rw [hm] at hf
    obtain ⟨k, hik, hk, _⟩ := mfind_some hm u
    have hik : i = k := by omega
    subst hik
    have hlen : es.toList.length = l.length := by have := congrArg List.length h2; simpa using this
    have hil : i < l.length := (List.getElem?_eq_some_iff.1 hk).1
    have hie : i < es.size := by rw [← Array.length_toList]; omega
    have hsub : (es.eraseIdxIfInBounds i).toList = es.toList.eraseIdx i := by
      unfold Array.eraseIdxIfInBounds
      rw [dif_pos hie]
      simp
    have hd : mdel l x = l.eraseIdx i := filter_one Prod.fst l i (x, u) hk0 hk
    refine ⟨setBlock w B (.map (es.eraseIdxIfInBounds i) c), ?_, ⟨_, _, heap_setBlock_same h1 _, ?_, ?_, ?_, mdel_nodup hk0 x⟩, hfr _, by simp [setBlock]⟩
    · simp [Builtin.delete_, run_underlying ht, MapKept.run_getObj_map h1, hc, hf, MapKept.run_setObj_map _ h1, Result.andThen, setBlock]
    · rw [hsub, hd, map_eraseIdx, map_eraseIdx, h2]
    · rw [hsub]; exact hn.sublist ((List.eraseIdx_sublist _ _).map _)
    · intro y hy
      rw [hsub] at hy
      exact hc0 y ((List.eraseIdx_sublist _ _).subset hy)
theorem run_lenS (ht : P.underlying t = some (.map K E)) (h : MapO w enc B l) (ty : TypeId) : (Builtin.len_ #[t] ty #[.map (some B)]).run P w = .ok (.int .i64 l.length) w := by
  obtain ⟨es, c, h1, h2⟩ := h
  have hlen : es.size = l.length := by have := congrArg List.length h2; simpa using this
  simp [Builtin.len_, run_underlying ht, MapKept.run_getObj_map h1, goInt, Result.andThen, hlen]

/-- the map of block B is gone through by the iterator of block r: these are still to come -/
def RngO (w : World) (enc : κ → Value) (B r : Nat) (l todo : List (κ × Value)) : Prop :=
  ∃ es c since seen c0, w.heap[B]? = some (.map es c) ∧ es.toList.map (fun e => (e.key, e.val)) = l.map (fun p => (enc p.1, p.2)) ∧ (es.toList.map (·.born)).Nodup ∧ (∀ x ∈ es.toList, x.born < c) ∧ (l.map (·.1)).Nodup ∧
    w.heap[r]? = some (.mapIter (some B) since seen c0) ∧ (∀ x ∈ es.toList, x.born < since) ∧ since ≤ c0 ∧ since ≤ c ∧ (leftOf es seen).toList.map (fun e => (e.key, e.val)) = todo.map (fun p => (enc p.1, p.2))
theorem RngO.mapS (h : RngO w enc B r l todo) : MapS w enc B l := by
  obtain ⟨es, c, since, seen, c0, h1, h2, h3, h4, h5, _⟩ := h
  exact ⟨es, c, h1, h2, h3, h4, h5⟩
theorem RngO.ltr (h : RngO w enc B r l todo) : r < w.heap.size := by
  obtain ⟨es, c, since, seen, c0, h1, h2, h3, h4, h5, h6, _⟩ := h
  exact (Array.getElem?_eq_some_iff.1 h6).1
theorem RngO.ne (h : RngO w enc B r l todo) : r ≠ B := by
  obtain ⟨es, c, since, seen, c0, h1, h2, h3, h4, h5, h6, _⟩ := h
  intro e
  rw [e, h1] at h6
  cases h6
theorem RngO.left_eq (h : RngO w enc B r l todo) : w.rangeLeft B r = todo.length := by
  obtain ⟨es, c, since, seen, c0, h1, h2, h3, h4, h5, h6, _, _, _, h7⟩ := h
  simp only [World.rangeLeft, h1, h6]
  have := congrArg List.length h7
  simpa using this
theorem RngO.blocks (h : RngO w enc B r l todo) (hb : w'.heap[B]? = w.heap[B]?) (hr : w'.heap[r]? = w.heap[r]?) : RngO w' enc B r l todo := by
  obtain ⟨es, c, since, seen, c0, h1, h2, h3, h4, h5, h6, h7⟩ := h
  exact ⟨es, c, since, seen, c0, hb.trans h1, h2, h3, h4, h5, hr.trans h6, h7⟩
theorem RngO.below {N : Nat} (h : RngO w enc B r l todo) (hb : Below N w w') (hB : B < N) (hr : r < N) : RngO w' enc B r l todo := h.blocks (hb.block B hB) (hb.block r hr)
theorem RngO.grown {row : Option Nat} (h : RngO w enc B r l todo) (hb : w.grownBy w' row) (hB : some B ≠ row) (hr : some r ≠ row) : RngO w' enc B r l todo := h.blocks (hb.block B h.mapS.lt hB) (hb.block r h.ltr hr)
theorem RngO.alloc (h : RngO w enc B r l todo) (o : Obj) : RngO (w.alloc o) enc B r l todo := h.blocks (Below.heap_alloc w o B h.mapS.lt) (Below.heap_alloc w o r h.ltr)
theorem RngO.setCell (h : RngO w enc B r l todo) {p : Addr} (hp : B ≠ p.block) (hp2 : r ≠ p.block) (u : Value) : RngO (w.setCell p u) enc B r l todo := h.blocks (Below.heap_setCell w p u B hp) (Below.heap_setCell w p u r hp2)
theorem run_rangeO (ht : P.underlying t = some (.map K E)) (h : MapS w enc B l) :
    ∃ w', (Instr.range t (.map (some B))).run P w = .ok (.pointer (some ⟨w.heap.size, 0, none⟩)) w' ∧ RngO w' enc B w.heap.size l l ∧ Below w.heap.size w w' ∧ w'.heap.size = w.heap.size + 1 := by
  have hlt := h.lt
  obtain ⟨es, c, h1, h2, hn, hc0, hk0⟩ := h
  refine ⟨_, run_range_map w t K E B es c ht h1, ⟨es, c, c, #[], c, (Below.heap_alloc w _ B hlt).trans h1, h2, hn, hc0, hk0, heap_alloc_new w _, hc0, Nat.le_refl _, Nat.le_refl _, ?_⟩, (Below.refl _ _).alloc (Nat.le_refl _) _, by simp⟩
  rw [← h2]
  unfold leftOf
  rw [Array.toList_filter, List.filter_eq_self.2 (fun x _ => by simp)]
theorem run_nextO (h : RngO w enc B r l todo) (ty : TypeId) :
    (todo = [] ∧ (Instr.next (.pointer (some ⟨r, 0, none⟩)) false ty).run P w = .ok (.tuple #[.bool false]) w) ∨
    ∃ a p b w', todo = a ++ p :: b ∧ (Instr.next (.pointer (some ⟨r, 0, none⟩)) false ty).run P w = .ok (.tuple #[.bool true, enc p.1, p.2]) w' ∧ RngO w' enc B r l (a ++ b) ∧ w.grownBy w' (some r) ∧ w'.heap.size = w.heap.size ∧
      (Instr.entry (.pointer (some ⟨r, 0, none⟩))).run P w' = .ok (.tuple #[enc p.1, p.2]) w' := by
  have hne := h.ne
  obtain ⟨es, c, since, seen, c0, h1, h2, hn, hc0, hk0, hr, hold, hsc, hsk, hleft⟩ := h
  rcases run_next_at (P := P) w ty r B since c0 seen es c hr h1 hold hsc with ⟨h0, hrun⟩ | ⟨e, he, w1, hal, hrun⟩
  · refine .inl ⟨?_, hrun⟩
    have hl := congrArg List.length hleft
    rw [List.length_map, List.length_map, Array.length_toList, h0] at hl
    exact List.eq_nil_of_length_eq_zero hl.symm
  · right
    obtain ⟨hem, hes⟩ := mem_left he
    have hr1 : w1.heap[r]? = some (.mapIter (some B) since seen c0) := by rcases hal with rfl | rfl <;> exact hr
    have hb1 : w1.heap[B]? = some (.map es c) := by rcases hal with rfl | rfl <;> exact h1
    have hset := MapKept.heap_set (o' := .mapIter (some B) since (seen.push e.born) c) hr1
    have hb' : (setBlock w1 r (.mapIter (some B) since (seen.push e.born) c)).heap[B]? = some (.map es c) := (hset.2 B (fun e1 => hne e1.symm)).trans hb1
    obtain ⟨L, hL⟩ : ∃ L, (leftOf es seen).toList = L := ⟨_, rfl⟩
    rw [hL] at he hleft
    have hLn : (L.map (·.born)).Nodup := by
      rw [← hL]; unfold leftOf; rw [Array.toList_filter]
      exact hn.sublist (List.filter_sublist.map _)
    obtain ⟨i, hi, hie⟩ := List.getElem_of_mem he
    have hLi : L[i]? = some e := by rw [List.getElem?_eq_getElem hi, hie]
    have hti : i < todo.length := by have := congrArg List.length hleft; simp at this; omega
    have hkv : (e.key, e.val) = (enc (todo[i]).1, (todo[i]).2) := by
      have h3 : (L.map (fun e => (e.key, e.val)))[i]? = (todo.map (fun p => (enc p.1, p.2)))[i]? := by rw [hleft]
      rw [List.getElem?_map, List.getElem?_map, hLi, List.getElem?_eq_getElem hti] at h3
      exact Option.some.inj h3
    have hk1 : e.key = enc (todo[i]).1 := congrArg Prod.fst hkv
    have hk2 : e.val = (todo[i]).2 := congrArg Prod.snd hkv
    have hL' : (leftOf es (seen.push e.born)).toList = L.eraseIdx i := by
      rw [← filter_one MapEntry.born L i e hLn hLi, ← hL]
      unfold leftOf
      rw [Array.toList_filter, Array.toList_filter, List.filter_filter]
      apply List.filter_congr
      intro x _
      rw [contains_push]
      cases seen.contains x.born <;> by_cases hxe : x.born = e.born <;> simp [hxe]
    refine ⟨todo.take i, todo[i], todo.drop (i + 1), _, ?_, by rw [← hk1, ← hk2]; exact hrun, ⟨es, c, since, seen.push e.born, c, hb', h2, hn, hc0, hk0, hset.1, hold, hsk, hsk, ?_⟩, ?_, ?_, ?_⟩
    · rw [List.getElem_cons_drop, List.take_append_drop]
    · rw [hL', map_eraseIdx, hleft, ← map_eraseIdx, List.eraseIdx_eq_take_drop_succ]
    · rcases hal with rfl | rfl <;> exact ⟨rfl, rfl, rfl, by simp [setBlock], fun i _ hi => hset.2 i (fun e1 => hi (by rw [e1]))⟩
    · rcases hal with rfl | rfl <;> simp [setBlock]
    · rw [← hk1, ← hk2]
      exact run_entry_at _ r B since seen es c e hset.1 hb' hem hn

section
variable {ops : Array Oper} {rest : List Oper} {o : Oper} {a : Act} {Q : Exit → Act → World → Prop}
theorem wpList_updateS (L : KeyLaw P K enc) (ht : P.underlying t = some (.map K E)) (hgd : o.guard = none) (m k v : Operand)
    (hop : o.op = Op.mapUpdate t m k v) (h : MapS w enc B l) (x : κ) (u : Value) (hm : a.eval m = .map (some B)) (hx : a.eval k = enc x) (hv : a.eval v = u)
    (hK : ∀ w', MapS w' enc B (mput l x u) → w.grownBy w' (some B) → w'.heap.size = w.heap.size → wpList P ops Q rest (a.put o.dst undef) w') : wpList P ops Q (o :: rest) a w := by
  refine wpList_plain hgd fun K' hK' => ?_
  obtain ⟨w', hrun, r1, r2, r3⟩ := run_updateS L ht h x u
  unfold Oper.wp
  simp [execOp, hop, hm, hx, hv, hrun, Result.andThen]
  exact hK' _ _ (hK w' r1 r2 r3)
theorem wpList_deleteS (L : KeyLaw P K enc) (ht : P.underlying t = some (.map K E)) (hgd : o.guard = none) (m k : Operand)
    (hop : o.op = Op.call { callee := Callee.builtin Builtin.delete, args := #[m, k], argTypes := #[t, K] }) (h : MapS w enc B l) (x : κ) (hm : a.eval m = .map (some B)) (hx : a.eval k = enc x)
    (hK : ∀ w', MapS w' enc B (mdel l x) → w.grownBy w' (some B) → w'.heap.size = w.heap.size → wpList P ops Q rest (a.put o.dst (.tuple #[])) w') : wpList P ops Q (o :: rest) a w := by
  refine wpList_plain hgd fun K' hK' => ?_
  obtain ⟨w', hrun, r1, r2, r3⟩ := run_deleteS L ht h x o.type
  unfold Oper.wp
  simp [execOp, hop, resolve, invoke, builtin, hm, hx, hrun, Result.andThen]
  exact hK' _ _ (hK w' r1 r2 r3)
theorem wpList_lenO (ht : P.underlying t = some (.map K E)) (hgd : o.guard = none) (m : Operand)
    (hop : o.op = Op.call { callee := Callee.builtin Builtin.len, args := #[m], argTypes := #[t] }) (h : MapO w enc B l) (hm : a.eval m = .map (some B))
    (hK : wpList P ops Q rest (a.put o.dst (.int .i64 l.length)) w) : wpList P ops Q (o :: rest) a w := by
  refine wpList_plain hgd fun K' hK' => ?_
  unfold Oper.wp
  simp [execOp, hop, resolve, invoke, builtin, hm, run_lenS ht h o.type, Result.andThen]
  exact hK' _ _ hK
theorem wpList_rangeO (ht : P.underlying t = some (.map K E)) (hgd : o.guard = none) (m : Operand) (hop : o.op = Op.range t m) (h : MapS w enc B l) (hm : a.eval m = .map (some B))
    (hK : ∀ w', RngO w' enc B w.heap.size l l → Below w.heap.size w w' → w'.heap.size = w.heap.size + 1 → wpList P ops Q rest (a.put o.dst (.pointer (some ⟨w.heap.size, 0, none⟩))) w') : wpList P ops Q (o :: rest) a w := by
  refine wpList_plain hgd fun K' hK' => ?_
  obtain ⟨w', hrun, r1, r2, r3⟩ := run_rangeO ht h
  unfold Oper.wp
  simp [execOp, hop, hm, hrun, Result.andThen]
  exact hK' _ _ (hK w' r1 r2 r3)
/-- a step, the elements' shape written out -/
theorem wpList_nextO {β : Type} (mkV : β → Value) (hgd : o.guard = none) (it : Operand) (hop : o.op = Op.next it false) (hit : a.eval it = .pointer (some ⟨r, 0, none⟩)) (h : RngO w enc B r l todo) (hV : ∀ p ∈ todo, ∃ c, p.2 = mkV c)
    (hDone : todo = [] → wpList P ops Q rest (a.put o.dst (.tuple #[.bool false])) w)
    (hMore : ∀ (x : κ) (c : β) (u v : List (κ × Value)) (w' : World), todo = u ++ (x, mkV c) :: v → RngO w' enc B r l (u ++ v) → w.grownBy w' (some r) → w'.heap.size = w.heap.size →
      (Instr.entry (.pointer (some ⟨r, 0, none⟩))).run P w' = .ok (.tuple #[enc x, mkV c]) w' → wpList P ops Q rest (a.put o.dst (.tuple #[.bool true, enc x, mkV c])) w') :
    wpList P ops Q (o :: rest) a w := by
  refine wpList_plain hgd fun K' hK' => ?_
  unfold Oper.wp
  rcases run_nextO (P := P) h o.type with ⟨h0, hrun⟩ | ⟨u, p, v, w', htd, hrun, hrg, hgr, hsz, hen⟩
  · simp [execOp, hop, hit, hrun, Result.andThen]
    exact hK' _ _ (hDone h0)
  · obtain ⟨x, y⟩ := p
    obtain ⟨c, hc⟩ := hV (x, y) (by rw [htd]; simp)
    have hc : y = mkV c := hc
    subst hc
    simp [execOp, hop, hit, hrun, Result.andThen]
    exact hK' _ _ (hMore x c u v w' htd hrg hgr hsz hen)
end
end
/-- .. of keys that are integers -/
theorem wpList_nextI {β : Type} {P : Program} {w : World} {B r : Nat} {l todo : List (Int × Value)} {ops : Array Oper} {rest : List Oper} {o : Oper} {a : Act} {Q : Exit → Act → World → Prop} (mkV : β → Value) (hgd : o.guard = none) (it : Operand) (hop : o.op = Op.next it false) (hit : a.eval it = .pointer (some ⟨r, 0, none⟩)) (h : RngO w encI B r l todo) (hV : ∀ p ∈ todo, ∃ c, p.2 = mkV c)
    (hDone : todo = [] → wpList P ops Q rest (a.put o.dst (.tuple #[.bool false])) w)
    (hMore : ∀ (x : Int) (c : β) (u v : List (Int × Value)) (w' : World), todo = u ++ (x, mkV c) :: v → RngO w' encI B r l (u ++ v) → w.grownBy w' (some r) → w'.heap.size = w.heap.size →
      (Instr.entry (.pointer (some ⟨r, 0, none⟩))).run P w' = .ok (.tuple #[.int .i64 x, mkV c]) w' → wpList P ops Q rest (a.put o.dst (.tuple #[.bool true, .int .i64 x, mkV c])) w') :
    wpList P ops Q (o :: rest) a w := wpList_nextO mkV hgd it hop hit h hV hDone hMore
end Go.Lt
end

section
/- Maps at one operation of a region that draws its order. No program in sight. -/
namespace Go.Lt
open Go.RowKit Go.Instr Go.ChangeMaps
set_option linter.unusedVariables false
set_option linter.unusedSimpArgs false
section
variable {κ : Type} [DecidableEq κ] {P : Program} {t K E : TypeId} {z : Value} {enc : κ → Value} {w : World} {B : Nat} {l : List (κ × Value)} {o : Oper} {a : Act} {N : Act → World → Prop} {Q : Exit → Act → World → Prop}
theorem oper_lookupO (L : KeyLaw P K enc) (ht : P.underlying t = some (.map K E)) (hz : ∀ w : World, (zeroValue E).run P w = .ok z w) (m k : Operand)
    (hop : o.op = Op.lookup t m k false) (h : MapO w enc B l) (x : κ) (hm : a.eval m = .map (some B)) (hx : a.eval k = enc x)
    (hK : N (a.put o.dst ((mget l x).getD z)) w) : Oper.wp P o a w N Q := by
  have hrun := run_lookupO L ht hz h x
  unfold Oper.wp
  simp [execOp, hop, hm, hx, hrun, Result.andThen]
  exact hK
theorem oper_updateS (L : KeyLaw P K enc) (ht : P.underlying t = some (.map K E)) (m k v : Operand)
    (hop : o.op = Op.mapUpdate t m k v) (h : MapS w enc B l) (x : κ) (u : Value) (hm : a.eval m = .map (some B)) (hx : a.eval k = enc x) (hv : a.eval v = u)
    (hK : ∀ w', MapS w' enc B (mput l x u) → w.grownBy w' (some B) → w'.heap.size = w.heap.size → N (a.put o.dst undef) w') : Oper.wp P o a w N Q := by
  obtain ⟨w', hrun, r1, r2, r3⟩ := run_updateS L ht h x u
  unfold Oper.wp
  simp [execOp, hop, hm, hx, hv, hrun, Result.andThen]
  exact hK w' r1 r2 r3
theorem wpList_insertS {ops : Array Oper} {rest : List Oper} (L : KeyLaw P K enc) (ht : P.underlying t = some (.map K E)) (hgd : o.guard = none) (m k v : Operand)
    (hop : o.op = Op.insert t m k v) (h : MapS w enc B l) (x : κ) (u : Value) (hm : a.eval m = .map (some B)) (hx : a.eval k = enc x) (hv : a.eval v = u)
    (hK : ∀ w', MapS w' enc B (mput l x u) → w.grownBy w' (some B) → w'.heap.size = w.heap.size → wpList P ops Q rest (a.put o.dst undef) w') : wpList P ops Q (o :: rest) a w := by
  refine wpList_plain hgd fun K' hK' => ?_
  obtain ⟨w', hrun, r1, r2, r3⟩ := run_updateS L ht h x u
  unfold Oper.wp
  simp [execOp, hop, hm, hx, hv, hrun, Result.andThen]
  exact hK' _ _ (hK w' r1 r2 r3)
theorem oper_deleteS (L : KeyLaw P K enc) (ht : P.underlying t = some (.map K E)) (m k : Operand)
    (hop : o.op = Op.call { callee := Callee.builtin Builtin.delete, args := #[m, k], argTypes := #[t, K] }) (h : MapS w enc B l) (x : κ) (hm : a.eval m = .map (some B)) (hx : a.eval k = enc x)
    (hK : ∀ w', MapS w' enc B (mdel l x) → w.grownBy w' (some B) → w'.heap.size = w.heap.size → N (a.put o.dst (.tuple #[])) w') : Oper.wp P o a w N Q := by
  obtain ⟨w', hrun, r1, r2, r3⟩ := run_deleteS L ht h x o.type
  unfold Oper.wp
  simp [execOp, hop, resolve, invoke, builtin, hm, hx, hrun, Result.andThen]
  exact hK w' r1 r2 r3
end
end Go.Lt
end

section
/- The keys of a map that the call may go through, by a range over a function. No program in sight. -/
namespace Go.Lt
open Go.RowKit Go.Instr Go.ChangeMaps Go.Maps Go.Sort Go.Shelf Go.Proofs
set_option linter.unusedVariables false
set_option linter.unusedSimpArgs false
set_option linter.unusedSectionVars false

section
variable {κ : Type} [DecidableEq κ] {enc : κ → Value} {w w' : World} {B r : Nat} {l todo : List (κ × Value)}
theorem RngO.iter_walk (h : RngO w enc B r l todo) : ∃ o : Obj, w.heap[r]? = some o ∧ o.isWalk = true := by
  obtain ⟨es, c, since, seen, c0, h1, h2, h3, h4, h5, h6, _⟩ := h
  exact ⟨_, h6, rfl⟩
theorem RngO.of_walks (h : RngO w enc B r l todo) (hk : KeepsWalks w w') : RngO w' enc B r l todo := by
  obtain ⟨es, c, since, seen, c0, h1, h2, h3, h4, h5, h6, h7⟩ := h
  exact ⟨es, c, since, seen, c0, hk.same _ _ h1 rfl, h2, h3, h4, h5, hk.same _ _ h6 rfl, h7⟩
variable {F : Fence} {n : Nat} {P : Program} {t K E : TypeId} {ops : Array Oper} {rest : List Oper} {o : Oper} {a : Act} {Q : Exit → Act → World → Prop}
theorem wpListIn_rangeO (ht : P.underlying t = some (.map K E)) (hgd : o.guard = none) (m : Operand) (hop : o.op = Op.range t m) (h : MapS w enc B l) (hm : a.eval m = .map (some B))
    (hK : ∀ w', RngO w' enc B w.heap.size l l → Below w.heap.size w w' → w'.heap.size = w.heap.size + 1 → wpListIn F n P ops Q rest (a.put o.dst (.pointer (some ⟨w.heap.size, 0, none⟩))) w') : wpListIn F n P ops Q (o :: rest) a w := by
  refine wpListIn_plain hgd fun K' hK' => ?_
  obtain ⟨w', hrun, r1, r2, r3⟩ := run_rangeO ht h
  unfold Oper.wpIn
  refine ⟨by simp [Oper.about, hop], ?_⟩
  rw [Oper.semAt_plain F _ _ (by rw [hop]; intro c hc'; cases hc')]
  simp [execOp, hop, hm, hrun, Result.andThen]
  exact hK' _ _ (hK w' r1 r2 r3)
/-- a step: whatever the elements are -/
theorem wpListIn_nextV (hgd : o.guard = none) (it : Operand) (hop : o.op = Op.next it false) (hit : a.eval it = .pointer (some ⟨r, 0, none⟩)) (h : RngO w enc B r l todo)
    (hDone : todo = [] → wpListIn F n P ops Q rest (a.put o.dst (.tuple #[.bool false])) w)
    (hMore : ∀ (x : κ) (c : Value) (u v : List (κ × Value)) (w' : World), todo = u ++ (x, c) :: v → RngO w' enc B r l (u ++ v) → w.grownBy w' (some r) → w'.heap.size = w.heap.size →
      (Instr.entry (.pointer (some ⟨r, 0, none⟩))).run P w' = .ok (.tuple #[enc x, c]) w' → wpListIn F n P ops Q rest (a.put o.dst (.tuple #[.bool true, enc x, c])) w') :
    wpListIn F n P ops Q (o :: rest) a w := by
  refine wpListIn_plain hgd fun K' hK' => ?_
  unfold Oper.wpIn
  refine ⟨by simp [Oper.about, hop], ?_⟩
  rw [Oper.semAt_plain F _ _ (by rw [hop]; intro c hc'; cases hc')]
  rcases run_nextO (P := P) h o.type with ⟨h0, hrun⟩ | ⟨u, p, v, w', htd, hrun, hrg, hgr, hsz, hen⟩
  · simp [execOp, hop, hit, hrun, Result.andThen]
    exact hK' _ _ (hDone h0)
  · obtain ⟨x, y⟩ := p
    simp [execOp, hop, hit, hrun, Result.andThen]
    exact hK' _ _ (hMore x y u v w' htd hrg hgr hsz hen)
end
/-- .. of keys that are integers -/
theorem wpListIn_nextZ {F : Fence} {n : Nat} {P : Program} {w : World} {B r : Nat} {l todo : List (Int × Value)} {ops : Array Oper} {rest : List Oper} {o : Oper} {a : Act} {Q : Exit → Act → World → Prop} (hgd : o.guard = none) (it : Operand) (hop : o.op = Op.next it false) (hit : a.eval it = .pointer (some ⟨r, 0, none⟩)) (h : RngO w Lt.encI B r l todo)
    (hDone : todo = [] → wpListIn F n P ops Q rest (a.put o.dst (.tuple #[.bool false])) w)
    (hMore : ∀ (x : Int) (c : Value) (u v : List (Int × Value)) (w' : World), todo = u ++ (x, c) :: v → RngO w' Lt.encI B r l (u ++ v) → w.grownBy w' (some r) → w'.heap.size = w.heap.size →
      (Instr.entry (.pointer (some ⟨r, 0, none⟩))).run P w' = .ok (.tuple #[encZ x, c]) w' → wpListIn F n P ops Q rest (a.put o.dst (.tuple #[.bool true, encZ x, c])) w') :
    wpListIn F n P ops Q (o :: rest) a w := wpListIn_nextV hgd it hop hit h hDone hMore
section
variable {P : Program} {ρ : Ren}
set_option maxRecDepth 100000 in
set_option maxHeartbeats 1000000 in
/-- maps.Keys' iterator over such a map: each key once -/
theorem keys1_S (L : SlLaysZI.n10 P ρ) (F : Fence) (n : Nat) (h10 : F.fn (ρ.f 10)) (hro : F.round = none) (hn : 1 ≤ n) (l Bm b : Nat) (ml : List (Int × Value)) (J : List Int → World → Prop)
    (hY : ∀ pre x W, J pre W → pre.length < ml.length → YieldAt F (n - 1) P l #[encZ x] W fun e W' => e = .returned (.bool true) ∧ J (pre ++ [x]) W' ∧ KeepsWalks W W')
    (W : World) (hJ : AbidesFrom W.heap.size J) (hm : W.cell? ⟨Bm, 0, none⟩ = some (.map (some b))) (hown : MapS W Lt.encI b ml) (h0 : J [] W) :
    CallsIn F n P (ρ.f 10) #[.func (.yield l) #[] #[], .pointer (some ⟨Bm, 0, none⟩)] W fun e W' => (∃ v, e = .returned v) ∧ ∃ ss : List Int, ss.Perm (ml.map (·.1)) ∧ J ss W' := by
  have mixed := L.mixed; have t0 := L.t0; have a0 := L.a0; have z0 := L.z0; have v0 := L.v0; have t4 := L.t4; have a4 := L.a4; have z4 := L.z4; have v4 := L.v4; have t23 := L.t23; have a23 := L.a23; have z23 := L.z23; have v23 := L.v23; have t26 := L.t26; have a26 := L.a26; have z26 := L.z26; have v26 := L.v26; have t33 := L.t33; have a33 := L.a33; have z33 := L.z33; have v33 := L.v33
  have u0 := run_underlying L.t0; have u4 := run_underlying L.t4; have u23 := run_underlying L.t23; have u26 := run_underlying L.t26; have u33 := run_underlying L.t33
  obtain ⟨_, _, FG⟩ := L.f10
  refine callsIn_of_wp FG rfl h10 ?_ hro
  simp only [SlBodyZ.n10_ntmps ρ, List.size_toArray, List.length_cons, List.length_nil, Nat.reduceAdd, Nat.reduceSub, Array.replicate_succ, Array.replicate_zero, List.push_toArray, List.append_toArray, List.nil_append, List.cons_append]
  gi_wp2_with (first
    | (gi_at_range; refine wpListIn_rangeO L.t23 rfl _ rfl hown rfl ?_; intro w0 hrg0 hb0 hs0)
    | gi_in)
  go_frame
  gi_loopw [3] (fun _ wr => ∃ (todo : List (Int × Value)) (ss : List Int), RngO wr Lt.encI b W.heap.size ml todo ∧ ss.length + todo.length = ml.length ∧ (ss ++ todo.map (·.1)).Perm (ml.map (·.1)) ∧ J ss wr)
    (fun _ wr => wr.rangeLeft b W.heap.size)
  case atStart =>
    exact ⟨ml, [], hrg0, by simp, by simp, hJ [] W w0 none h0 ⟨hb0.os, hb0.tape, hb0.output, hb0.size, fun k hk _ => hb0.block k hk⟩ (fun r e => by cases e)⟩
  case round =>
    obtain ⟨todo, ss, hrg, hcs, hC, hJs⟩ := hrel
    gi_wp2_with (first
      | (gi_at_next; refine wpListIn_nextZ rfl _ rfl rfl hrg ?_ ?_)
      | gi_in)
    · intro hc0
      subst hc0
      gi_wp2
      go_end0
      exact ⟨⟨_, rfl⟩, ss, by simpa using hC, hJs⟩
    · intro x c u v w2 htd hrg2 hg2 hs2 hen
      have hJ2 : J ss w2 := hJ ss wr w2 (some W.heap.size) hJs hg2 (fun r e => by cases e; exact ⟨Nat.le_refl _, hrg.iter_walk⟩)
      have hlt : ss.length < ml.length := by rw [htd] at hcs; simp at hcs; omega
      obtain ⟨fn, tmps, assign, body, hy, hR⟩ := hY ss x w2 hJ2 hlt
      clear hs2
      gi_wp2
      refine hR.mono ?_
      rintro e W3 ⟨rfl, hJ3, hk3⟩
      gi_wp2
      have hrg3 := hrg2.of_walks hk3
      go_roundw
      case rel =>
        refine ⟨u ++ v, ss ++ [x], hrg3, by rw [htd] at hcs; simp at hcs ⊢; omega, ?_, hJ3⟩
        refine List.Perm.trans ?_ hC
        rw [htd, List.append_assoc, List.map_append, List.map_append, List.map_cons]
        exact List.Perm.append_left ss (show List.Perm (x :: (u.map (·.1) ++ v.map (·.1))) (u.map (·.1) ++ x :: v.map (·.1)) from List.perm_middle.symm)
      case measure => rw [hrg3.left_eq, hrg.left_eq, htd]; simp
theorem keys_S (L : SlLaysZI.n10 P ρ) (F : Fence) (n : Nat) (h10 : F.fn (ρ.f 10)) (hro : F.round = none) (hn : 1 ≤ n) (Bm b : Nat) (ml : List (Int × Value)) (w : World) (hBm : Bm < w.heap.size)
    (hm : w.cell? ⟨Bm, 0, none⟩ = some (.map (some b))) (hown : MapS w Lt.encI b ml) :
    SeqGives F n P (ρ.f 10) #[.pointer (some ⟨Bm, 0, none⟩)] encZ (fun ss => ss.Perm (ml.map (·.1))) ml.length w := fun l J W hW hJ hY h0 =>
  keys1_S { L with } F n h10 hro hn l Bm b ml J hY W hJ ((hW.cell (p := ⟨Bm, 0, none⟩) hBm).trans hm) (hown.block (hW.block b hown.lt)) h0
end
end Go.Lt
end
