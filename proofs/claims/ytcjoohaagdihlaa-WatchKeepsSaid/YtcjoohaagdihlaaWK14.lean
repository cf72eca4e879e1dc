/- Texts behind a row, one behind the other: Begin1, Map1. -/
import Derived.Test.YtcjoohaagdihlaaWK13
import Derived.Test.YtcjoohaagdihlaaWK1
import Derived.Maps.Own
section
/- The two closures of (*Store).begin: how late a literal got its value. -/
namespace Go.Proofs.Ytcjoohaagdihlaa.Watch
open Go.RowKit Go.Lt Go.Proofs.Ytcjoohaagdihlaa.Lit Go.Proofs.Ytcjoohaagdihlaa.Sorted Go.Proofs.Ytcjoohaagdihlaa.Learn Go.Instr
set_option linter.unusedVariables false
set_option linter.unusedSimpArgs false

section
variable {base : Nat} {W : World} {p gv gm N : Nat} {lv : Value} {vals : List Int} {mk : List Mk} {ls : List Int}
theorem late_free (h : TrM base W p gv gm N lv vals mk ls) (hN : N ≤ 10000000) {g4 : Nat} (hb : Blk W g4 83 #[.pointer (some ⟨p, 0, none⟩)]) {x v : Int} (hv : litV vals x = v) (h0 : v ≠ 0) :
    Calls Try.prog 144 #[.int .i64 x, .pointer (some ⟨g4, 0, none⟩)] W (CmpIs 1048577 W) := by
  have HV := hide (value_is h hN hv)
  have b0 := hb.cell 0
  have e0 : (v == 0) = false := by simp [h0]
  have e1 : (v != 0) = true := by simp [h0]
  clear h hv hb
  go_enter Try.func144, Try.ntmps144
  go_wp2_with (go_at_call 110; refine HV.out.mono ?_; rintro e w' ⟨rfl, rfl⟩)
  go_ret
  exact ⟨rfl, Below.refl _ _⟩
theorem late_zero (h : TrM base W p gv gm N lv vals mk ls) (hN : N ≤ 10000000) {g4 : Nat} (hb : Blk W g4 83 #[.pointer (some ⟨p, 0, none⟩)]) {x : Int} (hv : litV vals x = 0) {k : Nat} (hx0 : 0 ≤ x) (hk : x / 2 = (k : Int)) {a : Int} {m : Mk} (ha : vals[k]? = some a) (h2 : a ≠ 2) (hm : mk[k]? = some m) :
    Calls Try.prog 144 #[.int .i64 x, .pointer (some ⟨g4, 0, none⟩)] W (CmpIs m.place W) := by
  have HV := hide (value_is h hN hv)
  have HP := hide (trail_Place h hN ha h2 hm)
  have hkl := (List.getElem?_eq_some_iff.1 ha).1
  have hkN : k ≤ 10000000 := by rw [h.vl] at hkl; omega
  have hqt : x.tdiv 2 = (k : Int) := by rw [Int.tdiv_eq_ediv_of_nonneg hx0, hk]
  have hkw : IntKind.i64.wrap (k : Int) = (k : Int) := IntWalk.i64_in _ (by omega)
  have b0 := hb.cell 0
  clear h hv hb ha hm h2
  go_enter Try.func144, Try.ntmps144
  go_wp2_with (go_at_call 110; refine HV.out.mono ?_; rintro e w' ⟨rfl, rfl⟩)
  refine HP.out.mono ?_
  rintro e w2 ⟨rfl, hb2⟩
  replace hb2 := hide hb2
  go_wp2
  go_ret
  exact ⟨rfl, hb2.out⟩
end
set_option maxRecDepth 8000 in
theorem begin2_is {W : World} {g8 : Nat} {cb1 : Value} {x y Lx Ly : Int} (hb : Blk W g8 53 #[.func (.func 144) #[] #[cb1]])
    (hx : ∀ W', Below W.heap.size W W' → Calls Try.prog 144 #[.int .i64 x, cb1] W' (CmpIs Lx W'))
    (hy : ∀ W', Below W.heap.size W W' → Calls Try.prog 144 #[.int .i64 y, cb1] W' (CmpIs Ly W')) (hL : -100000000 ≤ Ly - Lx ∧ Ly - Lx ≤ 100000000) :
    Calls Try.prog 147 #[.int .i64 x, .int .i64 y, .pointer (some ⟨g8, 0, none⟩)] W (CmpIs (Ly - Lx) W) := by
  have b0 : W.cell? ⟨g8, 0, none⟩ = some (.func (.func 144) #[] #[cb1]) := hb.cell 0
  have hlt := hb.lt
  have hdw : IntKind.i64.wrap (Ly - Lx) = Ly - Lx := IntWalk.i64_in _ (by omega)
  obtain ⟨d, hd⟩ : ∃ d, Ly - Lx = d := ⟨_, rfl⟩
  rw [hd] at hdw ⊢
  replace hx := hide hx
  replace hy := hide hy
  clear hL hb
  go_enter Try.func147, Try.ntmps147
  go_wp2
  refine wp_region_slots [6, 7, 8, 9, 10, 11, 12, 5] (fun D g wz => g 0 = .int .i64 x ∧ g 1 = .int .i64 y ∧ g 2 = .pointer (some ⟨g8, 0, none⟩) ∧ Below W.heap.size W wz ∧ (D 0 → g 6 = .func (.func 144) #[] #[cb1]) ∧ (D 1 → g 7 = .int .i64 y) ∧ (D 2 → g 8 = .int .i64 Ly) ∧ (D 3 → g 9 = .func (.func 144) #[] #[cb1]) ∧ (D 4 → g 10 = .int .i64 x) ∧ (D 5 → g 11 = .int .i64 Lx) ∧ (D 6 → g 12 = .int .i64 d) ∧ (D 7 → g 5 = .int .i64 d)) (by kernel_rfl) (by kernel_rfl) 13 rfl (by kernel_rfl) ?h0 ?hstep ?hdone
  case h0 => exact ⟨rfl, rfl, rfl, (Dr.refl W).drew.below _, nt0, nt0, nt0, nt0, nt0, nt0, nt0, nt0⟩
  case hstep =>
    intro D g wz i hi' hn hd' hI2
    obtain ⟨r0, r1, r2, hbz, f0, f1, f2, f3, f4, f5, f6, f7⟩ := hI2
    have hi' : i < 8 := hi'
    rcases (show i = 0 ∨ i = 1 ∨ i = 2 ∨ i = 3 ∨ i = 4 ∨ i = 5 ∨ i = 6 ∨ i = 7 by omega) with rfl | rfl | rfl | rfl | rfl | rfl | rfl | rfl
    · -- 0
      refine slot_step rfl rfl (fun az hs K hK => ?_)
      have hK : Shut _ := hK
      have cz := (hbz.cell (p := ⟨g8, 0, none⟩) hlt).trans b0
      have e2 := hs.get 2
      rw [r2] at e2
      go_simp
      exact hK.out _ _ ⟨r0, r1, r2, hbz, fun _ => rfl, kp f1, kp f2, kp f3, kp f4, kp f5, kp f6, kp f7⟩
    · -- 1
      refine slot_step rfl rfl (fun az hs K hK => ?_)
      have hK : Shut _ := hK
      have e1 := hs.get 1
      rw [r1] at e1
      go_simp
      exact hK.out _ _ ⟨r0, r1, r2, hbz, kp f0, fun _ => rfl, kp f2, kp f3, kp f4, kp f5, kp f6, kp f7⟩
    · -- 2
      have d0 := f0 (hd' 0 (by kernel_rfl))
      have d1 := f1 (hd' 1 (by kernel_rfl))
      refine slot_step rfl rfl (fun az hs K hK => ?_)
      have hK : Shut _ := hK
      have e6 := hs.get 6
      rw [d0] at e6
      have e7 := hs.get 7
      rw [d1] at e7
      go_wp2_with (go_at_call 144; refine (hy.out wz hbz).mono ?_; rintro e wy ⟨rfl, hbw⟩)
      exact ⟨r0, r1, r2, hbz.trans (hbw.mono hbz.size), kp f0, kp f1, fun _ => rfl, kp f3, kp f4, kp f5, kp f6, kp f7⟩
    · -- 3
      refine slot_step rfl rfl (fun az hs K hK => ?_)
      have hK : Shut _ := hK
      have cz := (hbz.cell (p := ⟨g8, 0, none⟩) hlt).trans b0
      have e2 := hs.get 2
      rw [r2] at e2
      go_simp
      exact hK.out _ _ ⟨r0, r1, r2, hbz, kp f0, kp f1, kp f2, fun _ => rfl, kp f4, kp f5, kp f6, kp f7⟩
    · -- 4
      refine slot_step rfl rfl (fun az hs K hK => ?_)
      have hK : Shut _ := hK
      have e0 := hs.get 0
      rw [r0] at e0
      go_simp
      exact hK.out _ _ ⟨r0, r1, r2, hbz, kp f0, kp f1, kp f2, kp f3, fun _ => rfl, kp f5, kp f6, kp f7⟩
    · -- 5
      have d3 := f3 (hd' 3 (by kernel_rfl))
      have d4 := f4 (hd' 4 (by kernel_rfl))
      refine slot_step rfl rfl (fun az hs K hK => ?_)
      have hK : Shut _ := hK
      have e9 := hs.get 9
      rw [d3] at e9
      have e10 := hs.get 10
      rw [d4] at e10
      go_wp2_with (go_at_call 144; refine (hx.out wz hbz).mono ?_; rintro e wy ⟨rfl, hbw⟩)
      exact ⟨r0, r1, r2, hbz.trans (hbw.mono hbz.size), kp f0, kp f1, kp f2, kp f3, kp f4, fun _ => rfl, kp f6, kp f7⟩
    · -- 6
      have d2 := f2 (hd' 2 (by kernel_rfl))
      have d5 := f5 (hd' 5 (by kernel_rfl))
      refine slot_step rfl rfl (fun az hs K hK => ?_)
      have hK : Shut _ := hK
      have e8 := hs.get 8
      rw [d2] at e8
      have e11 := hs.get 11
      rw [d5] at e11
      go_simp
      exact hK.out _ _ ⟨r0, r1, r2, hbz, kp f0, kp f1, kp f2, kp f3, kp f4, kp f5, fun _ => rfl, kp f7⟩
    · -- 7
      have d6 := f6 (hd' 6 (by kernel_rfl))
      refine slot_step rfl rfl (fun az hs K hK => ?_)
      have hK : Shut _ := hK
      have e12 := hs.get 12
      rw [d6] at e12
      go_simp
      exact hK.out _ _ ⟨r0, r1, r2, hbz, kp f0, kp f1, kp f2, kp f3, kp f4, kp f5, kp f6, fun _ => rfl⟩
  case hdone =>
    rintro D g wz hD ⟨r0, r1, r2, hbz, f0, f1, f2, f3, f4, f5, f6, f7⟩
    simp only [setAll, List.foldl_cons, List.foldl_nil, List.setIfInBounds_toArray, List.set_cons_succ, List.set_cons_zero]
    have e5 := f7 (hD 7)
    rw [e5]
    clear f0 f1 f2 f3 f4 f5 f6 f7 hD r0 r1 r2
    replace hbz := hide hbz
    go_wp2
    go_ret
    exact ⟨rfl, hbz.out⟩
end Go.Proofs.Ytcjoohaagdihlaa.Watch
end

section
/- Maps of a call's own, as lists of keys and values. No program in sight. -/
namespace Go.Lt
open Go.RowKit Go.Instr Go.ChangeMaps
set_option linter.unusedVariables false
set_option linter.unusedSimpArgs false
set_option linter.unusedSectionVars false

section
variable {κ : Type} [DecidableEq κ]
def mget : List (κ × Value) → κ → Option Value
  | [], _ => none
  | (k, u) :: r, x => if k = x then some u else mget r x
def mput : List (κ × Value) → κ → Value → List (κ × Value)
  | [], x, v => [(x, v)]
  | (k, u) :: r, x, v => if k = x then (k, v) :: r else (k, u) :: mput r x v
def mfind : List (κ × Value) → κ → Nat → Option (Nat × Value)
  | [], _, _ => none
  | (k, u) :: r, x, i => if k = x then some (i, u) else mfind r x (i + 1)
theorem mget_mput (l : List (κ × Value)) (x y : κ) (v : Value) : mget (mput l x v) y = if x = y then some v else mget l y := by
  induction l with
  | nil => rfl
  | cons p l ih =>
    obtain ⟨k, u⟩ := p
    unfold mput
    by_cases h : k = x
    · rw [if_pos h]
      subst h
      unfold mget
      by_cases h2 : k = y <;> simp [h2]
    · rw [if_neg h]
      unfold mget
      rw [ih]
      by_cases h2 : k = y
      · subst h2
        rw [if_pos rfl, if_pos rfl, if_neg (fun e => h e.symm)]
      · rw [if_neg h2, if_neg h2]
theorem mfind_get (l : List (κ × Value)) (x : κ) (i : Nat) : (mfind l x i).map (·.2) = mget l x := by
  induction l generalizing i with
  | nil => rfl
  | cons p l ih =>
    obtain ⟨k, u⟩ := p
    unfold mfind mget
    by_cases h : k = x
    · simp [h]
    · rw [if_neg h, if_neg h]; exact ih _
theorem mfind_none {l : List (κ × Value)} {x : κ} {i : Nat} (h : mfind l x i = none) (v : Value) : mput l x v = l ++ [(x, v)] := by
  induction l generalizing i with
  | nil => rfl
  | cons p l ih =>
    obtain ⟨k, u⟩ := p
    unfold mfind at h
    unfold mput
    by_cases h2 : k = x
    · simp [h2] at h
    · rw [if_neg h2] at h ⊢
      rw [ih h]; rfl
theorem mfind_some {l : List (κ × Value)} {x : κ} {i j : Nat} {u : Value} (h : mfind l x i = some (j, u)) (v : Value) : ∃ k, j = i + k ∧ l[k]? = some (x, u) ∧ mput l x v = l.set k (x, v) := by
  induction l generalizing i with
  | nil => cases h
  | cons p l ih =>
    obtain ⟨k, u'⟩ := p
    unfold mfind at h
    unfold mput
    by_cases h2 : k = x
    · subst h2
      rw [if_pos rfl] at h ⊢
      have h := Option.some.inj h
      obtain ⟨rfl, rfl⟩ := Prod.mk.inj h
      exact ⟨0, rfl, rfl, rfl⟩
    · rw [if_neg h2] at h ⊢
      obtain ⟨m, h3, h4, h5⟩ := ih h
      exact ⟨m + 1, by omega, by simpa using h4, by rw [h5]; rfl⟩

/-- what must be known of a map's keys -/
structure KeyLaw (P : Program) (K : TypeId) (enc : κ → Value) : Prop where
  check : ∀ (b : Bool) (a : κ) (w : World), (checkKey b 10000 K (enc a)).run P w = .ok () w
  find : ∀ (a : κ) (es : List MapEntry) (l : List (κ × Value)) (w : World), es.map (fun e => (e.key, e.val)) = l.map (fun p => (enc p.1, p.2)) → (findKey K (enc a) es).run P w = .ok (mfind l a 0) w
  same : ∀ a : κ, sameBits 10000 (enc a) (enc a) = true

/-- the map of block B holds just this -/
def MapO (w : World) (enc : κ → Value) (B : Nat) (l : List (κ × Value)) : Prop :=
  ∃ es c, w.heap[B]? = some (.map es c) ∧ es.toList.map (fun e => (e.key, e.val)) = l.map (fun p => (enc p.1, p.2))
variable {enc : κ → Value} {w w' : World} {B : Nat} {l : List (κ × Value)}
theorem MapO.lt (h : MapO w enc B l) : B < w.heap.size := by
  obtain ⟨es, c, h, _⟩ := h
  exact (Array.getElem?_eq_some_iff.1 h).1
theorem MapO.block (h : MapO w enc B l) (hb : w'.heap[B]? = w.heap[B]?) : MapO w' enc B l := by
  obtain ⟨es, c, h1, h2⟩ := h
  exact ⟨es, c, hb.trans h1, h2⟩
theorem MapO.below {N : Nat} (h : MapO w enc B l) (hb : Below N w w') (hB : B < N) : MapO w' enc B l := h.block (hb.block B hB)
theorem MapO.alloc (h : MapO w enc B l) (o : Obj) : MapO (w.alloc o) enc B l := h.block (Below.heap_alloc w o B h.lt)
theorem MapO.grown {row : Option Nat} (h : MapO w enc B l) (hb : w.grownBy w' row) (hg : some B ≠ row) : MapO w' enc B l := h.block (hb.block B h.lt hg)
theorem MapO.setCell (h : MapO w enc B l) {p : Addr} (hp : B ≠ p.block) (u : Value) : MapO (w.setCell p u) enc B l := h.block (Below.heap_setCell w p u B hp)
theorem MapO.dr (h : MapO w enc B l) (hd : Dr w w') : MapO w' enc B l := by obtain ⟨m, rfl⟩ := hd; exact h
/-- a row of cells is no map -/
theorem MapO.own_ne {base : Nat} {e : TypeId} {size n : Nat} {v : Value} {xs : List Value} (h : MapO w enc B l) (ho : w.ownsRow base e size v n xs) : some B ≠ v.ownBlock := by
  rcases ho.2 with ⟨rfl, _⟩ | ⟨g', cap, cur, rfl, _, hh, _⟩
  · simp [Value.ownBlock]
  · intro he
    have : B = g' := by simpa [Value.ownBlock] using he
    subst this
    obtain ⟨es, c, h1, _⟩ := h
    rw [hh] at h1
    cases h1
theorem MapO.made (w : World) (enc : κ → Value) : MapO (w.alloc (.map #[] 0)) enc w.heap.size ([] : List (κ × Value)) :=
  ⟨#[], 0, heap_alloc_new w _, rfl⟩

variable {P : Program} {t K E : TypeId} {z : Value}
theorem run_lookupO (L : KeyLaw P K enc) (ht : P.underlying t = some (.map K E)) (hz : ∀ w : World, (zeroValue E).run P w = .ok z w) (h : MapO w enc B l) (x : κ) :
    (Instr.lookup t (.map (some B)) (enc x) false).run P w = .ok ((mget l x).getD z) w := by
  obtain ⟨es, c, h1, h2⟩ := h
  have hf := L.find x es.toList l w h2
  have hc := fun b => L.check b x w
  have hg := mfind_get l x 0
  cases hm : mfind l x 0 with
  | none =>
    rw [hm] at hf hg
    rw [← hg]
    simp [Instr.lookup, run_underlying ht, MapKept.run_getObj_map h1, hc, hf, hz, Result.andThen]
  | some r =>
    obtain ⟨i, u⟩ := r
    rw [hm] at hf hg
    rw [← hg]
    simp [Instr.lookup, run_underlying ht, MapKept.run_getObj_map h1, hc, hf, hz, Result.andThen]
theorem run_updateO (L : KeyLaw P K enc) (ht : P.underlying t = some (.map K E)) (h : MapO w enc B l) (x : κ) (v : Value) :
    ∃ w', (Instr.mapUpdate t (.map (some B)) (enc x) v).run P w = .ok () w' ∧ MapO w' enc B (mput l x v) ∧ w.grownBy w' (some B) := by
  obtain ⟨es, c, h1, h2⟩ := h
  have hf := L.find x es.toList l w h2
  have hc := fun b => L.check b x w
  have hfr : ∀ o', w.grownBy (setBlock w B o') (some B) := fun o' => ⟨rfl, rfl, rfl, by simp [setBlock], fun i _ hi => heap_setBlock_other h1 _ (fun e => hi (by rw [e]))⟩
  cases hm : mfind l x 0 with
  | none =>
    rw [hm] at hf
    refine ⟨setBlock w B (.map (es.push ⟨enc x, v, c⟩) (c + 1)), ?_, ⟨_, _, heap_setBlock_same h1 _, ?_⟩, hfr _⟩
    · simp [Instr.mapUpdate, run_underlying ht, MapKept.run_getObj_map h1, hc, hf, MapKept.run_setObj_map _ h1, Result.andThen, setBlock]
    · rw [mfind_none hm, Array.toList_push, List.map_append, List.map_append, h2]; rfl
  | some r =>
    obtain ⟨i, u⟩ := r
    rw [hm] at hf
    obtain ⟨k, hik, hk, hput⟩ := mfind_some hm v
    have hik : i = k := by omega
    subst hik
    have hlen : es.toList.length = l.length := by have := congrArg List.length h2; simpa using this
    have hil : i < l.length := (List.getElem?_eq_some_iff.1 hk).1
    have hie : i < es.size := by rw [← Array.length_toList]; omega
    have hkey : (es[i]'hie).key = enc x := by
      have h3 : (es.toList.map (fun e => (e.key, e.val)))[i]? = (l.map (fun p => (enc p.1, p.2)))[i]? := by rw [h2]
      rw [List.getElem?_map, List.getElem?_map, hk, Array.getElem?_toList, Array.getElem?_eq_getElem hie] at h3
      exact congrArg Prod.fst (Option.some.inj h3)
    refine ⟨setBlock w B (.map (es.modify i fun e => { e with key := enc x, val := v }) c), ?_, ⟨_, _, heap_setBlock_same h1 _, ?_⟩, hfr _⟩
    · simp [Instr.mapUpdate, run_underlying ht, MapKept.run_getObj_map h1, hc, hf, MapKept.run_setObj_map _ h1, Result.andThen, setBlock, keyThatStays, hie, hkey, L.same]
    · rw [hput, List.map_set, ← h2]
      apply List.ext_getElem?
      intro j
      rw [List.getElem?_map, Array.getElem?_toList, Array.getElem?_modify, List.getElem?_set, List.getElem?_map, Array.getElem?_toList]
      by_cases hj : i = j
      · subst hj
        simp [hie]
      · simp [hj]

theorem wpList_lookupO {ops : Array Oper} {rest : List Oper} {o : Oper} {a : Act} {Q : Exit → Act → World → Prop} (L : KeyLaw P K enc) (ht : P.underlying t = some (.map K E)) (hz : ∀ w : World, (zeroValue E).run P w = .ok z w) (hgd : o.guard = none) (m k : Operand)
    (hop : o.op = Op.lookup t m k false) (h : MapO w enc B l) (x : κ) (hm : a.eval m = .map (some B)) (hx : a.eval k = enc x)
    (hK : wpList P ops Q rest (a.put o.dst ((mget l x).getD z)) w) : wpList P ops Q (o :: rest) a w := by
  refine wpList_plain hgd fun K' hK' => ?_
  have hrun := run_lookupO L ht hz h x
  unfold Oper.wp
  simp [execOp, hop, hm, hx, hrun, Result.andThen]
  exact hK' _ _ hK
theorem wpList_updateO {ops : Array Oper} {rest : List Oper} {o : Oper} {a : Act} {Q : Exit → Act → World → Prop} (L : KeyLaw P K enc) (ht : P.underlying t = some (.map K E)) (hgd : o.guard = none) (m k v : Operand)
    (hop : o.op = Op.mapUpdate t m k v) (h : MapO w enc B l) (x : κ) (u : Value) (hm : a.eval m = .map (some B)) (hx : a.eval k = enc x) (hv : a.eval v = u)
    (hK : ∀ w', MapO w' enc B (mput l x u) → w.grownBy w' (some B) → wpList P ops Q rest (a.put o.dst undef) w') : wpList P ops Q (o :: rest) a w := by
  refine wpList_plain hgd fun K' hK' => ?_
  obtain ⟨w', hrun, r1, r2⟩ := run_updateO L ht h x u
  unfold Oper.wp
  simp [execOp, hop, hm, hx, hv, hrun, Result.andThen]
  exact hK' _ _ (hK w' r1 r2)
end

/-- keys that are integers -/
def encI (x : Int) : Value := .int .i64 x
theorem findNow_int (x : Int) : ∀ (es : List MapEntry) (l : List (Int × Value)) (i : Nat), es.map (fun e => (e.key, e.val)) = l.map (fun p => (encI p.1, p.2)) →
    findNow (.int .i64) (encI x) es i = some (mfind l x i) := by
  intro es
  induction es with
  | nil =>
    intro l i h
    cases l with
    | nil => rfl
    | cons p l => cases h
  | cons e es ih =>
    intro l i h
    cases l with
    | nil => cases h
    | cons p l =>
      obtain ⟨k, u⟩ := p
      rw [List.map_cons, List.map_cons] at h
      injection h with h1 h2
      have hk : e.key = encI k := congrArg Prod.fst h1
      have hv : e.val = u := congrArg Prod.snd h1
      unfold findNow mfind
      rw [hk]
      have hs : sameNow (.int .i64) (encI x) (encI k) = some (x == k) := by simp [sameNow, encI]
      rw [hs]
      by_cases hxk : k = x
      · subst hxk
        simp [hv]
      · have : (x == k) = false := by rw [beq_eq_false_iff_ne]; exact fun e => hxk e.symm
        rw [this, if_neg hxk]
        exact ih l (i + 1) h2
theorem check_int {P : Program} {K : TypeId} (hK : P.underlying K = some (.int .i64)) (b : Bool) (n : Nat) (x : Int) (w : World) : (checkKey b (n + 1) K (encI x)).run P w = .ok () w := by
  unfold checkKey
  simp [run_underlying hK, encI]
theorem keyLaw_int {P : Program} {K : TypeId} (hK : P.underlying K = some (.int .i64)) : KeyLaw P K encI where
  check b a w := check_int hK b 9999 a w
  find a es l w h := by
    simp [findKey, run_underlying hK, findNow_int a es l 0 h]
  same a := by simp [sameBits, encI]
end Go.Lt
end
