/- Texts behind a row, one behind the other: Begin1, Map1, Map2. -/
import Derived.Test.YtcjoohaagdihlaaWS12
import Derived.Test.YtcjoohaagdihlaaWS1
import Derived.Maps.Own
import Derived.Maps.RangeWalk
section
/- The two closures of (*Store).begin: how late a literal got its value. -/
namespace Go.Proofs.Ytcjoohaagdihlaa.Watch
open Go.RowKit Go.Lt Go.Proofs.Ytcjoohaagdihlaa.Lit Go.Proofs.Ytcjoohaagdihlaa.Sorted Go.Proofs.Ytcjoohaagdihlaa.Learn Go.Instr
set_option linter.unusedVariables false
set_option linter.unusedSimpArgs false

section
variable {base : Nat} {W : World} {p gv gm N : Nat} {lv : Value} {vals : List Int} {mk : List Mk} {ls : List Int}
theorem late_free (h : TrM base W p gv gm N lv vals mk ls) (hN : N ≤ 10000000) {g4 : Nat} (hb : Blk W g4 83 #[.pointer (some ⟨p, 0, none⟩)]) {x v : Int} (hv : litV vals x = v) (h0 : v ≠ 0) :
    Calls Try.prog 144 #[.int .i64 x, .pointer (some ⟨g4, 0, none⟩)] W (CmpIs 1048577 W) := by
  have HV := hide (value_is h hN hv)
  have b0 := hb.cell 0
  have e0 : (v == 0) = false := by simp [h0]
  have e1 : (v != 0) = true := by simp [h0]
  clear h hv hb
  go_enter Try.func144, Try.ntmps144
  go_wp2_with (go_at_call 110; refine HV.out.mono ?_; rintro e w' ⟨rfl, rfl⟩)
  go_ret
  exact ⟨rfl, Below.refl _ _⟩
theorem late_zero (h : TrM base W p gv gm N lv vals mk ls) (hN : N ≤ 10000000) {g4 : Nat} (hb : Blk W g4 83 #[.pointer (some ⟨p, 0, none⟩)]) {x : Int} (hv : litV vals x = 0) {k : Nat} (hx0 : 0 ≤ x) (hk : x / 2 = (k : Int)) {a : Int} {m : Mk} (ha : vals[k]? = some a) (h2 : a ≠ 2) (hm : mk[k]? = some m) :
    Calls Try.prog 144 #[.int .i64 x, .pointer (some ⟨g4, 0, none⟩)] W (CmpIs m.place W) := by
  have HV := hide (value_is h hN hv)
  have HP := hide (trail_Place h hN ha h2 hm)
  have hkl := (List.getElem?_eq_some_iff.1 ha).1
  have hkN : k ≤ 10000000 := by rw [h.vl] at hkl; omega
  have hqt : x.tdiv 2 = (k : Int) := by rw [Int.tdiv_eq_ediv_of_nonneg hx0, hk]
  have hkw : IntKind.i64.wrap (k : Int) = (k : Int) := IntWalk.i64_in _ (by omega)
  have b0 := hb.cell 0
  clear h hv hb ha hm h2
  go_enter Try.func144, Try.ntmps144
  go_wp2_with (go_at_call 110; refine HV.out.mono ?_; rintro e w' ⟨rfl, rfl⟩)
  refine HP.out.mono ?_
  rintro e w2 ⟨rfl, hb2⟩
  replace hb2 := hide hb2
  go_wp2
  go_ret
  exact ⟨rfl, hb2.out⟩
end
set_option maxRecDepth 8000 in
theorem begin2_is {W : World} {g8 : Nat} {cb1 : Value} {x y Lx Ly : Int} (hb : Blk W g8 53 #[.func (.func 144) #[] #[cb1]])
    (hx : ∀ W', Below W.heap.size W W' → Calls Try.prog 144 #[.int .i64 x, cb1] W' (CmpIs Lx W'))
    (hy : ∀ W', Below W.heap.size W W' → Calls Try.prog 144 #[.int .i64 y, cb1] W' (CmpIs Ly W')) (hL : -100000000 ≤ Ly - Lx ∧ Ly - Lx ≤ 100000000) :
    Calls Try.prog 147 #[.int .i64 x, .int .i64 y, .pointer (some ⟨g8, 0, none⟩)] W (CmpIs (Ly - Lx) W) := by
  have b0 : W.cell? ⟨g8, 0, none⟩ = some (.func (.func 144) #[] #[cb1]) := hb.cell 0
  have hlt := hb.lt
  have hdw : IntKind.i64.wrap (Ly - Lx) = Ly - Lx := IntWalk.i64_in _ (by omega)
  obtain ⟨d, hd⟩ : ∃ d, Ly - Lx = d := ⟨_, rfl⟩
  rw [hd] at hdw ⊢
  replace hx := hide hx
  replace hy := hide hy
  clear hL hb
  go_enter Try.func147, Try.ntmps147
  go_wp2
  refine wp_region_slots [6, 7, 8, 9, 10, 11, 12, 5] (fun D g wz => g 0 = .int .i64 x ∧ g 1 = .int .i64 y ∧ g 2 = .pointer (some ⟨g8, 0, none⟩) ∧ Below W.heap.size W wz ∧ (D 0 → g 6 = .func (.func 144) #[] #[cb1]) ∧ (D 1 → g 7 = .int .i64 y) ∧ (D 2 → g 8 = .int .i64 Ly) ∧ (D 3 → g 9 = .func (.func 144) #[] #[cb1]) ∧ (D 4 → g 10 = .int .i64 x) ∧ (D 5 → g 11 = .int .i64 Lx) ∧ (D 6 → g 12 = .int .i64 d) ∧ (D 7 → g 5 = .int .i64 d)) (by kernel_rfl) (by kernel_rfl) 13 rfl (by kernel_rfl) ?h0 ?hstep ?hdone
  case h0 => exact ⟨rfl, rfl, rfl, (Dr.refl W).drew.below _, nt0, nt0, nt0, nt0, nt0, nt0, nt0, nt0⟩
  case hstep =>
    intro D g wz i hi' hn hd' hI2
    obtain ⟨r0, r1, r2, hbz, f0, f1, f2, f3, f4, f5, f6, f7⟩ := hI2
    have hi' : i < 8 := hi'
    rcases (show i = 0 ∨ i = 1 ∨ i = 2 ∨ i = 3 ∨ i = 4 ∨ i = 5 ∨ i = 6 ∨ i = 7 by omega) with rfl | rfl | rfl | rfl | rfl | rfl | rfl | rfl
    · -- 0
      refine slot_step rfl rfl (fun az hs K hK => ?_)
      have hK : Shut _ := hK
      have cz := (hbz.cell (p := ⟨g8, 0, none⟩) hlt).trans b0
      have e2 := hs.get 2
      rw [r2] at e2
      go_simp
      exact hK.out _ _ ⟨r0, r1, r2, hbz, fun _ => rfl, kp f1, kp f2, kp f3, kp f4, kp f5, kp f6, kp f7⟩
    · -- 1
      refine slot_step rfl rfl (fun az hs K hK => ?_)
      have hK : Shut _ := hK
      have e1 := hs.get 1
      rw [r1] at e1
      go_simp
      exact hK.out _ _ ⟨r0, r1, r2, hbz, kp f0, fun _ => rfl, kp f2, kp f3, kp f4, kp f5, kp f6, kp f7⟩
    · -- 2
      have d0 := f0 (hd' 0 (by kernel_rfl))
      have d1 := f1 (hd' 1 (by kernel_rfl))
      refine slot_step rfl rfl (fun az hs K hK => ?_)
      have hK : Shut _ := hK
      have e6 := hs.get 6
      rw [d0] at e6
      have e7 := hs.get 7
      rw [d1] at e7
      go_wp2_with (go_at_call 144; refine (hy.out wz hbz).mono ?_; rintro e wy ⟨rfl, hbw⟩)
      exact ⟨r0, r1, r2, hbz.trans (hbw.mono hbz.size), kp f0, kp f1, fun _ => rfl, kp f3, kp f4, kp f5, kp f6, kp f7⟩
    · -- 3
      refine slot_step rfl rfl (fun az hs K hK => ?_)
      have hK : Shut _ := hK
      have cz := (hbz.cell (p := ⟨g8, 0, none⟩) hlt).trans b0
      have e2 := hs.get 2
      rw [r2] at e2
      go_simp
      exact hK.out _ _ ⟨r0, r1, r2, hbz, kp f0, kp f1, kp f2, fun _ => rfl, kp f4, kp f5, kp f6, kp f7⟩
    · -- 4
      refine slot_step rfl rfl (fun az hs K hK => ?_)
      have hK : Shut _ := hK
      have e0 := hs.get 0
      rw [r0] at e0
      go_simp
      exact hK.out _ _ ⟨r0, r1, r2, hbz, kp f0, kp f1, kp f2, kp f3, fun _ => rfl, kp f5, kp f6, kp f7⟩
    · -- 5
      have d3 := f3 (hd' 3 (by kernel_rfl))
      have d4 := f4 (hd' 4 (by kernel_rfl))
      refine slot_step rfl rfl (fun az hs K hK => ?_)
      have hK : Shut _ := hK
      have e9 := hs.get 9
      rw [d3] at e9
      have e10 := hs.get 10
      rw [d4] at e10
      go_wp2_with (go_at_call 144; refine (hx.out wz hbz).mono ?_; rintro e wy ⟨rfl, hbw⟩)
      exact ⟨r0, r1, r2, hbz.trans (hbw.mono hbz.size), kp f0, kp f1, kp f2, kp f3, kp f4, fun _ => rfl, kp f6, kp f7⟩
    · -- 6
      have d2 := f2 (hd' 2 (by kernel_rfl))
      have d5 := f5 (hd' 5 (by kernel_rfl))
      refine slot_step rfl rfl (fun az hs K hK => ?_)
      have hK : Shut _ := hK
      have e8 := hs.get 8
      rw [d2] at e8
      have e11 := hs.get 11
      rw [d5] at e11
      go_simp
      exact hK.out _ _ ⟨r0, r1, r2, hbz, kp f0, kp f1, kp f2, kp f3, kp f4, kp f5, fun _ => rfl, kp f7⟩
    · -- 7
      have d6 := f6 (hd' 6 (by kernel_rfl))
      refine slot_step rfl rfl (fun az hs K hK => ?_)
      have hK : Shut _ := hK
      have e12 := hs.get 12
      rw [d6] at e12
      go_simp
      exact hK.out _ _ ⟨r0, r1, r2, hbz, kp f0, kp f1, kp f2, kp f3, kp f4, kp f5, kp f6, fun _ => rfl⟩
  case hdone =>
    rintro D g wz hD ⟨r0, r1, r2, hbz, f0, f1, f2, f3, f4, f5, f6, f7⟩
    simp only [setAll, List.foldl_cons, List.foldl_nil, List.setIfInBounds_toArray, List.set_cons_succ, List.set_cons_zero]
    have e5 := f7 (hD 7)
    rw [e5]
    clear f0 f1 f2 f3 f4 f5 f6 f7 hD r0 r1 r2
    replace hbz := hide hbz
    go_wp2
    go_ret
    exact ⟨rfl, hbz.out⟩
end Go.Proofs.Ytcjoohaagdihlaa.Watch
end

section
/- Maps of a call's own, as lists of keys and values. No program in sight. -/
namespace Go.Lt
open Go.RowKit Go.Instr Go.ChangeMaps
set_option linter.unusedVariables false
set_option linter.unusedSimpArgs false
set_option linter.unusedSectionVars false

section
variable {κ : Type} [DecidableEq κ]
def mget : List (κ × Value) → κ → Option Value
  | [], _ => none
  | (k, u) :: r, x => if k = x then some u else mget r x
def mput : List (κ × Value) → κ → Value → List (κ × Value)
  | [], x, v => [(x, v)]
  | (k, u) :: r, x, v => if k = x then (k, v) :: r else (k, u) :: mput r x v
def mfind : List (κ × Value) → κ → Nat → Option (Nat × Value)
  | [], _, _ => none
  | (k, u) :: r, x, i => if k = x then some (i, u) else mfind r x (i + 1)
theorem mget_mput (l : List (κ × Value)) (x y : κ) (v : Value) : mget (mput l x v) y = if x = y then some v else mget l y := by
  induction l with
  | nil => rfl
  | cons p l ih =>
    obtain ⟨k, u⟩ := p
    unfold mput
    by_cases h : k = x
    · rw [if_pos h]
      subst h
      unfold mget
      by_cases h2 : k = y <;> simp [h2]
    · rw [if_neg h]
      unfold mget
      rw [ih]
      by_cases h2 : k = y
      · subst h2
        rw [if_pos rfl, if_pos rfl, if_neg (fun e => h e.symm)]
      · rw [if_neg h2, if_neg h2]
theorem mfind_get (l : List (κ × Value)) (x : κ) (i : Nat) : (mfind l x i).map (·.2) = mget l x := by
  induction l generalizing i with
  | nil => rfl
  | cons p l ih =>
    obtain ⟨k, u⟩ := p
    unfold mfind mget
    by_cases h : k = x
    · simp [h]
    · rw [if_neg h, if_neg h]; exact ih _
theorem mfind_none {l : List (κ × Value)} {x : κ} {i : Nat} (h : mfind l x i = none) (v : Value) : mput l x v = l ++ [(x, v)] := by
  induction l generalizing i with
  | nil => rfl
  | cons p l ih =>
    obtain ⟨k, u⟩ := p
    unfold mfind at h
    unfold mput
    by_cases h2 : k = x
    · simp [h2] at h
    · rw [if_neg h2] at h ⊢
      rw [ih h]; rfl
theorem mfind_some {l : List (κ × Value)} {x : κ} {i j : Nat} {u : Value} (h : mfind l x i = some (j, u)) (v : Value) : ∃ k, j = i + k ∧ l[k]? = some (x, u) ∧ mput l x v = l.set k (x, v) := by
  induction l generalizing i with
  | nil => cases h
  | cons p l ih =>
    obtain ⟨k, u'⟩ := p
    unfold mfind at h
    unfold mput
    by_cases h2 : k = x
    · subst h2
      rw [if_pos rfl] at h ⊢
      have h := Option.some.inj h
      obtain ⟨rfl, rfl⟩ := Prod.mk.inj h
      exact ⟨0, rfl, rfl, rfl⟩
    · rw [if_neg h2] at h ⊢
      obtain ⟨m, h3, h4, h5⟩ := ih h
      exact ⟨m + 1, by omega, by simpa using h4, by rw [h5]; rfl⟩

/-- what must be known of a map's keys -/
structure KeyLaw (P : Program) (K : TypeId) (enc : κ → Value) : Prop where
  check : ∀ (b : Bool) (a : κ) (w : World), (checkKey b 10000 K (enc a)).run P w = .ok () w
  find : ∀ (a : κ) (es : List MapEntry) (l : List (κ × Value)) (w : World), es.map (fun e => (e.key, e.val)) = l.map (fun p => (enc p.1, p.2)) → (findKey K (enc a) es).run P w = .ok (mfind l a 0) w
  same : ∀ a : κ, sameBits 10000 (enc a) (enc a) = true

/-- the map of block B holds just this -/
def MapO (w : World) (enc : κ → Value) (B : Nat) (l : List (κ × Value)) : Prop :=
  ∃ es c, w.heap[B]? = some (.map es c) ∧ es.toList.map (fun e => (e.key, e.val)) = l.map (fun p => (enc p.1, p.2))
variable {enc : κ → Value} {w w' : World} {B : Nat} {l : List (κ × Value)}
theorem MapO.lt (h : MapO w enc B l) : B < w.heap.size := by
  obtain ⟨es, c, h, _⟩ := h
  exact (Array.getElem?_eq_some_iff.1 h).1
theorem MapO.block (h : MapO w enc B l) (hb : w'.heap[B]? = w.heap[B]?) : MapO w' enc B l := by
  obtain ⟨es, c, h1, h2⟩ := h
  exact ⟨es, c, hb.trans h1, h2⟩
theorem MapO.below {N : Nat} (h : MapO w enc B l) (hb : Below N w w') (hB : B < N) : MapO w' enc B l := h.block (hb.block B hB)
theorem MapO.alloc (h : MapO w enc B l) (o : Obj) : MapO (w.alloc o) enc B l := h.block (Below.heap_alloc w o B h.lt)
theorem MapO.grown {row : Option Nat} (h : MapO w enc B l) (hb : w.grownBy w' row) (hg : some B ≠ row) : MapO w' enc B l := h.block (hb.block B h.lt hg)
theorem MapO.setCell (h : MapO w enc B l) {p : Addr} (hp : B ≠ p.block) (u : Value) : MapO (w.setCell p u) enc B l := h.block (Below.heap_setCell w p u B hp)
theorem MapO.dr (h : MapO w enc B l) (hd : Dr w w') : MapO w' enc B l := by obtain ⟨m, rfl⟩ := hd; exact h
/-- a row of cells is no map -/
theorem MapO.own_ne {base : Nat} {e : TypeId} {size n : Nat} {v : Value} {xs : List Value} (h : MapO w enc B l) (ho : w.ownsRow base e size v n xs) : some B ≠ v.ownBlock := by
  rcases ho.2 with ⟨rfl, _⟩ | ⟨g', cap, cur, rfl, _, hh, _⟩
  · simp [Value.ownBlock]
  · intro he
    have : B = g' := by simpa [Value.ownBlock] using he
    subst this
    obtain ⟨es, c, h1, _⟩ := h
    rw [hh] at h1
    cases h1
theorem MapO.made (w : World) (enc : κ → Value) : MapO (w.alloc (.map #[] 0)) enc w.heap.size ([] : List (κ × Value)) :=
  ⟨#[], 0, heap_alloc_new w _, rfl⟩

variable {P : Program} {t K E : TypeId} {z : Value}
theorem run_lookupO (L : KeyLaw P K enc) (ht : P.underlying t = some (.map K E)) (hz : ∀ w : World, (zeroValue E).run P w = .ok z w) (h : MapO w enc B l) (x : κ) :
    (Instr.lookup t (.map (some B)) (enc x) false).run P w = .ok ((mget l x).getD z) w := by
  obtain ⟨es, c, h1, h2⟩ := h
  have hf := L.find x es.toList l w h2
  have hc := fun b => L.check b x w
  have hg := mfind_get l x 0
  cases hm : mfind l x 0 with
  | none =>
    rw [hm] at hf hg
    rw [← hg]
    simp [Instr.lookup, run_underlying ht, MapKept.run_getObj_map h1, hc, hf, hz, Result.andThen]
  | some r =>
    obtain ⟨i, u⟩ := r
    rw [hm] at hf hg
    rw [← hg]
    simp [Instr.lookup, run_underlying ht, MapKept.run_getObj_map h1, hc, hf, hz, Result.andThen]
theorem run_updateO (L : KeyLaw P K enc) (ht : P.underlying t = some (.map K E)) (h : MapO w enc B l) (x : κ) (v : Value) :
    ∃ w', (Instr.mapUpdate t (.map (some B)) (enc x) v).run P w = .ok () w' ∧ MapO w' enc B (mput l x v) ∧ w.grownBy w' (some B) := by
  obtain ⟨es, c, h1, h2⟩ := h
  have hf := L.find x es.toList l w h2
  have hc := fun b => L.check b x w
  have hfr : ∀ o', w.grownBy (setBlock w B o') (some B) := fun o' => ⟨rfl, rfl, rfl, by simp [setBlock], fun i _ hi => heap_setBlock_other h1 _ (fun e => hi (by rw [e]))⟩
  cases hm : mfind l x 0 with
  | none =>
    rw [hm] at hf
    refine ⟨setBlock w B (.map (es.push ⟨enc x, v, c⟩) (c + 1)), ?_, ⟨_, _, heap_setBlock_same h1 _, ?_⟩, hfr _⟩
    · simp [Instr.mapUpdate, run_underlying ht, MapKept.run_getObj_map h1, hc, hf, MapKept.run_setObj_map _ h1, Result.andThen, setBlock]
    · rw [mfind_none hm, Array.toList_push, List.map_append, List.map_append, h2]; rfl
  | some r =>
    obtain ⟨i, u⟩ := r
    rw [hm] at hf
    obtain ⟨k, hik, hk, hput⟩ := mfind_some hm v
    have hik : i = k := by omega
    subst hik
    have hlen : es.toList.length = l.length := by have := congrArg List.length h2; simpa using this
    have hil : i < l.length := (List.getElem?_eq_some_iff.1 hk).1
    have hie : i < es.size := by rw [← Array.length_toList]; omega
    have hkey : (es[i]'hie).key = enc x := by
      have h3 : (es.toList.map (fun e => (e.key, e.val)))[i]? = (l.map (fun p => (enc p.1, p.2)))[i]? := by rw [h2]
      rw [List.getElem?_map, List.getElem?_map, hk, Array.getElem?_toList, Array.getElem?_eq_getElem hie] at h3
      exact congrArg Prod.fst (Option.some.inj h3)
    refine ⟨setBlock w B (.map (es.modify i fun e => { e with key := enc x, val := v }) c), ?_, ⟨_, _, heap_setBlock_same h1 _, ?_⟩, hfr _⟩
    · simp [Instr.mapUpdate, run_underlying ht, MapKept.run_getObj_map h1, hc, hf, MapKept.run_setObj_map _ h1, Result.andThen, setBlock, keyThatStays, hie, hkey, L.same]
    · rw [hput, List.map_set, ← h2]
      apply List.ext_getElem?
      intro j
      rw [List.getElem?_map, Array.getElem?_toList, Array.getElem?_modify, List.getElem?_set, List.getElem?_map, Array.getElem?_toList]
      by_cases hj : i = j
      · subst hj
        simp [hie]
      · simp [hj]

theorem wpList_lookupO {ops : Array Oper} {rest : List Oper} {o : Oper} {a : Act} {Q : Exit → Act → World → Prop} (L : KeyLaw P K enc) (ht : P.underlying t = some (.map K E)) (hz : ∀ w : World, (zeroValue E).run P w = .ok z w) (hgd : o.guard = none) (m k : Operand)
    (hop : o.op = Op.lookup t m k false) (h : MapO w enc B l) (x : κ) (hm : a.eval m = .map (some B)) (hx : a.eval k = enc x)
    (hK : wpList P ops Q rest (a.put o.dst ((mget l x).getD z)) w) : wpList P ops Q (o :: rest) a w := by
  refine wpList_plain hgd fun K' hK' => ?_
  have hrun := run_lookupO L ht hz h x
  unfold Oper.wp
  simp [execOp, hop, hm, hx, hrun, Result.andThen]
  exact hK' _ _ hK
theorem wpList_updateO {ops : Array Oper} {rest : List Oper} {o : Oper} {a : Act} {Q : Exit → Act → World → Prop} (L : KeyLaw P K enc) (ht : P.underlying t = some (.map K E)) (hgd : o.guard = none) (m k v : Operand)
    (hop : o.op = Op.mapUpdate t m k v) (h : MapO w enc B l) (x : κ) (u : Value) (hm : a.eval m = .map (some B)) (hx : a.eval k = enc x) (hv : a.eval v = u)
    (hK : ∀ w', MapO w' enc B (mput l x u) → w.grownBy w' (some B) → wpList P ops Q rest (a.put o.dst undef) w') : wpList P ops Q (o :: rest) a w := by
  refine wpList_plain hgd fun K' hK' => ?_
  obtain ⟨w', hrun, r1, r2⟩ := run_updateO L ht h x u
  unfold Oper.wp
  simp [execOp, hop, hm, hx, hv, hrun, Result.andThen]
  exact hK' _ _ (hK w' r1 r2)
end

/-- keys that are integers -/
def encI (x : Int) : Value := .int .i64 x
theorem findNow_int (x : Int) : ∀ (es : List MapEntry) (l : List (Int × Value)) (i : Nat), es.map (fun e => (e.key, e.val)) = l.map (fun p => (encI p.1, p.2)) →
    findNow (.int .i64) (encI x) es i = some (mfind l x i) := by
  intro es
  induction es with
  | nil =>
    intro l i h
    cases l with
    | nil => rfl
    | cons p l => cases h
  | cons e es ih =>
    intro l i h
    cases l with
    | nil => cases h
    | cons p l =>
      obtain ⟨k, u⟩ := p
      rw [List.map_cons, List.map_cons] at h
      injection h with h1 h2
      have hk : e.key = encI k := congrArg Prod.fst h1
      have hv : e.val = u := congrArg Prod.snd h1
      unfold findNow mfind
      rw [hk]
      have hs : sameNow (.int .i64) (encI x) (encI k) = some (x == k) := by simp [sameNow, encI]
      rw [hs]
      by_cases hxk : k = x
      · subst hxk
        simp [hv]
      · have : (x == k) = false := by rw [beq_eq_false_iff_ne]; exact fun e => hxk e.symm
        rw [this, if_neg hxk]
        exact ih l (i + 1) h2
theorem check_int {P : Program} {K : TypeId} (hK : P.underlying K = some (.int .i64)) (b : Bool) (n : Nat) (x : Int) (w : World) : (checkKey b (n + 1) K (encI x)).run P w = .ok () w := by
  unfold checkKey
  simp [run_underlying hK, encI]
theorem keyLaw_int {P : Program} {K : TypeId} (hK : P.underlying K = some (.int .i64)) : KeyLaw P K encI where
  check b a w := check_int hK b 9999 a w
  find a es l w h := by
    simp [findKey, run_underlying hK, findNow_int a es l 0 h]
  same a := by simp [sameBits, encI]
end Go.Lt
end

section
/- Maps with their stamps: that are gone through, and of which a key is struck. No program in sight. -/
namespace Go.Lt
open Go.RowKit Go.Instr Go.ChangeMaps
set_option linter.unusedVariables false
set_option linter.unusedSimpArgs false
set_option linter.unusedSectionVars false

theorem filter_one {α β : Type} [DecidableEq β] (f : α → β) : ∀ (L : List α) (i : Nat) (e : α), (L.map f).Nodup → L[i]? = some e → L.filter (fun x => !decide (f x = f e)) = L.eraseIdx i
  | [], _, _, _, h => by simp at h
  | x :: L, 0, e, hn, h => by
    have h : x = e := by simpa using h
    subst h
    rw [List.map_cons, List.nodup_cons] at hn
    rw [List.filter_cons, List.eraseIdx_cons_zero]
    simp only [decide_true, Bool.not_true, Bool.false_eq_true, if_false]
    rw [List.filter_eq_self]
    intro y hy
    have : f y ≠ f x := fun h1 => hn.1 (h1 ▸ List.mem_map.2 ⟨y, hy, rfl⟩)
    simp [this]
  | x :: L, i + 1, e, hn, h => by
    rw [List.map_cons, List.nodup_cons] at hn
    have h : L[i]? = some e := by simpa using h
    have hne : f x ≠ f e := fun h1 => hn.1 (h1 ▸ List.mem_map.2 ⟨e, List.mem_of_getElem? h, rfl⟩)
    rw [List.filter_cons, List.eraseIdx_cons_succ]
    simp only [hne, decide_false, Bool.not_false, if_true]
    rw [filter_one f L i e hn.2 h]
section
variable {κ : Type} [DecidableEq κ]
def mdel (l : List (κ × Value)) (x : κ) : List (κ × Value) := l.filter fun p => !decide (p.1 = x)
theorem mget_mem {l : List (κ × Value)} {x : κ} {v : Value} (h : mget l x = some v) : (x, v) ∈ l := by
  induction l with
  | nil => cases h
  | cons p l ih =>
    obtain ⟨k, u⟩ := p
    unfold mget at h
    by_cases h2 : k = x
    · rw [if_pos h2] at h; injection h with h; subst h h2; exact List.mem_cons_self
    · rw [if_neg h2] at h; exact List.mem_cons_of_mem _ (ih h)
theorem mem_mget {l : List (κ × Value)} {x : κ} {v : Value} (hn : (l.map (·.1)).Nodup) (h : (x, v) ∈ l) : mget l x = some v := by
  induction l with
  | nil => cases h
  | cons p l ih =>
    obtain ⟨k, u⟩ := p
    rw [List.map_cons, List.nodup_cons] at hn
    unfold mget
    rcases List.mem_cons.1 h with h | h
    · injection h with h1 h2; subst h1 h2; rw [if_pos rfl]
    · have hx : x ∈ l.map (·.1) := List.mem_map.2 ⟨_, h, rfl⟩
      rw [if_neg (fun e => hn.1 (by rw [e]; exact hx))]
      exact ih hn.2 h
theorem mfind_no {l : List (κ × Value)} {x : κ} {i : Nat} (h : mfind l x i = none) : x ∉ l.map (·.1) := by
  induction l generalizing i with
  | nil => simp
  | cons p l ih =>
    obtain ⟨k, u⟩ := p
    unfold mfind at h
    by_cases h2 : k = x
    · rw [if_pos h2] at h; cases h
    · rw [if_neg h2] at h
      rw [List.map_cons, List.mem_cons]
      rintro (h3 | h3)
      · exact h2 h3.symm
      · exact ih h h3
theorem mput_nodup {l : List (κ × Value)} (hn : (l.map (·.1)).Nodup) (x : κ) (v : Value) : ((mput l x v).map (·.1)).Nodup := by
  cases hm : mfind l x 0 with
  | none =>
    rw [mfind_none hm, List.map_append, List.nodup_append]
    refine ⟨hn, by simp, ?_⟩
    intro a ha b hb
    have hb : b = x := by simpa using hb
    subst hb
    exact fun e => mfind_no hm (e ▸ ha)
  | some r =>
    obtain ⟨i, u⟩ := r
    obtain ⟨k, hik, hk, hput⟩ := mfind_some hm v
    rw [hput, List.map_set]
    have : (l.map (·.1)).set k x = l.map (·.1) := by
      apply List.ext_getElem?
      intro j
      rw [List.getElem?_set]
      by_cases hj : k = j
      · subst hj
        have hl : k < l.length := (List.getElem?_eq_some_iff.1 hk).1
        rw [if_pos rfl, if_pos (by simpa using hl), List.getElem?_map, hk]; rfl
      · rw [if_neg hj]
    show ((l.map (·.1)).set k x).Nodup
    rw [this]; exact hn
theorem mdel_no {l : List (κ × Value)} {x : κ} (h : x ∉ l.map (·.1)) : mdel l x = l := by
  unfold mdel
  rw [List.filter_eq_self]
  intro p hp
  have : p.1 ≠ x := fun e => h (e ▸ List.mem_map.2 ⟨p, hp, rfl⟩)
  simp [this]
theorem mget_mdel (l : List (κ × Value)) (x y : κ) : mget (mdel l x) y = if x = y then none else mget l y := by
  induction l with
  | nil => simp [mdel, mget]
  | cons p l ih =>
    obtain ⟨k, u⟩ := p
    unfold mdel at ih ⊢
    rw [List.filter_cons]
    by_cases h : k = x
    · subst h
      simp only [decide_true, Bool.not_true, Bool.false_eq_true, if_false]
      rw [ih]
      rw [show mget ((k, u) :: l) y = if k = y then some u else mget l y from rfl]
      by_cases h2 : k = y <;> simp [h2]
    · simp only [h, decide_false, Bool.not_false, if_true]
      rw [show mget ((k, u) :: l) y = if k = y then some u else mget l y from rfl, show ∀ r, mget ((k, u) :: r) y = if k = y then some u else mget r y from fun _ => rfl]
      rw [ih]
      by_cases h2 : k = y
      · subst h2
        rw [if_pos rfl, if_pos rfl, if_neg (fun e => h e.symm)]
      · rw [if_neg h2, if_neg h2]
theorem mdel_nodup {l : List (κ × Value)} (hn : (l.map (·.1)).Nodup) (x : κ) : ((mdel l x).map (·.1)).Nodup := hn.sublist (List.filter_sublist.map _)

/-- the map of block B holds just this, and may be gone through -/
def MapS (w : World) (enc : κ → Value) (B : Nat) (l : List (κ × Value)) : Prop :=
  ∃ es c, w.heap[B]? = some (.map es c) ∧ es.toList.map (fun e => (e.key, e.val)) = l.map (fun p => (enc p.1, p.2)) ∧ (es.toList.map (·.born)).Nodup ∧ (∀ x ∈ es.toList, x.born < c) ∧ (l.map (·.1)).Nodup
variable {enc : κ → Value} {w w' : World} {B r : Nat} {l todo : List (κ × Value)}
theorem MapS.toO (h : MapS w enc B l) : MapO w enc B l := by
  obtain ⟨es, c, h1, h2, _⟩ := h
  exact ⟨es, c, h1, h2⟩
theorem MapS.lt (h : MapS w enc B l) : B < w.heap.size := h.toO.lt
theorem MapS.keys (h : MapS w enc B l) : (l.map (·.1)).Nodup := by obtain ⟨_, _, _, _, _, _, h⟩ := h; exact h
theorem MapS.block (h : MapS w enc B l) (hb : w'.heap[B]? = w.heap[B]?) : MapS w' enc B l := by
  obtain ⟨es, c, h1, h2⟩ := h
  exact ⟨es, c, hb.trans h1, h2⟩
theorem MapS.below {N : Nat} (h : MapS w enc B l) (hb : Below N w w') (hB : B < N) : MapS w' enc B l := h.block (hb.block B hB)
theorem MapS.alloc (h : MapS w enc B l) (o : Obj) : MapS (w.alloc o) enc B l := h.block (Below.heap_alloc w o B h.lt)
theorem MapS.grown {row : Option Nat} (h : MapS w enc B l) (hb : w.grownBy w' row) (hg : some B ≠ row) : MapS w' enc B l := h.block (hb.block B h.lt hg)
theorem MapS.setCell (h : MapS w enc B l) {p : Addr} (hp : B ≠ p.block) (u : Value) : MapS (w.setCell p u) enc B l := h.block (Below.heap_setCell w p u B hp)
theorem MapS.dr (h : MapS w enc B l) (hd : Dr w w') : MapS w' enc B l := by obtain ⟨m, rfl⟩ := hd; exact h
theorem MapS.own_ne {base : Nat} {e : TypeId} {size n : Nat} {v : Value} {xs : List Value} (h : MapS w enc B l) (ho : w.ownsRow base e size v n xs) : some B ≠ v.ownBlock := h.toO.own_ne ho
theorem MapS.made (w : World) (enc : κ → Value) : MapS (w.alloc (.map #[] 0)) enc w.heap.size ([] : List (κ × Value)) :=
  ⟨#[], 0, heap_alloc_new w _, rfl, by simp, by simp, by simp⟩

variable {P : Program} {t K E : TypeId} {z : Value}
theorem run_updateS (L : KeyLaw P K enc) (ht : P.underlying t = some (.map K E)) (h : MapS w enc B l) (x : κ) (v : Value) :
    ∃ w', (Instr.mapUpdate t (.map (some B)) (enc x) v).run P w = .ok () w' ∧ MapS w' enc B (mput l x v) ∧ w.grownBy w' (some B) ∧ w'.heap.size = w.heap.size := by
  obtain ⟨es, c, h1, h2, hn, hc0, hk0⟩ := h
  have hf := L.find x es.toList l w h2
  have hc := fun b => L.check b x w
  have hfr : ∀ o', w.grownBy (setBlock w B o') (some B) := fun o' => ⟨rfl, rfl, rfl, by simp [setBlock], fun i _ hi => heap_setBlock_other h1 _ (fun e => hi (by rw [e]))⟩
  cases hm : mfind l x 0 with
  | none =>
    rw [hm] at hf
    refine ⟨setBlock w B (.map (es.push ⟨enc x, v, c⟩) (c + 1)), ?_, ⟨_, _, heap_setBlock_same h1 _, ?_, ?_, ?_, mput_nodup hk0 x v⟩, hfr _, by simp [setBlock]⟩
    · simp [Instr.mapUpdate, run_underlying ht, MapKept.run_getObj_map h1, hc, hf, MapKept.run_setObj_map _ h1, Result.andThen, setBlock]
    · rw [mfind_none hm, Array.toList_push, List.map_append, List.map_append, h2]; rfl
    · rw [Array.toList_push, List.map_append, List.nodup_append]
      refine ⟨hn, by simp, ?_⟩
      intro a ha b hb
      obtain ⟨y, hy, rfl⟩ := List.mem_map.1 ha
      have hb : b = c := by simpa using hb
      have := hc0 y hy
      omega
    · intro y hy
      rw [Array.toList_push, List.mem_append] at hy
      rcases hy with hy | hy
      · have := hc0 y hy; omega
      · have hy : y = ⟨enc x, v, c⟩ := by simpa using hy
        rw [hy]; show c < c + 1; omega
  | some r =>
    obtain ⟨i, u⟩ := r
    rw [hm] at hf
    obtain ⟨k, hik, hk, hput⟩ := mfind_some hm v
    have hik : i = k := by omega
    subst hik
    have hlen : es.toList.length = l.length := by have := congrArg List.length h2; simpa using this
    have hil : i < l.length := (List.getElem?_eq_some_iff.1 hk).1
    have hie : i < es.size := by rw [← Array.length_toList]; omega
    have hkey : (es[i]'hie).key = enc x := by
      have h3 : (es.toList.map (fun e => (e.key, e.val)))[i]? = (l.map (fun p => (enc p.1, p.2)))[i]? := by rw [h2]
      rw [List.getElem?_map, List.getElem?_map, hk, Array.getElem?_toList, Array.getElem?_eq_getElem hie] at h3
      exact congrArg Prod.fst (Option.some.inj h3)
    have hborn : (es.modify i fun e => { e with key := enc x, val := v }).toList.map (·.born) = es.toList.map (·.born) := by
      apply List.ext_getElem?
      intro j
      rw [List.getElem?_map, Array.getElem?_toList, Array.getElem?_modify, List.getElem?_map, Array.getElem?_toList]
      by_cases hj : i = j
      · subst hj
        simp [hie]
      · simp [hj]
    refine ⟨setBlock w B (.map (es.modify i fun e => { e with key := enc x, val := v }) c), ?_, ⟨_, _, heap_setBlock_same h1 _, ?_, by rw [hborn]; exact hn, ?_, mput_nodup hk0 x v⟩, hfr _, by simp [setBlock]⟩
    · simp [Instr.mapUpdate, run_underlying ht, MapKept.run_getObj_map h1, hc, hf, MapKept.run_setObj_map _ h1, Result.andThen, setBlock, keyThatStays, hie, hkey, L.same]
    · rw [hput, List.map_set, ← h2]
      apply List.ext_getElem?
      intro j
      rw [List.getElem?_map, Array.getElem?_toList, Array.getElem?_modify, List.getElem?_set, List.getElem?_map, Array.getElem?_toList]
      by_cases hj : i = j
      · subst hj
        simp [hie]
      · simp [hj]
    · intro y hy
      have hy2 : y.born ∈ es.toList.map (·.born) := by rw [← hborn]; exact List.mem_map.2 ⟨y, hy, rfl⟩
      obtain ⟨y', hy', e⟩ := List.mem_map.1 hy2
      rw [← e]; exact hc0 y' hy'
theorem run_deleteS (L : KeyLaw P K enc) (ht : P.underlying t = some (.map K E)) (h : MapS w enc B l) (x : κ) (ty : TypeId) :
    ∃ w', (Builtin.delete_ #[t, K] ty #[.map (some B), enc x]).run P w = .ok (.tuple #[]) w' ∧ MapS w' enc B (mdel l x) ∧ w.grownBy w' (some B) ∧ w'.heap.size = w.heap.size := by
  obtain ⟨es, c, h1, h2, hn, hc0, hk0⟩ := h
  have hf := L.find x es.toList l w h2
  have hc := fun b => L.check b x w
  have hfr : ∀ o', w.grownBy (setBlock w B o') (some B) := fun o' => ⟨rfl, rfl, rfl, by simp [setBlock], fun i _ hi => heap_setBlock_other h1 _ (fun e => hi (by rw [e]))⟩
  cases hm : mfind l x 0 with
  | none =>
    rw [hm] at hf
    refine ⟨setBlock w B (.map es c), ?_, ⟨es, c, heap_setBlock_same h1 _, by rw [mdel_no (mfind_no hm)]; exact h2, hn, hc0, by rw [mdel_no (mfind_no hm)]; exact hk0⟩, hfr _, by simp [setBlock]⟩
    simp [Builtin.delete_, run_underlying ht, MapKept.run_getObj_map h1, hc, hf, MapKept.run_setObj_map _ h1, Result.andThen, setBlock]
  | some q =>
    obtain ⟨i, u⟩ := q
    rw [hm] at hf
    obtain ⟨k, hik, hk, _⟩ := mfind_some hm u
    have hik : i = k := by omega
    subst hik
    have hlen : es.toList.length = l.length := by have := congrArg List.length h2; simpa using this
    have hil : i < l.length := (List.getElem?_eq_some_iff.1 hk).1
    have hie : i < es.size := by rw [← Array.length_toList]; omega
    have hsub : (es.eraseIdxIfInBounds i).toList = es.toList.eraseIdx i := by
      unfold Array.eraseIdxIfInBounds
      rw [dif_pos hie]
      simp
    have hd : mdel l x = l.eraseIdx i := filter_one Prod.fst l i (x, u) hk0 hk
    refine ⟨setBlock w B (.map (es.eraseIdxIfInBounds i) c), ?_, ⟨_, _, heap_setBlock_same h1 _, ?_, ?_, ?_, mdel_nodup hk0 x⟩, hfr _, by simp [setBlock]⟩
    · simp [Builtin.delete_, run_underlying ht, MapKept.run_getObj_map h1, hc, hf, MapKept.run_setObj_map _ h1, Result.andThen, setBlock]
    · rw [hsub, hd, map_eraseIdx, map_eraseIdx, h2]
    · rw [hsub]; exact hn.sublist ((List.eraseIdx_sublist _ _).map _)
    · intro y hy
      rw [hsub] at hy
      exact hc0 y ((List.eraseIdx_sublist _ _).subset hy)
theorem run_lenS (ht : P.underlying t = some (.map K E)) (h : MapO w enc B l) (ty : TypeId) : (Builtin.len_ #[t] ty #[.map (some B)]).run P w = .ok (.int .i64 l.length) w := by
  obtain ⟨es, c, h1, h2⟩ := h
  have hlen : es.size = l.length := by have := congrArg List.length h2; simpa using this
  simp [Builtin.len_, run_underlying ht, MapKept.run_getObj_map h1, goInt, Result.andThen, hlen]

/-- the map of block B is gone through by the iterator of block r: these are still to come -/
def RngO (w : World) (enc : κ → Value) (B r : Nat) (l todo : List (κ × Value)) : Prop :=
  ∃ es c since seen c0, w.heap[B]? = some (.map es c) ∧ es.toList.map (fun e => (e.key, e.val)) = l.map (fun p => (enc p.1, p.2)) ∧ (es.toList.map (·.born)).Nodup ∧ (∀ x ∈ es.toList, x.born < c) ∧ (l.map (·.1)).Nodup ∧
    w.heap[r]? = some (.mapIter (some B) since seen c0) ∧ (∀ x ∈ es.toList, x.born < since) ∧ since ≤ c0 ∧ since ≤ c ∧ (leftOf es seen).toList.map (fun e => (e.key, e.val)) = todo.map (fun p => (enc p.1, p.2))
theorem RngO.mapS (h : RngO w enc B r l todo) : MapS w enc B l := by
  obtain ⟨es, c, since, seen, c0, h1, h2, h3, h4, h5, _⟩ := h
  exact ⟨es, c, h1, h2, h3, h4, h5⟩
theorem RngO.ltr (h : RngO w enc B r l todo) : r < w.heap.size := by
  obtain ⟨es, c, since, seen, c0, h1, h2, h3, h4, h5, h6, _⟩ := h
  exact (Array.getElem?_eq_some_iff.1 h6).1
theorem RngO.ne (h : RngO w enc B r l todo) : r ≠ B := by
  obtain ⟨es, c, since, seen, c0, h1, h2, h3, h4, h5, h6, _⟩ := h
  intro e
  rw [e, h1] at h6
  cases h6
theorem RngO.left_eq (h : RngO w enc B r l todo) : w.rangeLeft B r = todo.length := by
  obtain ⟨es, c, since, seen, c0, h1, h2, h3, h4, h5, h6, _, _, _, h7⟩ := h
  simp only [World.rangeLeft, h1, h6]
  have := congrArg List.length h7
  simpa using this
theorem RngO.blocks (h : RngO w enc B r l todo) (hb : w'.heap[B]? = w.heap[B]?) (hr : w'.heap[r]? = w.heap[r]?) : RngO w' enc B r l todo := by
  obtain ⟨es, c, since, seen, c0, h1, h2, h3, h4, h5, h6, h7⟩ := h
  exact ⟨es, c, since, seen, c0, hb.trans h1, h2, h3, h4, h5, hr.trans h6, h7⟩
theorem RngO.below {N : Nat} (h : RngO w enc B r l todo) (hb : Below N w w') (hB : B < N) (hr : r < N) : RngO w' enc B r l todo := h.blocks (hb.block B hB) (hb.block r hr)
theorem RngO.grown {row : Option Nat} (h : RngO w enc B r l todo) (hb : w.grownBy w' row) (hB : some B ≠ row) (hr : some r ≠ row) : RngO w' enc B r l todo := h.blocks (hb.block B h.mapS.lt hB) (hb.block r h.ltr hr)
theorem RngO.alloc (h : RngO w enc B r l todo) (o : Obj) : RngO (w.alloc o) enc B r l todo := h.blocks (Below.heap_alloc w o B h.mapS.lt) (Below.heap_alloc w o r h.ltr)
theorem RngO.setCell (h : RngO w enc B r l todo) {p : Addr} (hp : B ≠ p.block) (hp2 : r ≠ p.block) (u : Value) : RngO (w.setCell p u) enc B r l todo := h.blocks (Below.heap_setCell w p u B hp) (Below.heap_setCell w p u r hp2)
theorem run_rangeO (ht : P.underlying t = some (.map K E)) (h : MapS w enc B l) :
    ∃ w', (Instr.range t (.map (some B))).run P w = .ok (.pointer (some ⟨w.heap.size, 0, none⟩)) w' ∧ RngO w' enc B w.heap.size l l ∧ Below w.heap.size w w' ∧ w'.heap.size = w.heap.size + 1 := by
  have hlt := h.lt
  obtain ⟨es, c, h1, h2, hn, hc0, hk0⟩ := h
  refine ⟨_, run_range_map w t K E B es c ht h1, ⟨es, c, c, #[], c, (Below.heap_alloc w _ B hlt).trans h1, h2, hn, hc0, hk0, heap_alloc_new w _, hc0, Nat.le_refl _, Nat.le_refl _, ?_⟩, (Below.refl _ _).alloc (Nat.le_refl _) _, by simp⟩
  rw [← h2]
  unfold leftOf
  rw [Array.toList_filter, List.filter_eq_self.2 (fun x _ => by simp)]
theorem run_nextO (h : RngO w enc B r l todo) (ty : TypeId) :
    (todo = [] ∧ (Instr.next (.pointer (some ⟨r, 0, none⟩)) false ty).run P w = .ok (.tuple #[.bool false]) w) ∨
    ∃ a p b w', todo = a ++ p :: b ∧ (Instr.next (.pointer (some ⟨r, 0, none⟩)) false ty).run P w = .ok (.tuple #[.bool true, enc p.1, p.2]) w' ∧ RngO w' enc B r l (a ++ b) ∧ w.grownBy w' (some r) ∧ w'.heap.size = w.heap.size ∧
      (Instr.entry (.pointer (some ⟨r, 0, none⟩))).run P w' = .ok (.tuple #[enc p.1, p.2]) w' := by
  have hne := h.ne
  obtain ⟨es, c, since, seen, c0, h1, h2, hn, hc0, hk0, hr, hold, hsc, hsk, hleft⟩ := h
  rcases run_next_at (P := P) w ty r B since c0 seen es c hr h1 hold hsc with ⟨h0, hrun⟩ | ⟨e, he, w1, hal, hrun⟩
  · refine .inl ⟨?_, hrun⟩
    have hl := congrArg List.length hleft
    rw [List.length_map, List.length_map, Array.length_toList, h0] at hl
    exact List.eq_nil_of_length_eq_zero hl.symm
  · right
    obtain ⟨hem, hes⟩ := mem_left he
    have hr1 : w1.heap[r]? = some (.mapIter (some B) since seen c0) := by rcases hal with rfl | rfl <;> exact hr
    have hb1 : w1.heap[B]? = some (.map es c) := by rcases hal with rfl | rfl <;> exact h1
    have hset := MapKept.heap_set (o' := .mapIter (some B) since (seen.push e.born) c) hr1
    have hb' : (setBlock w1 r (.mapIter (some B) since (seen.push e.born) c)).heap[B]? = some (.map es c) := (hset.2 B (fun e1 => hne e1.symm)).trans hb1
    obtain ⟨L, hL⟩ : ∃ L, (leftOf es seen).toList = L := ⟨_, rfl⟩
    rw [hL] at he hleft
    have hLn : (L.map (·.born)).Nodup := by
      rw [← hL]; unfold leftOf; rw [Array.toList_filter]
      exact hn.sublist (List.filter_sublist.map _)
    obtain ⟨i, hi, hie⟩ := List.getElem_of_mem he
    have hLi : L[i]? = some e := by rw [List.getElem?_eq_getElem hi, hie]
    have hti : i < todo.length := by have := congrArg List.length hleft; simp at this; omega
    have hkv : (e.key, e.val) = (enc (todo[i]).1, (todo[i]).2) := by
      have h3 : (L.map (fun e => (e.key, e.val)))[i]? = (todo.map (fun p => (enc p.1, p.2)))[i]? := by rw [hleft]
      rw [List.getElem?_map, List.getElem?_map, hLi, List.getElem?_eq_getElem hti] at h3
      exact Option.some.inj h3
    have hk1 : e.key = enc (todo[i]).1 := congrArg Prod.fst hkv
    have hk2 : e.val = (todo[i]).2 := congrArg Prod.snd hkv
    have hL' : (leftOf es (seen.push e.born)).toList = L.eraseIdx i := by
      rw [← filter_one MapEntry.born L i e hLn hLi, ← hL]
      unfold leftOf
      rw [Array.toList_filter, Array.toList_filter, List.filter_filter]
      apply List.filter_congr
      intro x _
      rw [contains_push]
      cases seen.contains x.born <;> by_cases hxe : x.born = e.born <;> simp [hxe]
    refine ⟨todo.take i, todo[i], todo.drop (i + 1), _, ?_, by rw [← hk1, ← hk2]; exact hrun, ⟨es, c, since, seen.push e.born, c, hb', h2, hn, hc0, hk0, hset.1, hold, hsk, hsk, ?_⟩, ?_, ?_, ?_⟩
    · rw [List.getElem_cons_drop, List.take_append_drop]
    · rw [hL', map_eraseIdx, hleft, ← map_eraseIdx, List.eraseIdx_eq_take_drop_succ]
    · rcases hal with rfl | rfl <;> exact ⟨rfl, rfl, rfl, by simp [setBlock], fun i _ hi => hset.2 i (fun e1 => hi (by rw [e1]))⟩
    · rcases hal with rfl | rfl <;> simp [setBlock]
    · rw [← hk1, ← hk2]
      exact run_entry_at _ r B since seen es c e hset.1 hb' hem hn

section
variable {ops : Array Oper} {rest : List Oper} {o : Oper} {a : Act} {Q : Exit → Act → World → Prop}
theorem wpList_updateS (L : KeyLaw P K enc) (ht : P.underlying t = some (.map K E)) (hgd : o.guard = none) (m k v : Operand)
    (hop : o.op = Op.mapUpdate t m k v) (h : MapS w enc B l) (x : κ) (u : Value) (hm : a.eval m = .map (some B)) (hx : a.eval k = enc x) (hv : a.eval v = u)
    (hK : ∀ w', MapS w' enc B (mput l x u) → w.grownBy w' (some B) → w'.heap.size = w.heap.size → wpList P ops Q rest (a.put o.dst undef) w') : wpList P ops Q (o :: rest) a w := by
  refine wpList_plain hgd fun K' hK' => ?_
  obtain ⟨w', hrun, r1, r2, r3⟩ := run_updateS L ht h x u
  unfold Oper.wp
  simp [execOp, hop, hm, hx, hv, hrun, Result.andThen]
  exact hK' _ _ (hK w' r1 r2 r3)
theorem wpList_deleteS (L : KeyLaw P K enc) (ht : P.underlying t = some (.map K E)) (hgd : o.guard = none) (m k : Operand)
    (hop : o.op = Op.call { callee := Callee.builtin Builtin.delete, args := #[m, k], argTypes := #[t, K] }) (h : MapS w enc B l) (x : κ) (hm : a.eval m = .map (some B)) (hx : a.eval k = enc x)
    (hK : ∀ w', MapS w' enc B (mdel l x) → w.grownBy w' (some B) → w'.heap.size = w.heap.size → wpList P ops Q rest (a.put o.dst (.tuple #[])) w') : wpList P ops Q (o :: rest) a w := by
  refine wpList_plain hgd fun K' hK' => ?_
  obtain ⟨w', hrun, r1, r2, r3⟩ := run_deleteS L ht h x o.type
  unfold Oper.wp
  simp [execOp, hop, resolve, invoke, builtin, hm, hx, hrun, Result.andThen]
  exact hK' _ _ (hK w' r1 r2 r3)
theorem wpList_lenO (ht : P.underlying t = some (.map K E)) (hgd : o.guard = none) (m : Operand)
    (hop : o.op = Op.call { callee := Callee.builtin Builtin.len, args := #[m], argTypes := #[t] }) (h : MapO w enc B l) (hm : a.eval m = .map (some B))
    (hK : wpList P ops Q rest (a.put o.dst (.int .i64 l.length)) w) : wpList P ops Q (o :: rest) a w := by
  refine wpList_plain hgd fun K' hK' => ?_
  unfold Oper.wp
  simp [execOp, hop, resolve, invoke, builtin, hm, run_lenS ht h o.type, Result.andThen]
  exact hK' _ _ hK
theorem wpList_rangeO (ht : P.underlying t = some (.map K E)) (hgd : o.guard = none) (m : Operand) (hop : o.op = Op.range t m) (h : MapS w enc B l) (hm : a.eval m = .map (some B))
    (hK : ∀ w', RngO w' enc B w.heap.size l l → Below w.heap.size w w' → w'.heap.size = w.heap.size + 1 → wpList P ops Q rest (a.put o.dst (.pointer (some ⟨w.heap.size, 0, none⟩))) w') : wpList P ops Q (o :: rest) a w := by
  refine wpList_plain hgd fun K' hK' => ?_
  obtain ⟨w', hrun, r1, r2, r3⟩ := run_rangeO ht h
  unfold Oper.wp
  simp [execOp, hop, hm, hrun, Result.andThen]
  exact hK' _ _ (hK w' r1 r2 r3)
/-- a step, the elements' shape written out -/
theorem wpList_nextO {β : Type} (mkV : β → Value) (hgd : o.guard = none) (it : Operand) (hop : o.op = Op.next it false) (hit : a.eval it = .pointer (some ⟨r, 0, none⟩)) (h : RngO w enc B r l todo) (hV : ∀ p ∈ todo, ∃ c, p.2 = mkV c)
    (hDone : todo = [] → wpList P ops Q rest (a.put o.dst (.tuple #[.bool false])) w)
    (hMore : ∀ (x : κ) (c : β) (u v : List (κ × Value)) (w' : World), todo = u ++ (x, mkV c) :: v → RngO w' enc B r l (u ++ v) → w.grownBy w' (some r) → w'.heap.size = w.heap.size →
      (Instr.entry (.pointer (some ⟨r, 0, none⟩))).run P w' = .ok (.tuple #[enc x, mkV c]) w' → wpList P ops Q rest (a.put o.dst (.tuple #[.bool true, enc x, mkV c])) w') :
    wpList P ops Q (o :: rest) a w := by
  refine wpList_plain hgd fun K' hK' => ?_
  unfold Oper.wp
  rcases run_nextO (P := P) h o.type with ⟨h0, hrun⟩ | ⟨u, p, v, w', htd, hrun, hrg, hgr, hsz, hen⟩
  · simp [execOp, hop, hit, hrun, Result.andThen]
    exact hK' _ _ (hDone h0)
  · obtain ⟨x, y⟩ := p
    obtain ⟨c, hc⟩ := hV (x, y) (by rw [htd]; simp)
    have hc : y = mkV c := hc
    subst hc
    simp [execOp, hop, hit, hrun, Result.andThen]
    exact hK' _ _ (hMore x c u v w' htd hrg hgr hsz hen)
end
end
/-- .. of keys that are integers -/
theorem wpList_nextI {β : Type} {P : Program} {w : World} {B r : Nat} {l todo : List (Int × Value)} {ops : Array Oper} {rest : List Oper} {o : Oper} {a : Act} {Q : Exit → Act → World → Prop} (mkV : β → Value) (hgd : o.guard = none) (it : Operand) (hop : o.op = Op.next it false) (hit : a.eval it = .pointer (some ⟨r, 0, none⟩)) (h : RngO w encI B r l todo) (hV : ∀ p ∈ todo, ∃ c, p.2 = mkV c)
    (hDone : todo = [] → wpList P ops Q rest (a.put o.dst (.tuple #[.bool false])) w)
    (hMore : ∀ (x : Int) (c : β) (u v : List (Int × Value)) (w' : World), todo = u ++ (x, mkV c) :: v → RngO w' encI B r l (u ++ v) → w.grownBy w' (some r) → w'.heap.size = w.heap.size →
      (Instr.entry (.pointer (some ⟨r, 0, none⟩))).run P w' = .ok (.tuple #[.int .i64 x, mkV c]) w' → wpList P ops Q rest (a.put o.dst (.tuple #[.bool true, .int .i64 x, mkV c])) w') :
    wpList P ops Q (o :: rest) a w := wpList_nextO mkV hgd it hop hit h hV hDone hMore
end Go.Lt
end
