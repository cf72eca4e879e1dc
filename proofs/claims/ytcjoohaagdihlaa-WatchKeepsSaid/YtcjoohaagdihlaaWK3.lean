/- Texts behind a row, one behind the other: Learn0, Store1, Store2, RegInv2. -/
import Derived.Test.YtcjoohaagdihlaaWK1
import Derived.Test.YtcjoohaagdihlaaWK2
import Derived.RangeFuncNested
import Derived.RangeFuncBound
import Derived.RangeFuncCalls
import Derived.RangeFuncLeaves
import Derived.Shelf.Abstract
import Derived.Shelf.RegionOpen
import Derived.WalkKit
import Derived.OwnWalkIn
import Derived.TacticsInMore
import Derived.LoopNIn
import Derived.LoopIn
import Derived.Test.YtcjoohaagdihlaaProg
import Derived.Lib.SliceRun
section
/- Steps, and what is learned of them: the plain words, and how steps lie in memory. No program in sight. -/
namespace Go.Proofs.Ytcjoohaagdihlaa.Learn
open Go.RowKit Go.Lt Go.Proofs.Ytcjoohaagdihlaa.Lit Go.Proofs.Ytcjoohaagdihlaa.Sorted
open Go.Proofs.Ytcjoohaagdihlaa.Kept (Sl Sl.val addr_off)
set_option linter.unusedVariables false
set_option linter.unusedSimpArgs false

/-- a step: a literal, its level, why -/
structure St where
  lit : Int
  lev : Int
  why : List Int
def zSt : St := ⟨0, 0, []⟩
def stAt (l : List St) (i : Nat) : St := l.getD i zSt
theorem stAt_is {l : List St} {i : Nat} {x : St} (h : l[i]? = some x) : stAt l i = x := by unfold stAt; rw [List.getD_eq_getElem?_getD, h]; rfl
theorem stAt_get {l : List St} {i : Nat} (h : i < l.length) : l[i]? = some (stAt l i) := by
  rw [List.getElem?_eq_getElem h]; simp [stAt, List.getD, h]
theorem take_st {l : List St} {i : Nat} (h : i < l.length) : l.take (i + 1) = l.take i ++ [stAt l i] := by
  rw [List.take_add_one, stAt_get h]; rfl
/-- whether a literal is 0, or the inverse of one that became One -/
def zeroB (l : List St) (x : Int) : Bool := decide (x = 0) || (litGood x && l.any fun s => decide (s.lit = litNot x))
/-- where a variable is -/
def placeO (l : List St) (x : Int) : Option Nat := l.findIdx? fun s => decide (s.lit / 2 = x / 2)
def placeZ : Option Nat → Int
  | none => -1
  | some i => i
def lvl (l : List St) : Nat → Int
  | 0 => 0
  | i + 1 => (stAt l i).lev
def whyB (pre : List St) (s : St) (y : Int) : Bool := decide (y = s.lit) || zeroB pre y
/-- one step more -/
structure OkStep (pre : List St) (lev : Int) (s : St) : Prop where
  two : 2 ≤ s.lit
  good : s.lit ≤ 33554433
  new : placeO pre s.lit = none
  up : lev ≤ s.lev
  tried : s.why = [] ↔ lev < s.lev
  has : s.why ≠ [] → s.lit ∈ s.why
  why : ∀ y ∈ s.why, whyB pre s y = true
def OkTo (l : List St) (n : Nat) : Prop := ∀ i, i < n → OkStep (l.take i) (lvl l i) (stAt l i)
def GoodP (l : List St) (bad : List Int) : Prop := OkTo l l.length ∧ ∀ x ∈ bad, zeroB l x = true
noncomputable def goodB (l : List St) (bad : List Int) : Bool := @decide (GoodP l bad) (Classical.propDecidable _)
theorem goodB_yes {l : List St} {bad : List Int} (h : GoodP l bad) : goodB l bad = true := by unfold goodB; exact @decide_eq_true _ (Classical.propDecidable _) h
theorem goodB_no {l : List St} {bad : List Int} (h : ¬ GoodP l bad) : goodB l bad = false := by unfold goodB; exact @decide_eq_false _ (Classical.propDecidable _) h
theorem good_of {l : List St} {bad : List Int} (h : goodB l bad = true) : GoodP l bad := by unfold goodB at h; exact @of_decide_eq_true _ (Classical.propDecidable _) h
theorem OkTo.succ {l : List St} {n : Nat} (h : OkTo l n) (hs : OkStep (l.take n) (lvl l n) (stAt l n)) : OkTo l (n + 1) := fun i hi => by
  by_cases h1 : i = n
  · subst h1; exact hs
  · exact h i (by omega)
theorem OkTo.lits {l : List St} {n : Nat} (h : OkTo l n) (hn : n ≤ l.length) : ∀ s ∈ l.take n, 2 ≤ s.lit ∧ s.lit ≤ 33554433 := fun s hs => by
  obtain ⟨i, hi, e⟩ := List.mem_take_iff_getElem.1 hs
  have := h i (by omega)
  have e2 : stAt l i = s := stAt_is (by rw [List.getElem?_eq_getElem (by omega), e])
  rw [e2] at this
  exact ⟨this.two, this.good⟩
/-- steps in memory: three cells each -/
def RdT (w : World) (A : Option Addr) (n : Nat) (l : List St) : Prop :=
  l.length = n ∧ ∀ k, k < n → ∃ ad x, ∃ s : Sl, A = some ad ∧ ad.block < w.heap.size ∧ l[k]? = some x ∧ w.cell? (ad.add (k * 3)) = some (.int .i64 x.lit) ∧ w.cell? (ad.add (k * 3 + 1)) = some (.int .i64 x.lev) ∧ w.cell? (ad.add (k * 3 + 2)) = some s.val ∧ Rd w s.A s.n (ivs x.why)
theorem RdT.nil (w : World) (A : Option Addr) : RdT w A 0 [] := ⟨rfl, fun _ h => absurd h (Nat.not_lt_zero _)⟩
theorem RdT.below {w w' : World} {A : Option Addr} {n B : Nat} {l : List St} (h : RdT w A n l) (hb : Below B w w') (hB : w.heap.size ≤ B) : RdT w' A n l :=
  ⟨h.1, fun k hk => by
    obtain ⟨ad, x, s, h1, h2, h3, h4, h5, h6, h7⟩ := h.2 k hk
    have hh : ad.block < B := Nat.lt_of_lt_of_le h2 hB
    exact ⟨ad, x, s, h1, Nat.lt_of_lt_of_le h2 hb.size, h3, (hb.cell (by rw [add_block]; exact hh)).trans h4, (hb.cell (by rw [add_block]; exact hh)).trans h5, (hb.cell (by rw [add_block]; exact hh)).trans h6, h7.below hb hB⟩⟩
theorem RdT.dr {w w' : World} {A : Option Addr} {n : Nat} {l : List St} (h : RdT w A n l) (hd : Dr w w') : RdT w' A n l := by obtain ⟨m, rfl⟩ := hd; exact h
theorem RdT.take_ {w : World} {A : Option Addr} {n m : Nat} {l : List St} (h : RdT w A n l) (hm : m ≤ n) : RdT w A m (l.take m) :=
  ⟨by rw [List.length_take, h.1]; omega, fun k hk => by
    obtain ⟨ad, x, s, h1, h2, h3, h4⟩ := h.2 k (by omega)
    exact ⟨ad, x, s, h1, h2, by rw [List.getElem?_take, if_pos hk]; exact h3, h4⟩⟩
theorem RdT.get {w : World} {A : Option Addr} {n k : Nat} {l : List St} (h : RdT w A n l) (hk : k < n) :
    ∃ ad x, ∃ s : Sl, A = some ad ∧ ad.block < w.heap.size ∧ l[k]? = some x ∧ w.cell? (ad.add (k * 3)) = some (.int .i64 x.lit) ∧ w.cell? ⟨(ad.add (k * 3)).block, (ad.add (k * 3)).off + 1, none⟩ = some (.int .i64 x.lev) ∧ w.cell? ⟨(ad.add (k * 3)).block, (ad.add (k * 3)).off + 2, none⟩ = some s.val ∧ Rd w s.A s.n (ivs x.why) := by
  obtain ⟨ad, x, s, h1, h2, h3, h4, h5, h6, h7⟩ := h.2 k hk
  exact ⟨ad, x, s, h1, h2, h3, h4, by rw [addr_off _ _ _ (by omega)]; exact h5, by rw [addr_off _ _ _ (by omega)]; exact h6, h7⟩
theorem find_step {l : List St} {x : Int} {k : Nat} {s : St} (hs : l[k]? = some s) (hno : placeO (l.take k) x = none) (h : s.lit / 2 = x / 2) : placeO l x = some k := by
  unfold placeO at *
  rw [List.findIdx?_eq_some_iff_getElem]
  obtain ⟨hk, e⟩ := List.getElem?_eq_some_iff.1 hs
  refine ⟨hk, by rw [e]; simpa using h, fun j hj => ?_⟩
  rw [List.findIdx?_eq_none_iff] at hno
  have := hno l[j] (List.mem_take_iff_getElem.2 ⟨j, by omega, rfl⟩)
  simpa using this
theorem find_next {l : List St} {x : Int} {k : Nat} {s : St} (hs : l[k]? = some s) (hno : placeO (l.take k) x = none) (h : ¬ s.lit / 2 = x / 2) : placeO (l.take (k + 1)) x = none := by
  unfold placeO at *
  rw [List.findIdx?_eq_none_iff] at hno ⊢
  intro y hy
  rw [List.take_add_one, hs] at hy
  rcases List.mem_append.1 hy with hy | hy
  · exact hno y hy
  · have : y = s := by simpa using hy
    rw [this]; simpa using h
theorem zero_hit {l : List St} {x : Int} {k : Nat} {s : St} (hs : l[k]? = some s) (hg : litGood x = true) (h : s.lit = litNot x) : zeroB l x = true := by
  unfold zeroB
  rw [hg, Bool.or_eq_true, Bool.true_and, List.any_eq_true]
  exact .inr ⟨s, List.mem_of_getElem? hs, by simpa using h⟩
theorem zero_miss {l : List St} {x : Int} (h0 : x ≠ 0) (h : ∀ k : Nat, k < l.length → ∀ s, l[k]? = some s → litGood x = true → s.lit ≠ litNot x) : zeroB l x = false := by
  unfold zeroB
  rw [Bool.or_eq_false_iff, Bool.and_eq_false_iff]
  refine ⟨by simpa using h0, ?_⟩
  cases hg : litGood x with
  | false => exact .inl rfl
  | true =>
    right
    rw [List.any_eq_false]
    intro s hs
    obtain ⟨k, hk⟩ := List.getElem?_of_mem hs
    have := h k (List.getElem?_eq_some_iff.1 hk).1 s hk hg
    simpa using this
end Go.Proofs.Ytcjoohaagdihlaa.Learn
end

section
/- A store of kept cubes goes through those that it keeps. -/
namespace Go.Proofs.Ytcjoohaagdihlaa.Kept
open Go.RowKit Go.Shelf Go.Lt
set_option linter.unusedVariables false
set_option linter.unusedSimpArgs false
attribute [local go_sem] Oper.semAt_some

/-- what yield is handed: a place, and what is kept there -/
def zKv : Kv := ⟨⟨none, 0, 0⟩, 0, ⟨none, 0, 0⟩⟩
def kvAt (L : List Kv) (i : Nat) : Kv := L.getD i zKv
def encsF (L : List Kv) (i : Fin L.length) : Array Value := #[.int .i64 (i.1 : Int), .agg (kvAt L i.1).cells]
def upF (n k : Nat) : List (Fin n) := (List.finRange n).take k
theorem upF_succ {n k : Nat} (h : k < n) : upF n (k + 1) = upF n k ++ [⟨k, h⟩] := by
  unfold upF
  rw [List.take_add_one, List.getElem?_eq_getElem (by simpa using h)]
  simp
theorem upF_len {n k : Nat} (h : k ≤ n) : (upF n k).length = k := by unfold upF; simp [h]
theorem upF_all (n : Nat) : upF n n = List.finRange n := by unfold upF; rw [List.take_of_length_le (by simp)]
theorem upF_mem {n k : Nat} {i : Fin n} (h : i ∈ upF n k) : i.1 < k := by
  unfold upF at h
  obtain ⟨j, hj, he⟩ := List.mem_take_iff_getElem.1 h
  simp at he hj
  rw [← he]; simp; omega
set_option maxRecDepth 100000 in
set_option maxHeartbeats 2000000 in
theorem all1_in (F : Fence) (n : Nat) (hf : F.fn 134) (hro : F.round = none) (hn : 1 ≤ n) (l Bs n₀ p c : Nat) (ad : Option Addr) (L : List Kv) (hm : L.length ≤ 1000000) (J Jx : List (Fin L.length) → World → Prop)
    (hJ : ∀ s W o, J s W → J s (W.alloc o))
    (hY : ∀ pre x W, J pre W → pre.length < L.length → YieldAt F (n - 1) Try.prog l (encsF L x) W fun e W' =>
      (e = .returned (.bool true) ∧ J (pre ++ [x]) W' ∧ Below n₀ W W') ∨ (e = .returned (.bool false) ∧ Jx (pre ++ [x]) W'))
    (W : World) (hn₀ : n₀ ≤ W.heap.size) (hBs : W.cell? ⟨Bs, 0, none⟩ = some (.pointer (some ⟨p, 0, none⟩))) (hp : W.cell? ⟨p, 0, none⟩ = some (.slice ad L.length c)) (hr : RdK W ad L.length L) (hlow : ∀ a, ad = some a → a.block < n₀) (h0 : J [] W) :
    CallsIn F n Try.prog 134 #[.func (.yield l) #[] #[], .pointer (some ⟨Bs, 0, none⟩)] W fun e W' => (∃ v, e = .returned v) ∧
      ((∃ ys, ys = upF L.length L.length ∧ J ys W') ∨ (∃ pre, (∃ k, k ≤ L.length ∧ pre = upF L.length k) ∧ Jx pre W')) := by
  obtain ⟨m, hmL⟩ : ∃ m, L.length = m := ⟨_, rfl⟩
  refine callsIn_of_wp Try.func134 rfl hf ?_ hro
  simp only [Try.ntmps134, List.size_toArray, List.length_cons, List.length_nil, Nat.reduceAdd, Nat.reduceSub, Array.replicate_succ, Array.replicate_zero, List.push_toArray, List.append_toArray, List.nil_append, List.cons_append]
  have hmI : (L.length : Int) ≤ 1000000 := by omega
  gi_wp2
  gi_loopw [12] (fun i wr => ∃ k : Nat, k ≤ L.length ∧ i = .int .i64 k ∧ J (upF L.length k) wr ∧ Below n₀ W wr ∧ W.heap.size ≤ wr.heap.size)
    (fun i _ => L.length - (intOf i).toNat)
  case atStart => exact ⟨0, Nat.zero_le _, rfl, h0, Below.refl _ _, Nat.le_refl _⟩
  case round =>
    obtain ⟨k, hk, rfl, hJs, hnx, hsz⟩ := hrel
    have hkI : (k : Int) ≤ 1000000 := by omega
    by_cases hlt : k < L.length
    · have hltI : (k : Int) < L.length := by omega
      obtain ⟨a, x, rfl, hB, hx, c0, c1, c2⟩ := hr.get hlt
      have hlo := hlow a rfl
      have c0 := (hnx.cell (p := a.add (k * 3)) (by rw [add_block]; exact hlo)).trans c0
      have c1 := (hnx.cell (p := ⟨(a.add (k * 3)).block, (a.add (k * 3)).off + 1, none⟩) (by rw [add_block]; exact hlo)).trans c1
      have c2 := (hnx.cell (p := ⟨(a.add (k * 3)).block, (a.add (k * 3)).off + 2, none⟩) (by rw [add_block]; exact hlo)).trans c2
      obtain ⟨fn, tmps, assign, body, hy, hR⟩ := hY _ ⟨k, hlt⟩ (wr.alloc (.cells x.cells 66)) (hJ _ _ _ hJs) (by rw [upF_len (by omega)]; exact hlt)
      have hx' : kvAt L k = x := by unfold kvAt; rw [List.getD_eq_getElem?_getD, hx]; rfl
      unfold encsF at hy
      rw [hx'] at hy
      dsimp only at hy
      gi_wp2
      refine hR.mono ?_
      rintro e W3 (⟨rfl, hJ3, hk3⟩ | ⟨rfl, hJx3⟩)
      · gi_wp2
        go_roundw
        case rel => exact ⟨k + 1, by omega, by simp, by rw [upF_succ hlt]; exact hJ3, (hnx.alloc (Nat.le_trans hn₀ hsz) _).trans hk3, Nat.le_trans hsz (Nat.le_trans (by simp) hk3.size)⟩
        case measure => simp [intOf]; omega
      · gi_wp2
        refine bodyPost_ret (results_none rfl _ _ _) rfl ?_
        exact ⟨⟨_, rfl⟩, .inr ⟨_, ⟨k + 1, by omega, (upF_succ hlt).symm⟩, hJx3⟩⟩
    · obtain rfl : k = L.length := by omega
      gi_wp2
      go_end0
      exact ⟨⟨_, rfl⟩, .inl ⟨_, rfl, hJs⟩⟩
set_option maxRecDepth 100000 in
set_option maxHeartbeats 1000000 in
/-- .. of a nil store: no round -/
theorem all1_none (F : Fence) (n : Nat) (hf : F.fn 134) (hro : F.round = none) (l Bs : Nat) (J : World → Prop) (W : World) (hBs : W.cell? ⟨Bs, 0, none⟩ = some (.pointer none)) (h0 : J W) :
    CallsIn F n Try.prog 134 #[.func (.yield l) #[] #[], .pointer (some ⟨Bs, 0, none⟩)] W fun e W' => (∃ v, e = .returned v) ∧ J W' := by
  refine callsIn_of_wp Try.func134 rfl hf ?_ hro
  simp only [Try.ntmps134, List.size_toArray, List.length_cons, List.length_nil, Nat.reduceAdd, Nat.reduceSub, Array.replicate_succ, Array.replicate_zero, List.push_toArray, List.append_toArray, List.nil_append, List.cons_append]
  gi_wp2
  refine bodyPost_ret (results_none rfl _ _ _) rfl ?_
  exact ⟨⟨_, rfl⟩, h0⟩
set_option maxHeartbeats 1000000 in
/-- the store's sequence: its pointer is boxed -/
theorem all_in (F : Fence) (n : Nat) (hf : F.fn 101) (hro : F.round = none) (p : Option Addr) (w : World) :
    CallsIn F n Try.prog 101 #[.pointer p] w fun e w' => e = .returned (.func (.func 134) #[] #[.pointer (some ⟨w.heap.size, 0, none⟩)]) ∧ w' = w.alloc (.cells #[.pointer p] 61) := by
  refine callsIn_of_wp Try.func101 rfl hf ?_ hro
  simp only [Try.ntmps101, List.size_toArray, List.length_cons, List.length_nil, Nat.reduceAdd, Nat.reduceSub, Array.replicate_succ, Array.replicate_zero, List.push_toArray, List.append_toArray, List.nil_append, List.cons_append]
  gi_wp2
  go_ret
  exact ⟨rfl, rfl⟩
/-- what a store keeps: a slice of them in a cell of its own, all of it below n₀; or there is no store -/
def Keeps (n₀ : Nat) (W : World) (q : Option Addr) (L : List Kv) : Prop :=
  (q = none ∧ L = []) ∨ ∃ p A m c, q = some ⟨p, 0, none⟩ ∧ p < n₀ ∧ W.cell? ⟨p, 0, none⟩ = some (.slice A m c) ∧ RdK W A m L ∧ ∀ a, A = some a → a.block < n₀
theorem Keeps.below {n₀ : Nat} {A B : World} {q : Option Addr} {L : List Kv} (h : Keeps n₀ A q L) (hb : Below n₀ A B) (hn : A.heap.size ≤ B.heap.size) : Keeps n₀ B q L := by
  rcases h with h | ⟨p, a, m, c, h1, h2, h3, h4, h5⟩
  · exact .inl h
  · refine .inr ⟨p, a, m, c, h1, h2, (hb.cell (p := ⟨p, 0, none⟩) h2).trans h3, ⟨h4.1, fun k hk => ?_⟩, h5⟩
    obtain ⟨ad, x, g1, g2, g3, g4, g6, g7⟩ := h4.2 k hk
    have hl := h5 ad g1
    exact ⟨ad, x, g1, Nat.lt_of_lt_of_le g2 hn, g3, (hb.cell (by rw [add_block]; exact hl)).trans g4, (hb.cell (by rw [add_block]; exact hl)).trans g6, (hb.cell (by rw [add_block]; exact hl)).trans g7⟩
theorem all_stops (F : Fence) (n : Nat) (hf : F.fn 134) (hro : F.round = none) (hn : 1 ≤ n) (Bs n₀ : Nat) (q : Option Addr) (L : List Kv) (hm : L.length ≤ 1000000) (w : World) (hBs : Bs < w.heap.size) (hn₀ : n₀ ≤ w.heap.size)
    (hc : w.cell? ⟨Bs, 0, none⟩ = some (.pointer q)) (hI : Keeps n₀ w q L) :
    SeqStopsK F n Try.prog 134 #[.pointer (some ⟨Bs, 0, none⟩)] (encsF L) (Below n₀) (fun ys => ys = upF L.length L.length) (fun pre => ∃ k, k ≤ L.length ∧ pre = upF L.length k) L.length w := fun l J Jx W hW hJ _ hY h0 => by
  have hc' := (hW.cell (p := ⟨Bs, 0, none⟩) hBs).trans hc
  have hal : ∀ s W o, J s W → J s (W.alloc o) := fun s W o h => hJ s W _ none h (World.grownBy_alloc W o none) (fun r e => by cases e)
  rcases hI.below (hW.mono hn₀) hW.size with ⟨rfl, rfl⟩ | ⟨p, A, m, c, rfl, hp, h3, h4, h5⟩
  · exact (all1_none F n hf hro l Bs (J []) W hc' h0).mono fun e W' ⟨he, hj⟩ => ⟨he, .inl ⟨_, rfl, hj⟩⟩
  · have hlm := h4.1
    subst hlm
    exact all1_in F n hf hro hn l Bs n₀ p c A L hm J Jx hal hY W (Nat.le_trans hn₀ hW.size) hc' h3 h4 h5 h0
end Go.Proofs.Ytcjoohaagdihlaa.Kept
end

section
/- A slice's copy in memory of its own. -/
namespace Go.Proofs.Ytcjoohaagdihlaa.Kept
open Go.RowKit Go.Lt
set_option linter.unusedVariables false
set_option linter.unusedSimpArgs false

theorem k_int : (Try.prog.info? 3).map (fun i => (i.zero, i.size, i.bytes)) = some (some (.int .i64 0), 1, 8) := by kernel_rfl
theorem k_bool : (Try.prog.info? 4).map (fun i => (i.zero, i.size, i.bytes)) = some (some (.bool false), 1, 1) := by kernel_rfl
theorem k_kept : (Try.prog.info? 66).map (fun i => (i.zero, i.size, i.bytes)) = some (some (.agg #[.slice none 0 0, .int .i64 0, .slice none 0 0]), 3, 56) := by kernel_rfl
theorem k_ints : (Try.prog.info? 40).map (fun i => (i.zero, i.size, i.bytes)) = some (some (.slice none 0 0), 1, 24) := by kernel_rfl

set_option maxRecDepth 8000 in
set_option maxHeartbeats 1000000 in
theorem clone_ints (A : Option Addr) (n c : Nat) (l : List Int) (w : World) (hr : Rd w A n (l.map (Value.int .i64))) (hn : n ≤ 1000000) :
    Calls Try.prog 108 #[.slice A n c] w fun e w' => ∃ v, e = .returned v ∧ w'.ownsRow w.heap.size 3 1 v l.length (l.map (Value.int .i64)) ∧ Below w.heap.size w w' := by
  have hl := hr.len
  subst hl
  have q22 : ∀ (w : World) (a : Option Addr) (n c n' c' : Nat), (binOp .eql 40 (.slice a n c) (.slice none n' c')).run Try.prog w = .ok (.bool a.isNone) w := fun w a n c n' c' => Lib.run_eql_slice_nil w _ 3 a n c n' c' (by kernel_rfl)
  go_enter Try.func108, Try.ntmps108
  rcases A with _ | ad
  · have h0 := hr.none
    have : l = [] := List.eq_nil_of_length_eq_zero h0
    subst this
    go_wp2
    go_ret
    exact ⟨_, rfl, ⟨by simp, .inl ⟨rfl, rfl⟩⟩, Below.refl _ _⟩
  · go_wp2_with (at_builtin; refine wpList_append_rd (w0 := w) (base := w.heap.size) rfl _ _ _ rfl (by kernel_rfl) k_int rfl rfl rfl (LitAt.new w _ _ (Nat.le_refl _)).own (Below.alloc (Below.refl _ _) (Nat.le_refl _) _) (by simp) (hr.below (Below.alloc (Below.refl w.heap.size w) (Nat.le_refl _) _) (Nat.le_refl _)) (by intro u hu; obtain ⟨x, _, rfl⟩ := List.mem_map.1 hu; rfl) (by unfold maxLen; omega) (by omega) ?_; intro v' w' hown hb; simp only [Nat.zero_add, List.nil_append] at hown)
    go_ret
    exact ⟨_, rfl, hown, hb⟩
set_option maxRecDepth 8000 in
set_option maxHeartbeats 1000000 in
theorem clone_bools (A : Option Addr) (n c : Nat) (l : List Bool) (w : World) (hr : Rd w A n (l.map Value.bool)) (hn : n ≤ 1000000) :
    Calls Try.prog 136 #[.slice A n c] w fun e w' => ∃ v, e = .returned v ∧ w'.ownsRow w.heap.size 4 1 v l.length (l.map Value.bool) ∧ Below w.heap.size w w' := by
  have hl := hr.len
  subst hl
  have q22 : ∀ (w : World) (a : Option Addr) (n c n' c' : Nat), (binOp .eql 59 (.slice a n c) (.slice none n' c')).run Try.prog w = .ok (.bool a.isNone) w := fun w a n c n' c' => Lib.run_eql_slice_nil w _ 4 a n c n' c' (by kernel_rfl)
  go_enter Try.func136, Try.ntmps136
  rcases A with _ | ad
  · have h0 := hr.none
    have : l = [] := List.eq_nil_of_length_eq_zero h0
    subst this
    go_wp2
    go_ret
    exact ⟨_, rfl, ⟨by simp, .inl ⟨rfl, rfl⟩⟩, Below.refl _ _⟩
  · go_wp2_with (at_builtin; refine wpList_append_rd (w0 := w) (base := w.heap.size) rfl _ _ _ rfl (by kernel_rfl) k_bool rfl rfl rfl (LitAt.new w _ _ (Nat.le_refl _)).own (Below.alloc (Below.refl _ _) (Nat.le_refl _) _) (by simp) (hr.below (Below.alloc (Below.refl w.heap.size w) (Nat.le_refl _) _) (Nat.le_refl _)) (by intro u hu; obtain ⟨x, _, rfl⟩ := List.mem_map.1 hu; rfl) (by unfold maxLen; omega) (by omega) ?_; intro v' w' hown hb; simp only [Nat.zero_add, List.nil_append] at hown)
    go_ret
    exact ⟨_, rfl, hown, hb⟩
end Go.Proofs.Ytcjoohaagdihlaa.Kept
end

section
/- A region that draws its order, by one invariant over what has come up, told also that what comes up has not come up yet. No program in sight. -/
namespace Go.Lt
open Go.RowKit
set_option linter.unusedVariables false
set_option linter.unusedSimpArgs false

section
variable {P : Program} {ops : Array Oper} {Q : Exit → Act → World → Prop}
theorem all_listed3 {listed : Array Bool} (hwf : ∀ (j : Nat) o, ops[j]? = some o → ∀ e ∈ o.after, Region.binds .any e = true → e.on < j) (hs : listed.size = ops.size) (hr : Region.ready .any ops listed = []) : ∀ j, listed.getD j true = true := by
  intro j
  induction j using Nat.strongRecOn with
  | _ j ih =>
    cases hj : listed.getD j true with
    | true => rfl
    | false =>
      have hlt : j < ops.size := by
        obtain ⟨hi, _⟩ := getD_false hj
        rw [← hs]; simpa using hi
      have ho : ops[j]? = some ops[j] := Array.getElem?_eq_getElem hlt
      have : j ∈ Region.ready .any ops listed := mem_ready.2 ⟨hj, _, ho, fun e he hb => by
        have h1 := ih e.on (hwf j _ ho e he hb)
        have h2 : e.on < listed.size := by have := hwf j _ ho e he hb; omega
        simpa [Array.getD, h2] using h1⟩
      rw [hr] at this
      cases this
theorem wpAny_inv3 (I : (Nat → Prop) → Act → World → Prop) (hwf : ∀ (j : Nat) o, ops[j]? = some o → ∀ e ∈ o.after, Region.binds .any e = true → e.on < j)
    (hstep : ∀ D a w i o, ops[i]? = some o → ¬ D i → (∀ e ∈ o.after, Region.binds .any e = true → D e.on) → I D a w → wpOp P ops Q i (fun a' w' => I (fun j => j = i ∨ D j) a' w') a w)
    (hdone : ∀ D a w, (∀ j, D j) → I D a w → Q .normal a w) :
    ∀ (fuel : Nat) (listed : Array Bool) (a : Act) (w : World), listed.size = ops.size → leftN listed ≤ fuel → I (fun j => listed.getD j true = true) a w → wpAny P .any ops Q fuel listed a w
  | 0, listed, a, w, hs, hf, hI => by
    have hr : Region.ready .any ops listed = [] := by
      cases h : Region.ready .any ops listed with
      | nil => rfl
      | cons i rs =>
        have hi : i ∈ Region.ready .any ops listed := by rw [h]; simp
        have := leftN_pos (mem_ready.1 hi).1
        omega
    exact ⟨hr, hdone _ a w (all_listed3 hwf hs hr) hI⟩
  | fuel + 1, listed, a, w, hs, hf, hI => by
    refine ⟨fun hr => hdone _ a w (all_listed3 hwf hs hr) hI, fun i hi => ?_⟩
    obtain ⟨hn, o, ho, hd⟩ := mem_ready.1 hi
    refine wpOp_mono (fun a' w' hI' => ?_) (hstep _ a w i o ho (by rw [hn]; simp) (fun e he hb => ?_) hI)
    · refine wpAny_inv3 I hwf hstep hdone fuel _ a' w' (by simpa using hs) (by have := leftN_set hn; omega) ?_
      have hfun : (fun j => (listed.setIfInBounds i true).getD j true = true) = fun j => j = i ∨ listed.getD j true = true := funext fun j => propext (getD_put j)
      rw [hfun]
      exact hI'
    · have h1 := hd e he hb
      have h2 : e.on < listed.size := by
        rcases Nat.lt_or_ge e.on listed.size with h | h
        · exact h
        · simp [Array.getD, Nat.not_lt.2 h] at h1
      simpa [Array.getD, h2] using h1
/-- the law, by the operations' numbers: what comes up has not come up yet -/
theorem wp_region_inv3 {id : Nat} {a : Act} {w : World} (I : (Nat → Prop) → Act → World → Prop) (hm : P.follows .mixedOrders = true)
    (hwf : (ops.toList.zipIdx.all fun p => p.1.after.all fun e => !Region.binds .any e || decide (e.on < p.2)) = true)
    (h0 : I (fun j => ops.size ≤ j) a w.drew)
    (hstep : ∀ D a w i, i < ops.size → ¬ D i → (∀ j, depsB ops i j = true → D j) → I D a w → wpOp P ops Q i (fun a' w' => I (fun j => j = i ∨ D j) a' w') a w)
    (hdone : ∀ D a w, (∀ j, D j) → I D a w → Q .normal a w) : (Code.region id ops true).wp P Q a w := by
  refine wp_region_any hm (wpAny_inv3 I (fun j o ho e he hb => ?_) (fun D a w i o ho hn hd hI => hstep D a w i (Array.getElem?_eq_some_iff.1 ho).1 hn (fun j hj => ?_) hI) hdone ops.size _ a _ (by simp) (by unfold leftN; simp [List.countP_replicate]) ?_)
  · have hlt : j < ops.size := (Array.getElem?_eq_some_iff.1 ho).1
    have hp : (o, j) ∈ ops.toList.zipIdx := by
      rw [List.mem_iff_getElem?]
      exact ⟨j, by rw [List.getElem?_zipIdx, Array.getElem?_toList, ho]; simp⟩
    have h1 := List.all_eq_true.1 hwf _ hp
    have h2 := Array.all_eq_true_iff_forall_mem.1 h1 e he
    simpa [hb] using h2
  · unfold depsB at hj
    rw [ho] at hj
    simp only [Option.map_some, Option.getD_some] at hj
    rw [List.any_eq_true] at hj
    obtain ⟨e, he, h2⟩ := hj
    rw [Bool.and_eq_true, beq_iff_eq] at h2
    obtain ⟨h3, rfl⟩ := h2
    exact hd e (Array.mem_toList_iff.1 he) h3
  · have hfun : (fun j => (Array.replicate ops.size false).getD j true = true) = fun j => ops.size ≤ j := funext fun j => propext (by
      by_cases hj : j < ops.size
      · simp [Array.getD, hj]
      · simp [Array.getD, hj]; omega)
    rw [hfun]
    exact h0
end
end Go.Lt
end
