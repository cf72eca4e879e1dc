/- A store of kept cubes goes through those that it keeps. -/
import Derived.RangeFuncNested
import Derived.RangeFuncBound
import Derived.RangeFuncCalls
import Derived.RangeFuncLeaves
import Derived.Shelf.Abstract
import Derived.Shelf.RegionOpen
import Derived.WalkKit
import Derived.OwnWalkIn
import Derived.TacticsInMore
import Derived.LoopNIn
import Derived.LoopIn
import Derived.Test.YtcjoohaagdihlaaProg
import Derived.Test.YtcjoohaagdihlaaKept0
namespace Go.Proofs.Ytcjoohaagdihlaa.Kept
open Go.RowKit Go.Shelf Go.Lt
set_option linter.unusedVariables false
set_option linter.unusedSimpArgs false
attribute [local go_sem] Oper.semAt_some

/-- what yield is handed: a place, and what is kept there -/
def zKv : Kv := ⟨⟨none, 0, 0⟩, 0, ⟨none, 0, 0⟩⟩
def kvAt (L : List Kv) (i : Nat) : Kv := L.getD i zKv
def encsF (L : List Kv) (i : Fin L.length) : Array Value := #[.int .i64 (i.1 : Int), .agg (kvAt L i.1).cells]
def upF (n k : Nat) : List (Fin n) := (List.finRange n).take k
theorem upF_succ {n k : Nat} (h : k < n) : upF n (k + 1) = upF n k ++ [⟨k, h⟩] := by
  unfold upF
  rw [List.take_add_one, List.getElem?_eq_getElem (by simpa using h)]
  simp
theorem upF_len {n k : Nat} (h : k ≤ n) : (upF n k).length = k := by unfold upF; simp [h]
theorem upF_all (n : Nat) : upF n n = List.finRange n := by unfold upF; rw [List.take_of_length_le (by simp)]
theorem upF_mem {n k : Nat} {i : Fin n} (h : i ∈ upF n k) : i.1 < k := by
  unfold upF at h
  obtain ⟨j, hj, he⟩ := List.mem_take_iff_getElem.1 h
  simp at he hj
  rw [← he]; simp; omega
set_option maxRecDepth 100000 in
set_option maxHeartbeats 2000000 in
theorem all1_in (F : Fence) (n : Nat) (hf : F.fn 134) (hro : F.round = none) (hn : 1 ≤ n) (l Bs n₀ p c : Nat) (ad : Option Addr) (L : List Kv) (hm : L.length ≤ 1000000) (J Jx : List (Fin L.length) → World → Prop)
    (hJ : ∀ s W o, J s W → J s (W.alloc o))
    (hY : ∀ pre x W, J pre W → pre.length < L.length → YieldAt F (n - 1) Try.prog l (encsF L x) W fun e W' =>
      (e = .returned (.bool true) ∧ J (pre ++ [x]) W' ∧ Below n₀ W W') ∨ (e = .returned (.bool false) ∧ Jx (pre ++ [x]) W'))
    (W : World) (hn₀ : n₀ ≤ W.heap.size) (hBs : W.cell? ⟨Bs, 0, none⟩ = some (.pointer (some ⟨p, 0, none⟩))) (hp : W.cell? ⟨p, 0, none⟩ = some (.slice ad L.length c)) (hr : RdK W ad L.length L) (hlow : ∀ a, ad = some a → a.block < n₀) (h0 : J [] W) :
    CallsIn F n Try.prog 134 #[.func (.yield l) #[] #[], .pointer (some ⟨Bs, 0, none⟩)] W fun e W' => (∃ v, e = .returned v) ∧
      ((∃ ys, ys = upF L.length L.length ∧ J ys W') ∨ (∃ pre, (∃ k, k ≤ L.length ∧ pre = upF L.length k) ∧ Jx pre W')) := by
  obtain ⟨m, hmL⟩ : ∃ m, L.length = m := ⟨_, rfl⟩
  refine callsIn_of_wp Try.func134 rfl hf ?_ hro
  simp only [Try.ntmps134, List.size_toArray, List.length_cons, List.length_nil, Nat.reduceAdd, Nat.reduceSub, Array.replicate_succ, Array.replicate_zero, List.push_toArray, List.append_toArray, List.nil_append, List.cons_append]
  have hmI : (L.length : Int) ≤ 1000000 := by omega
  gi_wp2
  gi_loopw [12] (fun i wr => ∃ k : Nat, k ≤ L.length ∧ i = .int .i64 k ∧ J (upF L.length k) wr ∧ Below n₀ W wr ∧ W.heap.size ≤ wr.heap.size)
    (fun i _ => L.length - (intOf i).toNat)
  case atStart => exact ⟨0, Nat.zero_le _, rfl, h0, Below.refl _ _, Nat.le_refl _⟩
  case round =>
    obtain ⟨k, hk, rfl, hJs, hnx, hsz⟩ := hrel
    have hkI : (k : Int) ≤ 1000000 := by omega
    by_cases hlt : k < L.length
    · have hltI : (k : Int) < L.length := by omega
      obtain ⟨a, x, rfl, hB, hx, c0, c1, c2⟩ := hr.get hlt
      have hlo := hlow a rfl
      have c0 := (hnx.cell (p := a.add (k * 3)) (by rw [add_block]; exact hlo)).trans c0
      have c1 := (hnx.cell (p := ⟨(a.add (k * 3)).block, (a.add (k * 3)).off + 1, none⟩) (by rw [add_block]; exact hlo)).trans c1
      have c2 := (hnx.cell (p := ⟨(a.add (k * 3)).block, (a.add (k * 3)).off + 2, none⟩) (by rw [add_block]; exact hlo)).trans c2
      obtain ⟨fn, tmps, assign, body, hy, hR⟩ := hY _ ⟨k, hlt⟩ (wr.alloc (.cells x.cells 66)) (hJ _ _ _ hJs) (by rw [upF_len (by omega)]; exact hlt)
      have hx' : kvAt L k = x := by unfold kvAt; rw [List.getD_eq_getElem?_getD, hx]; rfl
      unfold encsF at hy
      rw [hx'] at hy
      dsimp only at hy
      gi_wp2
      refine hR.mono ?_
      rintro e W3 (⟨rfl, hJ3, hk3⟩ | ⟨rfl, hJx3⟩)
      · gi_wp2
        go_roundw
        case rel => exact ⟨k + 1, by omega, by simp, by rw [upF_succ hlt]; exact hJ3, (hnx.alloc (Nat.le_trans hn₀ hsz) _).trans hk3, Nat.le_trans hsz (Nat.le_trans (by simp) hk3.size)⟩
        case measure => simp [intOf]; omega
      · gi_wp2
        refine bodyPost_ret (results_none rfl _ _ _) rfl ?_
        exact ⟨⟨_, rfl⟩, .inr ⟨_, ⟨k + 1, by omega, (upF_succ hlt).symm⟩, hJx3⟩⟩
    · obtain rfl : k = L.length := by omega
      gi_wp2
      go_end0
      exact ⟨⟨_, rfl⟩, .inl ⟨_, rfl, hJs⟩⟩
set_option maxRecDepth 100000 in
set_option maxHeartbeats 1000000 in
/-- .. of a nil store: no round -/
theorem all1_none (F : Fence) (n : Nat) (hf : F.fn 134) (hro : F.round = none) (l Bs : Nat) (J : World → Prop) (W : World) (hBs : W.cell? ⟨Bs, 0, none⟩ = some (.pointer none)) (h0 : J W) :
    CallsIn F n Try.prog 134 #[.func (.yield l) #[] #[], .pointer (some ⟨Bs, 0, none⟩)] W fun e W' => (∃ v, e = .returned v) ∧ J W' := by
  refine callsIn_of_wp Try.func134 rfl hf ?_ hro
  simp only [Try.ntmps134, List.size_toArray, List.length_cons, List.length_nil, Nat.reduceAdd, Nat.reduceSub, Array.replicate_succ, Array.replicate_zero, List.push_toArray, List.append_toArray, List.nil_append, List.cons_append]
  gi_wp2
  refine bodyPost_ret (results_none rfl _ _ _) rfl ?_
  exact ⟨⟨_, rfl⟩, h0⟩
set_option maxHeartbeats 1000000 in
/-- the store's sequence: its pointer is boxed -/
theorem all_in (F : Fence) (n : Nat) (hf : F.fn 101) (hro : F.round = none) (p : Option Addr) (w : World) :
    CallsIn F n Try.prog 101 #[.pointer p] w fun e w' => e = .returned (.func (.func 134) #[] #[.pointer (some ⟨w.heap.size, 0, none⟩)]) ∧ w' = w.alloc (.cells #[.pointer p] 61) := by
  refine callsIn_of_wp Try.func101 rfl hf ?_ hro
  simp only [Try.ntmps101, List.size_toArray, List.length_cons, List.length_nil, Nat.reduceAdd, Nat.reduceSub, Array.replicate_succ, Array.replicate_zero, List.push_toArray, List.append_toArray, List.nil_append, List.cons_append]
  gi_wp2
  go_ret
  exact ⟨rfl, rfl⟩
/-- what a store keeps: a slice of them in a cell of its own, all of it below n₀; or there is no store -/
def Keeps (n₀ : Nat) (W : World) (q : Option Addr) (L : List Kv) : Prop :=
  (q = none ∧ L = []) ∨ ∃ p A m c, q = some ⟨p, 0, none⟩ ∧ p < n₀ ∧ W.cell? ⟨p, 0, none⟩ = some (.slice A m c) ∧ RdK W A m L ∧ ∀ a, A = some a → a.block < n₀
theorem Keeps.below {n₀ : Nat} {A B : World} {q : Option Addr} {L : List Kv} (h : Keeps n₀ A q L) (hb : Below n₀ A B) (hn : A.heap.size ≤ B.heap.size) : Keeps n₀ B q L := by
  rcases h with h | ⟨p, a, m, c, h1, h2, h3, h4, h5⟩
  · exact .inl h
  · refine .inr ⟨p, a, m, c, h1, h2, (hb.cell (p := ⟨p, 0, none⟩) h2).trans h3, ⟨h4.1, fun k hk => ?_⟩, h5⟩
    obtain ⟨ad, x, g1, g2, g3, g4, g6, g7⟩ := h4.2 k hk
    have hl := h5 ad g1
    exact ⟨ad, x, g1, Nat.lt_of_lt_of_le g2 hn, g3, (hb.cell (by rw [add_block]; exact hl)).trans g4, (hb.cell (by rw [add_block]; exact hl)).trans g6, (hb.cell (by rw [add_block]; exact hl)).trans g7⟩
theorem all_stops (F : Fence) (n : Nat) (hf : F.fn 134) (hro : F.round = none) (hn : 1 ≤ n) (Bs n₀ : Nat) (q : Option Addr) (L : List Kv) (hm : L.length ≤ 1000000) (w : World) (hBs : Bs < w.heap.size) (hn₀ : n₀ ≤ w.heap.size)
    (hc : w.cell? ⟨Bs, 0, none⟩ = some (.pointer q)) (hI : Keeps n₀ w q L) :
    SeqStopsK F n Try.prog 134 #[.pointer (some ⟨Bs, 0, none⟩)] (encsF L) (Below n₀) (fun ys => ys = upF L.length L.length) (fun pre => ∃ k, k ≤ L.length ∧ pre = upF L.length k) L.length w := fun l J Jx W hW hJ _ hY h0 => by
  have hc' := (hW.cell (p := ⟨Bs, 0, none⟩) hBs).trans hc
  have hal : ∀ s W o, J s W → J s (W.alloc o) := fun s W o h => hJ s W _ none h (World.grownBy_alloc W o none) (fun r e => by cases e)
  rcases hI.below (hW.mono hn₀) hW.size with ⟨rfl, rfl⟩ | ⟨p, A, m, c, rfl, hp, h3, h4, h5⟩
  · exact (all1_none F n hf hro l Bs (J []) W hc' h0).mono fun e W' ⟨he, hj⟩ => ⟨he, .inl ⟨_, rfl, hj⟩⟩
  · have hlm := h4.1
    subst hlm
    exact all1_in F n hf hro hn l Bs n₀ p c A L hm J Jx hal hY W (Nat.le_trans hn₀ hW.size) hc' h3 h4 h5 h0
end Go.Proofs.Ytcjoohaagdihlaa.Kept
