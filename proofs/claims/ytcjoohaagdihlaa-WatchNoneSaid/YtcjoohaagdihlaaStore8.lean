/- Deleting from a row of kept cubes, in place, by a function: the row is cut to those that are not struck. -/
import Derived.Test.YtcjoohaagdihlaaStore7
namespace Go.Lt
open Go.RowKit
/-- all lies as it lay, but for these blocks -/
structure Fr (S : Nat → Prop) (w w' : World) : Prop where
  os : w'.os = w.os
  tape : w'.tape = w.tape
  output : w'.output = w.output
  size : w.heap.size ≤ w'.heap.size
  block : ∀ k, k < w.heap.size → ¬ S k → w'.heap[k]? = w.heap[k]?
theorem Fr.refl (S : Nat → Prop) (w : World) : Fr S w w := ⟨rfl, rfl, rfl, Nat.le_refl _, fun _ _ _ => rfl⟩
theorem Fr.of_below {S : Nat → Prop} {w w' : World} (h : Below w.heap.size w w') : Fr S w w' := ⟨h.os, h.tape, h.output, h.size, fun k hk _ => h.block k hk⟩
theorem Fr.of_grown {S : Nat → Prop} {w w' : World} {row : Option Nat} (h : w.grownBy w' row) (hr : ∀ k, row = some k → S k ∨ w.heap.size ≤ k) : Fr S w w' :=
  ⟨h.os, h.tape, h.output, h.size, fun k hk hS => h.block k hk (fun e => by rcases hr k e.symm with h1 | h1; exact hS h1; omega)⟩
theorem Fr.trans {S : Nat → Prop} {a b c : World} (h : Fr S a b) (k : Fr S b c) : Fr S a c :=
  ⟨k.os.trans h.os, k.tape.trans h.tape, k.output.trans h.output, Nat.le_trans h.size k.size, fun i hi hS => (k.block i (Nat.lt_of_lt_of_le hi h.size) hS).trans (h.block i hi hS)⟩
theorem Fr.more {S S' : Nat → Prop} {a b : World} (h : Fr S a b) (hs : ∀ k, k < a.heap.size → S k → S' k) : Fr S' a b := ⟨h.os, h.tape, h.output, h.size, fun k hk hn => h.block k hk (fun e => hn (hs k hk e))⟩
/-- behind: what is turned may have been new -/
theorem Fr.then {S S' : Nat → Prop} {a b c : World} (h : Fr S a b) (k : Fr S' b c) (hs : ∀ i, i < a.heap.size → S' i → S i) : Fr S a c :=
  ⟨k.os.trans h.os, k.tape.trans h.tape, k.output.trans h.output, Nat.le_trans h.size k.size, fun i hi hS => (k.block i (Nat.lt_of_lt_of_le hi h.size) (fun e => hS (hs i hi e))).trans (h.block i hi hS)⟩
theorem Fr.below {S : Nat → Prop} {a b : World} {B : Nat} (h : Fr S a b) (hB : B ≤ a.heap.size) (hS : ∀ k, S k → B ≤ k) : Below B a b :=
  ⟨h.os, h.tape, h.output, h.size, fun k hk => h.block k (by omega) (fun e => by have := hS k e; omega)⟩
theorem Fr.cell {S : Nat → Prop} {a b : World} (h : Fr S a b) {p : Addr} {v : Value} (hp : a.cell? p = some v) (hS : ¬ S p.block) : b.cell? p = some v := by
  rw [World.cell?_of_block (h.block p.block (World.block_lt_of_cell? _ _ hp) hS)]; exact hp
theorem Fr.blk {S : Nat → Prop} {a b : World} (h : Fr S a b) {g : Nat} {t : TypeId} {cs : Array Value} (hp : Blk a g t cs) (hS : ¬ S g) : Blk b g t cs := (h.block g hp.lt hS).trans hp
theorem Fr.own {S : Nat → Prop} {a b : World} (h : Fr S a b) {base e size n : Nat} {v : Value} {xs : List Value} (ho : a.ownsRow base e size v n xs) (hS : ∀ g, v.ownBlock = some g → ¬ S g) : b.ownsRow base e size v n xs := by
  obtain ⟨h1, h2⟩ := ho
  refine ⟨h1, ?_⟩
  rcases h2 with h2 | ⟨g, cap, cur, rfl, h3, h4, h5⟩
  · exact .inl h2
  · exact .inr ⟨g, cap, cur, rfl, h3, (h.block g (Array.getElem?_eq_some_iff.1 h4).1 (hS g rfl)).trans h4, h5⟩
theorem Fr.rd {S : Nat → Prop} {a b : World} (h : Fr S a b) {A : Option Addr} {n : Nat} {xs : List Value} (hr : Rd a A n xs) (hS : ∀ ad, A = some ad → ¬ S ad.block) : Rd b A n xs :=
  ⟨hr.1, fun k hk => by
    obtain ⟨ad, u, h1, h2, h3, h4⟩ := hr.2 k hk
    exact ⟨ad, u, h1, Nat.lt_of_lt_of_le h2 h.size, h3, h.cell h4 (by rw [add_block]; exact hS ad h1)⟩⟩
end Go.Lt
namespace Go.Proofs.Ytcjoohaagdihlaa.Kept
open Go.RowKit Go.Shelf Go.Lt Go.Proofs.Ytcjoohaagdihlaa.Lit Go.Proofs.Ytcjoohaagdihlaa.CubeHas Go.Proofs.Ytcjoohaagdihlaa.Cube
set_option linter.unusedVariables false
set_option linter.unusedSimpArgs false

theorem add0 (g k : Nat) : (⟨g, 0, none⟩ : Addr).add k = ⟨g, k, none⟩ := by unfold Addr.add; split <;> simp_all
theorem encK_set : ∀ (M : List Kv) (i : Nat) (x : Kv), i < M.length → (((encK M).set (i * 3) x.c.val).set (i * 3 + 1) (.int .i64 x.d)).set (i * 3 + 2) x.i.val = encK (M.set i x)
  | [], i, x, h => absurd h (Nat.not_lt_zero _)
  | y :: M, 0, x, h => rfl
  | y :: M, i + 1, x, h => by
    have ih := encK_set M i x (by simpa using h)
    rw [show (i + 1) * 3 = i * 3 + 1 + 1 + 1 by omega]
    rw [show encK (y :: M) = y.c.val :: .int .i64 y.d :: y.i.val :: encK M from rfl]
    simp only [List.set_cons_succ]
    rw [show encK (y :: M.set i x) = y.c.val :: .int .i64 y.d :: y.i.val :: encK (M.set i x) from rfl, ← ih]
/-- those that are not struck, of the first j -/
def kept (p : Nat → Bool) (L : List Kv) (j : Nat) : List Kv := ((List.range j).filter fun q => !p q).map (kvAt L)
theorem kept_yes {p : Nat → Bool} {L : List Kv} {j : Nat} (h : p j = false) : kept p L (j + 1) = kept p L j ++ [kvAt L j] := by
  unfold kept; rw [List.range_succ, List.filter_append, List.map_append]; simp [h]
theorem kept_no {p : Nat → Bool} {L : List Kv} {j : Nat} (h : p j = true) : kept p L (j + 1) = kept p L j := by
  unfold kept; rw [List.range_succ, List.filter_append, List.map_append]; simp [h]
theorem kept_len (p : Nat → Bool) (L : List Kv) (j : Nat) : (kept p L j).length ≤ j := by
  unfold kept; rw [List.length_map]; exact Nat.le_trans (List.length_filter_le _ _) (by simp)
theorem kept_all {p : Nat → Bool} {L : List Kv} : ∀ {j : Nat}, j ≤ L.length → (∀ q, q < j → p q = false) → kept p L j = L.take j
  | 0, _, _ => rfl
  | j + 1, hj, h => by
    rw [kept_yes (h j (by omega)), kept_all (by omega) (fun q hq => h q (by omega)), List.take_add_one, List.getElem?_eq_getElem (by omega)]
    simp [kvAt, List.getD, show j < L.length by omega]
theorem kept_mem {p : Nat → Bool} {L : List Kv} {j : Nat} (hj : j ≤ L.length) {x : Kv} (h : x ∈ kept p L j) : x ∈ L := by
  obtain ⟨q, hq, rfl⟩ := List.mem_map.1 h
  have : q < j := List.mem_range.1 (List.mem_filter.1 hq).1
  unfold kvAt
  rw [List.getD_eq_getElem?_getD, List.getElem?_eq_getElem (show q < L.length by omega)]
  exact List.getElem_mem _
theorem take_set_end (M : List Kv) (i : Nat) (x : Kv) (h : i < M.length) : (M.set i x).take (i + 1) = M.take i ++ [x] := by
  rw [List.take_add_one, List.getElem?_set_self h, List.take_set_of_le (Nat.le_refl _)]; rfl
/-- the rest of a row is cleared -/
theorem run_clear_own {w : World} {base g cap m i ty c : Nat} {M : List Kv} (h : w.ownsRow base 66 3 (.slice (some ⟨g, 0, none⟩) m cap) m (encK M)) (hi : i ≤ m) :
    ∃ w', (Builtin.clear_ #[58] ty #[.slice (some ⟨g, i * 3, none⟩) (m - i) c]).run Try.prog w = .ok (.tuple #[]) w' ∧ w'.ownsRow base 66 3 (.slice (some ⟨g, 0, none⟩) i cap) i (encK (M.take i)) ∧ w.grownBy w' (some g) := by
  have hpre : (encK M).take (i * 3) = encK (M.take i) := by
    have h1 : encK M = encK (M.take i) ++ encK (M.drop i) := by rw [← encK_app, List.take_append_drop]
    have hl : M.length = m := by have := h.1; rw [encK_len] at this; omega
    rw [h1, List.take_append_of_le_length (by rw [encK_len, List.length_take]; omega), List.take_of_length_le (by rw [encK_len, List.length_take]; omega)]
  have hl : M.length = m := by have := h.1; rw [encK_len] at this; omega
  obtain ⟨h1, h2⟩ := h
  rcases h2 with ⟨h3, _⟩ | ⟨g', cap', cur, hv, hbg, hg, hn, hm, hs, ht⟩
  · cases h3
  · injection hv with e1 _ e3
    injection e1 with e1
    injection e1 with e1 _ _
    subst e1 e3
    have hz : ∀ w : World, (zeroValue 66).run Try.prog w = .ok (.agg #[.slice none 0 0, .int .i64 0, .slice none 0 0]) w := fun w => by
      simp
    have hht : cur.toList.take (i * 3) = encK (M.take i) := by
      rw [← hpre, ← ht, List.take_take, Nat.min_eq_left (by omega)]
    rcases Nat.eq_zero_or_pos (m - i) with h0 | h0
    · have hu := run_underlying (P := Try.prog) (t := 58) (d := .slice 66) (by kernel_rfl)
      refine ⟨w, ?_, ⟨by rw [encK_len, List.length_take]; omega, .inr ⟨g, cap, cur, rfl, hbg, hg, by omega, hm, hs, hht⟩⟩, World.grownBy.refl _ _⟩
      rw [h0]
      simp [Builtin.clear_, hu]
    · have hu := run_underlying (P := Try.prog) (t := 58) (d := .slice 66) (by kernel_rfl)
      obtain ⟨zs, hzs⟩ : ∃ zs, (Builtin.zeroCells (Value.cells (.agg #[.slice none 0 0, .int .i64 0, .slice none 0 0])) (m - i)).toList = zs := ⟨_, rfl⟩
      have hzl : zs.length = (m - i) * 3 := by rw [← hzs]; simp [Builtin.zeroCells, Value.cells]
      have hz1 : ∀ v ∈ zs, v.oneCell' = true := by
        intro v hv
        rw [← hzs] at hv
        simp only [Builtin.zeroCells, Value.cells] at hv
        simp at hv
        obtain ⟨a, ha⟩ := hv
        have h3 : a % 3 = 0 ∨ a % 3 = 1 ∨ a % 3 = 2 := by omega
        rcases h3 with h3 | h3 | h3 <;> simp [h3] at ha <;> obtain ⟨_, rfl⟩ := ha <;> rfl
      have hst := run_storeCells_at Try.prog g (i * 3) 66 zs 0 cur w hg (by rw [hzl]; omega) hz1
      obtain ⟨new, hnew⟩ : ∃ new, (cur.toList.take (i * 3 + 0) ++ zs ++ cur.toList.drop (i * 3 + 0 + zs.length)).toArray = new := ⟨_, rfl⟩
      rw [hnew] at hst
      obtain ⟨q, hq⟩ : ∃ q, m - i = q + 1 := ⟨m - i - 1, by omega⟩
      refine ⟨w.setRow g new, ?_, ⟨by rw [encK_len, List.length_take]; omega, .inr ⟨g, cap, new, rfl, hbg, setRow_heap w g cur _ _ _ hg, by omega, hm, ?_, ?_⟩⟩, ⟨rfl, rfl, rfl, by simp, fun k _ hk => setRow_other w g k _ (fun e => hk (by simp [e]))⟩⟩
      · rw [hq] at hzs ⊢
        simp [Builtin.clear_, hu, hz, hzs, hst]
      · rw [← hnew]; simp [hzl]; omega
      · rw [← hnew]
        simp only [List.append_assoc, Nat.add_zero]
        rw [List.take_append_of_le_length (by simp; omega), List.take_take, Nat.min_self]
        exact hht
end Go.Proofs.Ytcjoohaagdihlaa.Kept
