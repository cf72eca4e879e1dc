/- Texts behind a row, one behind the other: Store7, Store8, Trail1. -/
import Derived.Test.YtcjoohaagdihlaaWK9
import Derived.Laws.CopyRow
import Derived.Test.YtcjoohaagdihlaaWK8
section
/- Deleting from a row of kept cubes, in place, by a function. -/
namespace Go.Proofs.Ytcjoohaagdihlaa.Kept
open Go.RowKit Go.Shelf Go.Lt Go.Proofs.Ytcjoohaagdihlaa.Lit Go.Proofs.Ytcjoohaagdihlaa.CubeHas Go.Proofs.Ytcjoohaagdihlaa.Cube
set_option linter.unusedVariables false
set_option linter.unusedSimpArgs false

/-- what the closure tells: no lesser depth, and covered -/
def strikes (dep : Int) (n : List Int) (k : Kc) : Bool := decide (k.d ≥ dep) && covB n k.c
set_option maxRecDepth 8000 in
set_option maxHeartbeats 2000000 in
theorem store_strikes (x : Kv) (k : Kc) (dep : Int) (a b : Nat) (s : Sl) (n : List Int) (w : World) (ha : w.cell? ⟨a, 0, none⟩ = some (.int .i64 dep)) (hb : w.cell? ⟨b, 0, none⟩ = some s.val) (hs : Rd w s.A s.n (ivs n)) (hsn : n.length ≤ 1000000) (hk : KvR w x k) (hkn : k.c.length ≤ 1000000) :
    Calls Try.prog 104 #[.agg x.cells, .pointer (some ⟨a, 0, none⟩), .pointer (some ⟨b, 0, none⟩)] w fun e w' => e = .returned (.bool (strikes dep n k)) ∧ Below w.heap.size w w' := by
  have hd := hk.d
  have hkl : k.c.length = x.c.n := hk.c.len
  have hnl : n.length = s.n := hs.len
  have hla := World.block_lt_of_cell? _ _ ha
  have hlb := World.block_lt_of_cell? _ _ hb
  have hbs := (Below.refl w.heap.size w).alloc (Nat.le_refl _) (.cells x.cells 66)
  have hcv := cube_Covers s.A x.c.A s.n x.c.n s.c x.c.c n k.c (w.alloc (.cells x.cells 66)) (by omega) (by omega) (hs.below hbs (Nat.le_refl _)) (hk.c.below hbs (Nat.le_refl _))
  have bX := Blk.new w 66 x.cells
  have c0 : (w.alloc (.cells x.cells 66)).cell? ⟨w.heap.size, 0, none⟩ = some (.slice x.c.A x.c.n x.c.c) := bX.cell 0
  have c1 : (w.alloc (.cells x.cells 66)).cell? ⟨w.heap.size, 1, none⟩ = some (.int .i64 x.d) := bX.cell 1
  have ha := keepCell hbs ha
  have hb := keepCell hbs hb
  unfold strikes
  rw [← hd]
  clear hd hk bX hs
  obtain ⟨W1, hW1⟩ : ∃ W1, (w.alloc (.cells x.cells 66)) = W1 := ⟨_, rfl⟩
  rw [hW1] at hbs hcv c0 c1 ha hb
  by_cases hge : x.d ≥ dep
  · have hd1 : decide (x.d ≥ dep) = true := decide_eq_true hge
    rw [hd1]
    have hge2 : dep ≤ x.d := hge
    cases hc : covB n k.c <;> rw [hc] at hcv
    all_goals
      clear hc
      go_enter Try.func104, Try.ntmps104
      go_wp2_with (go_at_call 102; refine hcv.mono ?_; rintro e w' ⟨rfl, rfl⟩)
      go_ret
      exact ⟨rfl, hbs⟩
  · have hd1 : decide (x.d ≥ dep) = false := decide_eq_false hge
    rw [hd1]
    have hge2 : ¬ dep ≤ x.d := hge
    clear hcv
    go_enter Try.func104, Try.ntmps104
    go_wp2
    go_ret
    exact ⟨rfl, hbs⟩
def IdxIs (p : Nat → Bool) (m : Nat) (w : World) (e : Ending) (w' : World) : Prop :=
  (e = .returned (.int .i64 (-1)) ∧ (∀ j, j < m → p j = false) ∧ Below w.heap.size w w') ∨ (∃ k : Nat, k < m ∧ e = .returned (.int .i64 k) ∧ p k = true ∧ (∀ j, j < k → p j = false) ∧ Below w.heap.size w w')
set_option maxRecDepth 8000 in
set_option maxHeartbeats 2000000 in
theorem idx_fn (A : Option Addr) (c : Nat) (L : List Kv) (p : Nat → Bool) (f1 f2 : Value) (w : World) (hr : RdK w A L.length L) (hm : L.length ≤ 1000000)
    (hp : ∀ W, Below w.heap.size w W → ∀ j, j < L.length → Calls Try.prog 104 #[.agg (kvAt L j).cells, f1, f2] W fun e W' => e = .returned (.bool (p j)) ∧ Below W.heap.size W W') :
    Calls Try.prog 135 #[.slice A L.length c, .func (.func 104) #[] #[f1, f2]] w (IdxIs p L.length w) := by
  have hmI : (L.length : Int) ≤ 1000000 := by omega
  go_enter Try.func135, Try.ntmps135
  go_wp2
  go_loopw [8] (fun i wr => ∃ k : Nat, k ≤ L.length ∧ i = .int .i64 k ∧ Below w.heap.size w wr ∧ Hid (∀ j, j < k → p j = false)) (fun i _ => L.length - (intOf i).toNat)
  case atStart => exact ⟨0, Nat.zero_le _, rfl, Below.refl _ _, hide (fun j hj => absurd hj (Nat.not_lt_zero _))⟩
  case round =>
    obtain ⟨k, hk, rfl, hb, hno⟩ := hrel
    by_cases hlt : k < L.length
    · have hltI : (k : Int) < L.length := by omega
      obtain ⟨ad, x, rfl, hB, hx, c0, c1, c2⟩ := hr.get hlt
      have hx' : kvAt L k = x := by unfold kvAt; rw [List.getD_eq_getElem?_getD, hx]; rfl
      have c0 := (hb.cell (p := ad.add (k * 3)) (by rw [add_block]; exact hB)).trans c0
      have c1 := (hb.cell (p := ⟨(ad.add (k * 3)).block, (ad.add (k * 3)).off + 1, none⟩) (by rw [add_block]; exact hB)).trans c1
      have c2 := (hb.cell (p := ⟨(ad.add (k * 3)).block, (ad.add (k * 3)).off + 2, none⟩) (by rw [add_block]; exact hB)).trans c2
      have hcall := hp wr hb k hlt
      rw [hx'] at hcall
      clear hx hx'
      cases hpk : p k with
      | true =>
        have HP := hide hpk
        rw [hpk] at hcall
        clear hpk
        go_wp2_with (go_at_call 104; refine hcall.mono ?_; rintro e w2 ⟨rfl, hb2⟩)
        go_ret
        exact .inr ⟨k, hlt, rfl, HP.out, hno.out, hb.trans (hb2.mono hb.size)⟩
      | false =>
        have HP := hide hpk
        rw [hpk] at hcall
        clear hpk
        go_wp2_with (go_at_call 104; refine hcall.mono ?_; rintro e w2 ⟨rfl, hb2⟩)
        go_roundw
        case rel => exact ⟨k + 1, by omega, by simp, hb.trans (hb2.mono hb.size), hide (fun j hj => by
          by_cases h1 : j = k
          · rw [h1]; exact HP.out
          · exact hno.out j (by omega))⟩
        case measure => simp [intOf]; omega
    · obtain rfl : k = L.length := by omega
      go_wp2
      go_ret
      exact .inl ⟨rfl, hno.out, hb⟩
end Go.Proofs.Ytcjoohaagdihlaa.Kept
end

section
/- Deleting from a row of kept cubes, in place, by a function: the row is cut to those that are not struck. -/
namespace Go.Lt
open Go.RowKit
/-- all lies as it lay, but for these blocks -/
structure Fr (S : Nat → Prop) (w w' : World) : Prop where
  os : w'.os = w.os
  tape : w'.tape = w.tape
  output : w'.output = w.output
  size : w.heap.size ≤ w'.heap.size
  block : ∀ k, k < w.heap.size → ¬ S k → w'.heap[k]? = w.heap[k]?
theorem Fr.refl (S : Nat → Prop) (w : World) : Fr S w w := ⟨rfl, rfl, rfl, Nat.le_refl _, fun _ _ _ => rfl⟩
theorem Fr.of_below {S : Nat → Prop} {w w' : World} (h : Below w.heap.size w w') : Fr S w w' := ⟨h.os, h.tape, h.output, h.size, fun k hk _ => h.block k hk⟩
theorem Fr.of_grown {S : Nat → Prop} {w w' : World} {row : Option Nat} (h : w.grownBy w' row) (hr : ∀ k, row = some k → S k ∨ w.heap.size ≤ k) : Fr S w w' :=
  ⟨h.os, h.tape, h.output, h.size, fun k hk hS => h.block k hk (fun e => by rcases hr k e.symm with h1 | h1; exact hS h1; omega)⟩
theorem Fr.trans {S : Nat → Prop} {a b c : World} (h : Fr S a b) (k : Fr S b c) : Fr S a c :=
  ⟨k.os.trans h.os, k.tape.trans h.tape, k.output.trans h.output, Nat.le_trans h.size k.size, fun i hi hS => (k.block i (Nat.lt_of_lt_of_le hi h.size) hS).trans (h.block i hi hS)⟩
theorem Fr.more {S S' : Nat → Prop} {a b : World} (h : Fr S a b) (hs : ∀ k, k < a.heap.size → S k → S' k) : Fr S' a b := ⟨h.os, h.tape, h.output, h.size, fun k hk hn => h.block k hk (fun e => hn (hs k hk e))⟩
/-- behind: what is turned may have been new -/
theorem Fr.then {S S' : Nat → Prop} {a b c : World} (h : Fr S a b) (k : Fr S' b c) (hs : ∀ i, i < a.heap.size → S' i → S i) : Fr S a c :=
  ⟨k.os.trans h.os, k.tape.trans h.tape, k.output.trans h.output, Nat.le_trans h.size k.size, fun i hi hS => (k.block i (Nat.lt_of_lt_of_le hi h.size) (fun e => hS (hs i hi e))).trans (h.block i hi hS)⟩
theorem Fr.below {S : Nat → Prop} {a b : World} {B : Nat} (h : Fr S a b) (hB : B ≤ a.heap.size) (hS : ∀ k, S k → B ≤ k) : Below B a b :=
  ⟨h.os, h.tape, h.output, h.size, fun k hk => h.block k (by omega) (fun e => by have := hS k e; omega)⟩
theorem Fr.cell {S : Nat → Prop} {a b : World} (h : Fr S a b) {p : Addr} {v : Value} (hp : a.cell? p = some v) (hS : ¬ S p.block) : b.cell? p = some v := by
  rw [World.cell?_of_block (h.block p.block (World.block_lt_of_cell? _ _ hp) hS)]; exact hp
theorem Fr.blk {S : Nat → Prop} {a b : World} (h : Fr S a b) {g : Nat} {t : TypeId} {cs : Array Value} (hp : Blk a g t cs) (hS : ¬ S g) : Blk b g t cs := (h.block g hp.lt hS).trans hp
theorem Fr.own {S : Nat → Prop} {a b : World} (h : Fr S a b) {base e size n : Nat} {v : Value} {xs : List Value} (ho : a.ownsRow base e size v n xs) (hS : ∀ g, v.ownBlock = some g → ¬ S g) : b.ownsRow base e size v n xs := by
  obtain ⟨h1, h2⟩ := ho
  refine ⟨h1, ?_⟩
  rcases h2 with h2 | ⟨g, cap, cur, rfl, h3, h4, h5⟩
  · exact .inl h2
  · exact .inr ⟨g, cap, cur, rfl, h3, (h.block g (Array.getElem?_eq_some_iff.1 h4).1 (hS g rfl)).trans h4, h5⟩
theorem Fr.rd {S : Nat → Prop} {a b : World} (h : Fr S a b) {A : Option Addr} {n : Nat} {xs : List Value} (hr : Rd a A n xs) (hS : ∀ ad, A = some ad → ¬ S ad.block) : Rd b A n xs :=
  ⟨hr.1, fun k hk => by
    obtain ⟨ad, u, h1, h2, h3, h4⟩ := hr.2 k hk
    exact ⟨ad, u, h1, Nat.lt_of_lt_of_le h2 h.size, h3, h.cell h4 (by rw [add_block]; exact hS ad h1)⟩⟩
end Go.Lt
namespace Go.Proofs.Ytcjoohaagdihlaa.Kept
open Go.RowKit Go.Shelf Go.Lt Go.Proofs.Ytcjoohaagdihlaa.Lit Go.Proofs.Ytcjoohaagdihlaa.CubeHas Go.Proofs.Ytcjoohaagdihlaa.Cube
set_option linter.unusedVariables false
set_option linter.unusedSimpArgs false

theorem add0 (g k : Nat) : (⟨g, 0, none⟩ : Addr).add k = ⟨g, k, none⟩ := by unfold Addr.add; split <;> simp_all
theorem encK_set : ∀ (M : List Kv) (i : Nat) (x : Kv), i < M.length → (((encK M).set (i * 3) x.c.val).set (i * 3 + 1) (.int .i64 x.d)).set (i * 3 + 2) x.i.val = encK (M.set i x)
  | [], i, x, h => absurd h (Nat.not_lt_zero _)
  | y :: M, 0, x, h => rfl
  | y :: M, i + 1, x, h => by
    have ih := encK_set M i x (by simpa using h)
    rw [show (i + 1) * 3 = i * 3 + 1 + 1 + 1 by omega]
    rw [show encK (y :: M) = y.c.val :: .int .i64 y.d :: y.i.val :: encK M from rfl]
    simp only [List.set_cons_succ]
    rw [show encK (y :: M.set i x) = y.c.val :: .int .i64 y.d :: y.i.val :: encK (M.set i x) from rfl, ← ih]
/-- those that are not struck, of the first j -/
def kept (p : Nat → Bool) (L : List Kv) (j : Nat) : List Kv := ((List.range j).filter fun q => !p q).map (kvAt L)
theorem kept_yes {p : Nat → Bool} {L : List Kv} {j : Nat} (h : p j = false) : kept p L (j + 1) = kept p L j ++ [kvAt L j] := by
  unfold kept; rw [List.range_succ, List.filter_append, List.map_append]; simp [h]
theorem kept_no {p : Nat → Bool} {L : List Kv} {j : Nat} (h : p j = true) : kept p L (j + 1) = kept p L j := by
  unfold kept; rw [List.range_succ, List.filter_append, List.map_append]; simp [h]
theorem kept_len (p : Nat → Bool) (L : List Kv) (j : Nat) : (kept p L j).length ≤ j := by
  unfold kept; rw [List.length_map]; exact Nat.le_trans (List.length_filter_le _ _) (by simp)
theorem kept_all {p : Nat → Bool} {L : List Kv} : ∀ {j : Nat}, j ≤ L.length → (∀ q, q < j → p q = false) → kept p L j = L.take j
  | 0, _, _ => rfl
  | j + 1, hj, h => by
    rw [kept_yes (h j (by omega)), kept_all (by omega) (fun q hq => h q (by omega)), List.take_add_one, List.getElem?_eq_getElem (by omega)]
    simp [kvAt, List.getD, show j < L.length by omega]
theorem kept_mem {p : Nat → Bool} {L : List Kv} {j : Nat} (hj : j ≤ L.length) {x : Kv} (h : x ∈ kept p L j) : x ∈ L := by
  obtain ⟨q, hq, rfl⟩ := List.mem_map.1 h
  have : q < j := List.mem_range.1 (List.mem_filter.1 hq).1
  unfold kvAt
  rw [List.getD_eq_getElem?_getD, List.getElem?_eq_getElem (show q < L.length by omega)]
  exact List.getElem_mem _
theorem take_set_end (M : List Kv) (i : Nat) (x : Kv) (h : i < M.length) : (M.set i x).take (i + 1) = M.take i ++ [x] := by
  rw [List.take_add_one, List.getElem?_set_self h, List.take_set_of_le (Nat.le_refl _)]; rfl
/-- the rest of a row is cleared -/
theorem run_clear_own {w : World} {base g cap m i ty c : Nat} {M : List Kv} (h : w.ownsRow base 66 3 (.slice (some ⟨g, 0, none⟩) m cap) m (encK M)) (hi : i ≤ m) :
    ∃ w', (Builtin.clear_ #[58] ty #[.slice (some ⟨g, i * 3, none⟩) (m - i) c]).run Try.prog w = .ok (.tuple #[]) w' ∧ w'.ownsRow base 66 3 (.slice (some ⟨g, 0, none⟩) i cap) i (encK (M.take i)) ∧ w.grownBy w' (some g) := by
  have hpre : (encK M).take (i * 3) = encK (M.take i) := by
    have h1 : encK M = encK (M.take i) ++ encK (M.drop i) := by rw [← encK_app, List.take_append_drop]
    have hl : M.length = m := by have := h.1; rw [encK_len] at this; omega
    rw [h1, List.take_append_of_le_length (by rw [encK_len, List.length_take]; omega), List.take_of_length_le (by rw [encK_len, List.length_take]; omega)]
  have hl : M.length = m := by have := h.1; rw [encK_len] at this; omega
  obtain ⟨h1, h2⟩ := h
  rcases h2 with ⟨h3, _⟩ | ⟨g', cap', cur, hv, hbg, hg, hn, hm, hs, ht⟩
  · cases h3
  · injection hv with e1 _ e3
    injection e1 with e1
    injection e1 with e1 _ _
    subst e1 e3
    have hz : ∀ w : World, (zeroValue 66).run Try.prog w = .ok (.agg #[.slice none 0 0, .int .i64 0, .slice none 0 0]) w := fun w => by
      simp
    have hht : cur.toList.take (i * 3) = encK (M.take i) := by
      rw [← hpre, ← ht, List.take_take, Nat.min_eq_left (by omega)]
    rcases Nat.eq_zero_or_pos (m - i) with h0 | h0
    · have hu := run_underlying (P := Try.prog) (t := 58) (d := .slice 66) (by kernel_rfl)
      refine ⟨w, ?_, ⟨by rw [encK_len, List.length_take]; omega, .inr ⟨g, cap, cur, rfl, hbg, hg, by omega, hm, hs, hht⟩⟩, World.grownBy.refl _ _⟩
      rw [h0]
      simp [Builtin.clear_, hu]
    · have hu := run_underlying (P := Try.prog) (t := 58) (d := .slice 66) (by kernel_rfl)
      obtain ⟨zs, hzs⟩ : ∃ zs, (Builtin.zeroCells (Value.cells (.agg #[.slice none 0 0, .int .i64 0, .slice none 0 0])) (m - i)).toList = zs := ⟨_, rfl⟩
      have hzl : zs.length = (m - i) * 3 := by rw [← hzs]; simp [Builtin.zeroCells, Value.cells]
      have hz1 : ∀ v ∈ zs, v.oneCell' = true := by
        intro v hv
        rw [← hzs] at hv
        simp only [Builtin.zeroCells, Value.cells] at hv
        simp at hv
        obtain ⟨a, ha⟩ := hv
        have h3 : a % 3 = 0 ∨ a % 3 = 1 ∨ a % 3 = 2 := by omega
        rcases h3 with h3 | h3 | h3 <;> simp [h3] at ha <;> obtain ⟨_, rfl⟩ := ha <;> rfl
      have hst := run_storeCells_at Try.prog g (i * 3) 66 zs 0 cur w hg (by rw [hzl]; omega) hz1
      obtain ⟨new, hnew⟩ : ∃ new, (cur.toList.take (i * 3 + 0) ++ zs ++ cur.toList.drop (i * 3 + 0 + zs.length)).toArray = new := ⟨_, rfl⟩
      rw [hnew] at hst
      obtain ⟨q, hq⟩ : ∃ q, m - i = q + 1 := ⟨m - i - 1, by omega⟩
      refine ⟨w.setRow g new, ?_, ⟨by rw [encK_len, List.length_take]; omega, .inr ⟨g, cap, new, rfl, hbg, setRow_heap w g cur _ _ _ hg, by omega, hm, ?_, ?_⟩⟩, ⟨rfl, rfl, rfl, by simp, fun k _ hk => setRow_other w g k _ (fun e => hk (by simp [e]))⟩⟩
      · rw [hq] at hzs ⊢
        simp [Builtin.clear_, hu, hz, hzs, hst]
      · rw [← hnew]; simp [hzl]; omega
      · rw [← hnew]
        simp only [List.append_assoc, Nat.add_zero]
        rw [List.take_append_of_le_length (by simp; omega), List.take_take, Nat.min_self]
        exact hht
end Go.Proofs.Ytcjoohaagdihlaa.Kept
end

section
/- The program's trail in memory, and what is asked of it. -/
namespace Go.Proofs.Ytcjoohaagdihlaa.Watch
open Go.RowKit Go.Lt Go.Proofs.Ytcjoohaagdihlaa.Lit Go.Proofs.Ytcjoohaagdihlaa.Sorted Go.Proofs.Ytcjoohaagdihlaa.Learn
set_option linter.unusedVariables false
set_option linter.unusedSimpArgs false

/-- what is known of a variable: level, why, place -/
structure Mk where
  lev : Int
  why : Int
  place : Int
def zMk : Mk := ⟨0, 0, 0⟩
def encM (m : Mk) : List Value := [.int .i64 m.lev, .int .i64 m.why, .int .i64 m.place]
theorem encM_len (l : List Mk) : (l.flatMap encM).length = l.length * 3 := flat_len encM 3 (fun _ => rfl) l
theorem encM_get (l : List Mk) (k : Nat) (m : Mk) (h : l[k]? = some m) : (l.flatMap encM)[k * 3]? = some (.int .i64 m.lev) ∧ (l.flatMap encM)[k * 3 + 1]? = some (.int .i64 m.why) ∧ (l.flatMap encM)[k * 3 + 2]? = some (.int .i64 m.place) := by
  refine ⟨?_, ?_, ?_⟩
  · rw [flat_get encM 3 (fun _ => rfl) (by omega), show k * 3 / 3 = k by omega, show k * 3 % 3 = 0 by omega, h]; rfl
  · rw [flat_get encM 3 (fun _ => rfl) (by omega), show (k * 3 + 1) / 3 = k by omega, show (k * 3 + 1) % 3 = 1 by omega, h]; rfl
  · rw [flat_get encM 3 (fun _ => rfl) (by omega), show (k * 3 + 2) / 3 = k by omega, show (k * 3 + 2) % 3 = 2 by omega, h]; rfl
/-- a trail in memory: all at the first level -/
structure TrM (base : Nat) (W : World) (p gv gm N : Nat) (lv : Value) (vals : List Int) (mk : List Mk) (ls : List Int) : Prop where
  box : Blk W p 134 #[.slice (some ⟨gv, 0, none⟩) N N, .slice (some ⟨gm, 0, none⟩) N N, lv, .slice none 0 0]
  vals_ : Blk W gv 3 (ivs vals).toArray
  marks : Blk W gm 136 (mk.flatMap encM).toArray
  vl : vals.length = N
  ml : mk.length = N
  list : W.ownsRow base 3 1 lv ls.length (ivs ls)
  ne : some gv ≠ lv.ownBlock
  bp : base ≤ p
  bv : base ≤ gv
  bm : base ≤ gm
section
variable {base : Nat} {W W' : World} {p gv gm N : Nat} {lv : Value} {vals : List Int} {mk : List Mk} {ls : List Int}
theorem blk_ne {W : World} {g h : Nat} {t u : TypeId} {a b : Array Value} (x : Blk W g t a) (y : Blk W h u b) (hne : t ≠ u) : g ≠ h := fun e => by
  subst e
  unfold Blk at x y
  rw [x] at y
  injection y with y
  injection y with _ y _
  exact hne y
theorem TrM.keep (h : TrM base W p gv gm N lv vals mk ls) (hb : Below W.heap.size W W') : TrM base W' p gv gm N lv vals mk ls :=
  ⟨h.box.below hb h.box.lt, h.vals_.below hb h.vals_.lt, h.marks.below hb h.marks.lt, h.vl, h.ml, own_keep h.list hb, h.ne, h.bp, h.bv, h.bm⟩
theorem TrM.rd (h : TrM base W p gv gm N lv vals mk ls) : Rd W (some ⟨gv, 0, none⟩) N (ivs vals) := by
  refine ⟨by rw [show (ivs vals).length = vals.length by simp [ivs]]; exact h.vl, fun k hk => ?_⟩
  have hkl : k < (ivs vals).length := by rw [show (ivs vals).length = vals.length by simp [ivs], h.vl]; exact hk
  refine ⟨_, (ivs vals)[k], rfl, h.vals_.lt, List.getElem?_eq_getElem hkl, ?_⟩
  have : (⟨gv, 0, none⟩ : Addr).add k = ⟨gv, k, none⟩ := by unfold Addr.add; split <;> simp_all
  rw [this, h.vals_.cell k]
  simp [hkl]
theorem trail_Value (h : TrM base W p gv gm N lv vals mk ls) (hN : N ≤ 10000000) (x : Int) :
    Calls Try.prog 110 #[.pointer (some ⟨p, 0, none⟩), .int .i64 x] W fun e w' => e = .returned (.int .i64 (litV vals x)) ∧ W = w' := by
  have b0 := h.box.cell 0
  have HL := hide (tri_Lit (some ⟨gv, 0, none⟩) N N vals x W hN h.rd)
  clear h
  go_enter Try.func110, Try.ntmps110
  go_wp2_with (go_at_call 137; refine HL.out.mono ?_; rintro e w' ⟨rfl, rfl⟩)
  go_ret
  exact ⟨rfl, rfl⟩
theorem trail_Len (h : TrM base W p gv gm N lv vals mk ls) :
    Calls Try.prog 62 #[.pointer (some ⟨p, 0, none⟩)] W fun e w' => e = .returned (.int .i64 ls.length) ∧ W = w' := by
  obtain ⟨A2, c2, rfl, _, _, _⟩ := Rd.of_own h.list
  have b0 := h.box.cell 2
  clear h
  go_enter Try.func62, Try.ntmps62
  go_wp2
  go_ret
  exact ⟨rfl, rfl⟩
theorem trail_Level (h : TrM base W p gv gm N lv vals mk ls) :
    Calls Try.prog 120 #[.pointer (some ⟨p, 0, none⟩)] W fun e w' => e = .returned (.int .i64 0) ∧ W = w' := by
  have b0 := h.box.cell 3
  clear h
  go_enter Try.func120, Try.ntmps120
  go_wp2
  go_ret
  exact ⟨rfl, rfl⟩
theorem trail_List (h : TrM base W p gv gm N lv vals mk ls) (hl : ls.length ≤ 1000000) :
    Calls Try.prog 118 #[.pointer (some ⟨p, 0, none⟩)] W fun e w' => ∃ A c, e = .returned (.slice A ls.length c) ∧ Rd w' A ls.length (ivs ls) ∧ Below W.heap.size W w' := by
  obtain ⟨A2, c2, rfl, _, _, hr⟩ := Rd.of_own h.list
  have b0 := h.box.cell 2
  have HC := hide (slices_Clone A2 ls.length c2 ls W hl hr)
  clear h hr
  go_enter Try.func118, Try.ntmps118
  go_wp2_with fail
  refine HC.out.mono ?_
  rintro e w2 ⟨v, rfl, hown, hb⟩
  obtain ⟨A3, c3, rfl, _, _, hr3⟩ := Rd.of_own hown
  clear hown
  replace hb := hide hb
  replace hr3 := hide hr3
  go_wp2
  go_ret
  exact ⟨A3, c3, rfl, hr3.out, hb.out⟩
theorem trail_of (h : TrM base W p gv gm N lv vals mk ls) (hN : N ≤ 10000000) {k : Nat} {a : Int} {m : Mk} (ha : vals[k]? = some a) (h2 : a ≠ 2) (hm : mk[k]? = some m) :
    Calls Try.prog 138 #[.pointer (some ⟨p, 0, none⟩), .int .i64 k] W fun e w' => e = .returned (.agg #[.int .i64 m.lev, .int .i64 m.why, .int .i64 m.place]) ∧ Below W.heap.size W w' := by
  have hkN : k < N := by rw [← h.vl]; exact (List.getElem?_eq_some_iff.1 ha).1
  have hkI : (k : Int) < N := by omega
  have hNI : (N : Int) ≤ 10000000 := by omega
  obtain ⟨lev, why, place⟩ := m
  obtain ⟨m0, m1, m2⟩ := encM_get mk k _ hm
  have hb0 := (Below.refl W.heap.size W).alloc (Nat.le_refl _) (.cells #[.int .i64 0, .int .i64 0, .int .i64 0] 136)
  have bX := Blk.new W 136 #[.int .i64 0, .int .i64 0, .int .i64 0]
  obtain ⟨W1, hW1⟩ : ∃ W1, W.alloc (.cells #[.int .i64 0, .int .i64 0, .int .i64 0] 136) = W1 := ⟨_, rfl⟩
  rw [hW1] at hb0 bX
  have b0 := (h.box.below hb0 h.box.lt).cell 0
  have b1 := (h.box.below hb0 h.box.lt).cell 1
  have cv : W1.cell? ⟨gv, k, none⟩ = some (.int .i64 a) := by
    rw [(h.vals_.below hb0 h.vals_.lt).cell k]
    simp [ivs, ha]
  have cm := (h.marks.below hb0 h.marks.lt)
  have c0 : W1.cell? ⟨gm, k * 3, none⟩ = some (.int .i64 lev) := by rw [cm.cell]; simpa using m0
  have c1 : W1.cell? ⟨gm, k * 3 + 1, none⟩ = some (.int .i64 why) := by rw [cm.cell]; simpa using m1
  have c2 : W1.cell? ⟨gm, k * 3 + 2, none⟩ = some (.int .i64 place) := by rw [cm.cell]; simpa using m2
  have e2 : (a == 2) = false := by simp [h2]
  have e3 : decide ((k : Int) < 0) = false := decide_eq_false (by omega)
  have e4 : decide ((N : Int) ≤ k) = false := decide_eq_false (by omega)
  have s1 := bX.set_ 0 (.int .i64 lev)
  have s2 := s1.set_ 1 (.int .i64 why)
  have s3 := s2.set_ 2 (.int .i64 place)
  have f0 := bX.frozen 0
  have x0 : W1.cell? ⟨W.heap.size, 0, none⟩ = some (.int .i64 0) := bX.cell 0
  have f1 := s1.frozen 1
  have x1 : (W1.setCell ⟨W.heap.size, 0, none⟩ (.int .i64 lev)).cell? ⟨W.heap.size, 1, none⟩ = some (.int .i64 0) := s1.cell 1
  have f2 := s2.frozen 2
  have x2 : ((W1.setCell ⟨W.heap.size, 0, none⟩ (.int .i64 lev)).setCell ⟨W.heap.size, 1, none⟩ (.int .i64 why)).cell? ⟨W.heap.size, 2, none⟩ = some (.int .i64 0) := s2.cell 2
  have y0 : (((W1.setCell ⟨W.heap.size, 0, none⟩ (.int .i64 lev)).setCell ⟨W.heap.size, 1, none⟩ (.int .i64 why)).setCell ⟨W.heap.size, 2, none⟩ (.int .i64 place)).cell? ⟨W.heap.size, 0, none⟩ = some (.int .i64 lev) := s3.cell 0
  have y1 : (((W1.setCell ⟨W.heap.size, 0, none⟩ (.int .i64 lev)).setCell ⟨W.heap.size, 1, none⟩ (.int .i64 why)).setCell ⟨W.heap.size, 2, none⟩ (.int .i64 place)).cell? ⟨W.heap.size, 1, none⟩ = some (.int .i64 why) := s3.cell 1
  have y2 : (((W1.setCell ⟨W.heap.size, 0, none⟩ (.int .i64 lev)).setCell ⟨W.heap.size, 1, none⟩ (.int .i64 why)).setCell ⟨W.heap.size, 2, none⟩ (.int .i64 place)).cell? ⟨W.heap.size, 2, none⟩ = some (.int .i64 place) := s3.cell 2
  have hbN := hide (((hb0.setCell (p := ⟨W.heap.size, 0, none⟩) (Nat.le_refl _) (.int .i64 lev)).setCell (p := ⟨W.heap.size, 1, none⟩) (Nat.le_refl _) (.int .i64 why)).setCell (p := ⟨W.heap.size, 2, none⟩) (Nat.le_refl _) (.int .i64 place))
  clear bX s1 s2 s3
  replace hb0 := hide hb0
  clear h cm m0 m1 m2 ha hm h2
  go_enter Try.func138, Try.ntmps138
  go_wp2
  refine bodyPost_ret (v := .agg #[.int .i64 lev, .int .i64 why, .int .i64 place]) (by simp [results, Try.results138, go_sem, y0, y1, y2]) rfl ?_
  exact ⟨rfl, hbN.out⟩
set_option maxRecDepth 8000 in
theorem trail_Why (h : TrM base W p gv gm N lv vals mk ls) (hN : N ≤ 10000000) {k : Nat} {a : Int} {m : Mk} (ha : vals[k]? = some a) (h2 : a ≠ 2) (hm : mk[k]? = some m) :
    Calls Try.prog 111 #[.pointer (some ⟨p, 0, none⟩), .int .i64 k] W fun e w' => e = .returned (.int .i64 m.why) ∧ Below W.heap.size W w' := by
  have HO := hide (trail_of h hN ha h2 hm)
  obtain ⟨lev, why, place⟩ := m
  have hfd : ∀ W' : World, (Instr.field 136 (.agg #[.int .i64 lev, .int .i64 why, .int .i64 place]) 1).run Try.prog W' = .ok (.int .i64 why) W' := fun _ => by kernel_rfl
  clear h ha hm h2
  go_enter Try.func111, Try.ntmps111
  go_wp2_with fail
  refine HO.out.mono ?_
  rintro e w2 ⟨rfl, hb⟩
  replace hb := hide hb
  go_wp2
  go_ret
  exact ⟨rfl, hb.out⟩
set_option maxRecDepth 8000 in
theorem trail_Place (h : TrM base W p gv gm N lv vals mk ls) (hN : N ≤ 10000000) {k : Nat} {a : Int} {m : Mk} (ha : vals[k]? = some a) (h2 : a ≠ 2) (hm : mk[k]? = some m) :
    Calls Try.prog 145 #[.pointer (some ⟨p, 0, none⟩), .int .i64 k] W fun e w' => e = .returned (.int .i64 m.place) ∧ Below W.heap.size W w' := by
  have HO := hide (trail_of h hN ha h2 hm)
  obtain ⟨lev, why, place⟩ := m
  have hfd : ∀ W' : World, (Instr.field 136 (.agg #[.int .i64 lev, .int .i64 why, .int .i64 place]) 2).run Try.prog W' = .ok (.int .i64 place) W' := fun _ => by kernel_rfl
  clear h ha hm h2
  go_enter Try.func145, Try.ntmps145
  go_wp2_with fail
  refine HO.out.mono ?_
  rintro e w2 ⟨rfl, hb⟩
  replace hb := hide hb
  go_wp2
  go_ret
  exact ⟨rfl, hb.out⟩
end
end Go.Proofs.Ytcjoohaagdihlaa.Watch
end
