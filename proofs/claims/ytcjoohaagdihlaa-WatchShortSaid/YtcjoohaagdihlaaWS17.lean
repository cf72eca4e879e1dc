/- Texts behind a row, one behind the other: WatchP, WatchK1, Sorted3, Tied1. -/
import Derived.Test.YtcjoohaagdihlaaWS16
import Derived.Test.YtcjoohaagdihlaaWS1
import Derived.Test.YtcjoohaagdihlaaWS2
import Derived.Test.YtcjoohaagdihlaaWS14
section
/- Which clauses are kept, as lists: the plain law of WatchKeeps. No program in sight. -/
namespace Go.Proofs.Ytcjoohaagdihlaa.Watch
open Go.RowKit Go.Lt Go.Proofs.Ytcjoohaagdihlaa.Lit Go.Proofs.Ytcjoohaagdihlaa.Sorted Go.Proofs.Ytcjoohaagdihlaa.Learn
open Go.Proofs.Ytcjoohaagdihlaa.Kept (Sl Sl.val)
set_option linter.unusedVariables false
set_option linter.unusedSimpArgs false

/-- whether a number's clause is kept -/
def keptB (is : List Bool) (id : Int) : Bool := decide (0 ≤ id) && is.getD id.toNat false
/-- the numbers of what is kept among the first ones -/
def idsP (is : List Bool) (k : Nat) : List Int := ((List.range k).filter fun i => is.getD i false).map fun i : Nat => (i : Int)
/-- a number's clause -/
def clP (rows : List (List Int)) (is : List Bool) (id : Int) : List Int := if keptB is id = true then rows.getD id.toNat [] else []
/-- what is kept when a number is dropped -/
def dropP (is : List Bool) (id : Int) : List Bool := if keptB is id = true then is.set id.toNat false else is
theorem ids_zero (is : List Bool) : idsP is 0 = [] := rfl
theorem ids_succ (is : List Bool) (k : Nat) : idsP is (k + 1) = if is.getD k false = true then idsP is k ++ [(k : Int)] else idsP is k := by
  unfold idsP
  rw [List.range_succ, List.filter_append, List.map_append]
  by_cases h : is.getD k false = true
  · rw [if_pos h]; simp only [List.filter_cons, h, if_true, List.filter_nil, List.map_cons, List.map_nil]
  · rw [if_neg h]; simp only [List.filter_cons, h, List.filter_nil, List.map_nil, List.append_nil]; simp
theorem ids_rise (is : List Bool) (k : Nat) : Rise (idsP is k) := by
  unfold idsP Rise
  rw [List.pairwise_map]
  exact (List.pairwise_lt_range.sublist List.filter_sublist).imp (fun h => by omega)
theorem ids_len (is : List Bool) (k : Nat) : (idsP is k).length ≤ k := by
  unfold idsP
  rw [List.length_map]
  have := List.length_filter_le (fun i => is.getD i false) (List.range k)
  rwa [List.length_range] at this
theorem ids_mem {is : List Bool} {x : Int} : x ∈ idsP is is.length ↔ keptB is x = true := by
  unfold idsP keptB
  rw [List.mem_map, Bool.and_eq_true, decide_eq_true_eq]
  constructor
  · rintro ⟨i, hi, rfl⟩
    rw [List.mem_filter] at hi
    exact ⟨by omega, by rw [Int.toNat_natCast]; exact hi.2⟩
  · rintro ⟨h0, h1⟩
    refine ⟨x.toNat, ?_, by omega⟩
    rw [List.mem_filter, List.mem_range]
    refine ⟨Nat.lt_of_not_le fun h => ?_, h1⟩
    rw [List.getD_eq_getElem?_getD, List.getElem?_eq_none h] at h1
    cases h1
theorem kept_lt {is : List Bool} {x : Int} (h : keptB is x = true) : 0 ≤ x ∧ x.toNat < is.length ∧ x < is.length := by
  unfold keptB at h
  rw [Bool.and_eq_true, decide_eq_true_eq] at h
  have : x.toNat < is.length := Nat.lt_of_not_le fun hl => by
    have h1 := h.2
    rw [List.getD_eq_getElem?_getD, List.getElem?_eq_none hl] at h1
    cases h1
  exact ⟨h.1, this, by omega⟩
theorem kept_at {is : List Bool} {x : Int} (h : keptB is x = true) : is[x.toNat]? = some true := by
  obtain ⟨_, h1, _⟩ := kept_lt h
  unfold keptB at h
  rw [Bool.and_eq_true] at h
  have h2 := h.2
  rw [List.getD_eq_getElem?_getD, List.getElem?_eq_getElem h1] at h2
  rw [List.getElem?_eq_getElem h1]
  exact congrArg some h2
theorem kept_not {is : List Bool} {x : Int} (h : keptB is x = false) (h0 : 0 ≤ x) (h1 : x < is.length) : is[x.toNat]? = some false := by
  have h2 : x.toNat < is.length := by omega
  unfold keptB at h
  rw [decide_eq_true h0, Bool.true_and, List.getD_eq_getElem?_getD, List.getElem?_eq_getElem h2] at h
  rw [List.getElem?_eq_getElem h2]
  exact congrArg some h
theorem kept_add (is : List Bool) (x : Int) : keptB (is ++ [true]) x = (keptB is x || decide (x = is.length)) := by
  unfold keptB
  by_cases h0 : 0 ≤ x
  · rw [decide_eq_true h0, Bool.true_and, Bool.true_and, List.getD_eq_getElem?_getD, List.getD_eq_getElem?_getD]
    by_cases h1 : x.toNat < is.length
    · rw [List.getElem?_append_left h1, decide_eq_false (show ¬ x = (is.length : Int) by omega), Bool.or_false]
    · rw [List.getElem?_append_right (by omega), List.getElem?_eq_none (show is.length ≤ x.toNat by omega)]
      by_cases h2 : x = (is.length : Int)
      · rw [decide_eq_true h2, show x.toNat - is.length = 0 by omega]; rfl
      · rw [decide_eq_false h2, List.getElem?_eq_none (by simp; omega)]; rfl
  · rw [decide_eq_false h0, decide_eq_false (show ¬ x = (is.length : Int) by omega)]; rfl
theorem kept_new (is : List Bool) : keptB is (is.length : Int) = false := by
  cases h : keptB is (is.length : Int) with
  | false => rfl
  | true => have := (kept_lt h).2.2; omega
theorem drop_len (is : List Bool) (id : Int) : (dropP is id).length = is.length := by unfold dropP; split <;> simp
theorem kept_drop (is : List Bool) (id x : Int) : keptB (dropP is id) x = (keptB is x && !decide (x = id)) := by
  unfold dropP
  by_cases hk : keptB is id = true
  · rw [if_pos hk]
    obtain ⟨a, b, c⟩ := kept_lt hk
    by_cases hx : x = id
    · subst hx
      rw [hk, decide_eq_true rfl]
      unfold keptB
      rw [decide_eq_true a, List.getD_eq_getElem?_getD, List.getElem?_set_self b]
      rfl
    · rw [decide_eq_false hx]
      unfold keptB
      by_cases h0 : 0 ≤ x
      · rw [List.getD_eq_getElem?_getD, List.getD_eq_getElem?_getD, List.getElem?_set_ne (by omega)]; simp
      · rw [decide_eq_false h0]; simp
  · rw [if_neg hk]
    by_cases hx : x = id
    · subst hx
      cases h : keptB is x with
      | true => exact absurd h hk
      | false => rfl
    · rw [decide_eq_false hx]; simp
theorem mget_keys (l : List (Int × Value)) (x : Int) : x ∈ l.map (·.1) ↔ (mget l x).isSome = true := by
  induction l with
  | nil => simp [mget]
  | cons a l ih =>
    obtain ⟨k, v⟩ := a
    by_cases h : k = x
    · subst h; simp [mget]
    · simp only [List.map_cons, List.mem_cons, mget, if_neg h]
      rw [← ih]
      constructor
      · rintro (e | e)
        · exact absurd e.symm h
        · exact e
      · exact .inr
theorem find_of_get {l : List (Int × Value)} {x : Int} {i : Nat} (h : mget l x = none) : mfind l x i = none := by
  have := mfind_get l x i
  rw [h] at this
  cases hm : mfind l x i with
  | none => rfl
  | some p => rw [hm] at this; cases this
/-- a map's keys are the numbers of what is kept -/
def KeysAre (l : List (Int × Value)) (is : List Bool) : Prop := ∀ x, (mget l x).isSome = keptB is x
theorem KeysAre.sorted {l : List (Int × Value)} {is : List Bool} (h : KeysAre l is) : srt (l.map (·.1)) = idsP is is.length :=
  rise_one (srt_rise _) (ids_rise _ _) (fun y => by rw [srt_mem, mget_keys, h y, ids_mem])
theorem rise_nodup {l : List Int} (h : Rise l) : l.Nodup := h.imp (fun h => by omega)
theorem KeysAre.len {l : List (Int × Value)} {is : List Bool} (h : KeysAre l is) (hn : (l.map (·.1)).Nodup) : l.length = (idsP is is.length).length := by
  have hp : List.Perm (l.map (·.1)) (idsP is is.length) := (List.perm_ext_iff_of_nodup hn (rise_nodup (ids_rise _ _))).2 (fun x => by rw [mget_keys, h x, ids_mem])
  have := hp.length_eq
  rwa [List.length_map] at this
theorem KeysAre.nil : KeysAre [] [] := fun x => by unfold keptB; simp [mget]
theorem KeysAre.add {l : List (Int × Value)} {is : List Bool} (h : KeysAre l is) (v : Value) : KeysAre (mput l (is.length : Int) v) (is ++ [true]) := fun x => by
  rw [mget_mput, kept_add, ← h x]
  by_cases e : (is.length : Int) = x
  · rw [if_pos e, decide_eq_true e.symm]; simp
  · rw [if_neg e, decide_eq_false (fun h => e h.symm), Bool.or_false]
theorem KeysAre.drop {l : List (Int × Value)} {is : List Bool} (h : KeysAre l is) (id : Int) : KeysAre (mdel l id) (dropP is id) := fun x => by
  rw [mget_mdel, kept_drop, ← h x]
  by_cases e : id = x
  · rw [if_pos e, decide_eq_true e.symm]; simp
  · rw [if_neg e, decide_eq_false (fun h => e h.symm)]; simp
theorem KeysAre.no {l : List (Int × Value)} {is : List Bool} (h : KeysAre l is) {x : Int} (hx : keptB is x = false) : mget l x = none := by
  have := h x
  rw [hx] at this
  exact Option.isNone_iff_eq_none.1 (by cases hm : mget l x <;> simp_all)
end Go.Proofs.Ytcjoohaagdihlaa.Watch
end

section
/- The program's store of clauses: New of a number that may not be, Drop, Clause, List and Len. -/
namespace Go.Proofs.Ytcjoohaagdihlaa.Watch
open Go.RowKit Go.Lt Go.Proofs.Ytcjoohaagdihlaa.Lit Go.Proofs.Ytcjoohaagdihlaa.Sorted Go.Proofs.Ytcjoohaagdihlaa.Learn Go.Instr
open Go.Proofs.Ytcjoohaagdihlaa.Kept (Sl Sl.val)
set_option linter.unusedVariables false
set_option linter.unusedSimpArgs false

theorem watch_NewNil (n : Int) (hn : ¬ (0 ≤ n ∧ n ≤ 1048576)) (w : World) : Calls Try.prog 55 #[.int .i64 n] w fun e w' => e = .returned (.pointer none) ∧ Dr w w' := by
  by_cases h0 : n < 0
  · have e1 : decide (n < 0) = true := decide_eq_true h0
    replace hn := hide hn
    go_enter Try.func55, Try.ntmps55
    go_wp2
    go_ret
    exact ⟨rfl, Dr.refl _⟩
  · have e1 : decide (n < 0) = false := decide_eq_false h0
    have e2 : True → decide (1048576 < n) = true := fun _ => decide_eq_true (by omega)
    replace hn := hide hn
    go_enter Try.func55, Try.ntmps55
    go_wp2
    go_ret
    exact ⟨rfl, Dr.refl _⟩
/-- a clause in memory that lies in no block that is turned -/
def KpS (W : World) (T : Nat → Prop) (s : Sl) (row : List Int) : Prop :=
  Rd W s.A s.n (ivs row) ∧ (s.n ≠ 0 → ∀ ad, s.A = some ad → ¬ T ad.block)
theorem KpS.keep {W W' : World} {T : Nat → Prop} {s : Sl} {row : List Int} (h : KpS W T s row) (hb : Below W.heap.size W W') : KpS W' T s row := ⟨h.1.below hb (Nat.le_refl _), h.2⟩
theorem KpS.len {W : World} {T : Nat → Prop} {s : Sl} {row : List Int} (h : KpS W T s row) : row.length = s.n := h.1.len
theorem KpS.fr {S T : Nat → Prop} {W W' : World} {s : Sl} {row : List Int} (h : KpS W T s row) (hf : Fr S W W') (hS : ∀ g, S g → T g) : KpS W' T s row := by
  refine ⟨?_, h.2⟩
  obtain ⟨A, n, c⟩ := s
  obtain ⟨h1, h2⟩ := h
  by_cases hn : n = 0
  · subst hn
    have : ivs row = [] := List.eq_nil_of_length_eq_zero h1.1
    rw [this]
    exact Rd.nil _ _
  · exact hf.rd h1 (fun ad he e => h2 hn ad he (hS _ e))
theorem KpS.more {W : World} {T T' : Nat → Prop} {s : Sl} {row : List Int} (h : KpS W T s row) (hv : ∀ g, T' g → T g ∨ W.heap.size ≤ g) : KpS W T' s row := by
  refine ⟨h.1, fun hn ad he e => ?_⟩
  rcases hv _ e with e | e
  · exact h.2 hn ad he e
  · obtain ⟨ad2, he2, hl⟩ := h.1.addr (Nat.pos_of_ne_zero hn)
    rw [he] at he2
    injection he2 with he2
    subst he2
    omega
/-- the store in memory, and what it keeps -/
structure KeM (base lo : Nat) (T : Nat → Prop) (W : World) (p mA mN mS mB : Nat) (n : Int) (fv : Value) (al nl sl bl : List (Int × Value)) (fr : List Int) (rows : List (List Int)) (is : List Bool) : Prop where
  st : StM base W p mA mN mS mB n (rows.length : Int) fv al nl sl bl fr
  ka : KeysAre al is
  va : ∀ x v, mget al x = some v → ∃ b : Nat, v = .pointer (some ⟨b, 0, none⟩)
  kn : KeysAre nl is
  vn : ∀ x v, mget nl x = some v → ∃ s : Sl, v = s.val ∧ KpS W T s (rows.getD x.toNat [])
  il : is.length = rows.length
  fl : fr.length ≤ rows.length
  lt : p < lo ∧ mA < lo ∧ mN < lo ∧ mS < lo ∧ mB < lo
  tl : ∀ g, g < lo → T g
  tf : ∀ g, fv.ownBlock = some g → T g
section
variable {base lo : Nat} {T : Nat → Prop} {W W' : World} {p mA mN mS mB : Nat} {n : Int} {fv : Value} {al nl sl bl : List (Int × Value)} {fr : List Int} {rows : List (List Int)} {is : List Bool}
theorem KeM.keep (h : KeM base lo T W p mA mN mS mB n fv al nl sl bl fr rows is) (hb : Below W.heap.size W W') : KeM base lo T W' p mA mN mS mB n fv al nl sl bl fr rows is :=
  ⟨h.st.keep hb, h.ka, h.va, h.kn, fun x v hx => let ⟨s, e, k⟩ := h.vn x v hx; ⟨s, e, k.keep hb⟩, h.il, h.fl, h.lt, h.tl, h.tf⟩
theorem StM.frm {next : Int} {S : Nat → Prop} (h : StM base W p mA mN mS mB n next fv al nl sl bl fr) (hf : Fr S W W') (h1 : ¬ S p) (h2 : ¬ S mA) (h3 : ¬ S mN) (h4 : ¬ S mS) (h5 : ¬ S mB) (h6 : ∀ g, fv.ownBlock = some g → ¬ S g) : StM base W' p mA mN mS mB n next fv al nl sl bl fr :=
  ⟨hf.blk h.box h1, map_fr h.all hf h2, map_fr h.norms hf h3, map_fr h.short hf h4, map_fr h.by_ hf h5, hf.own h.fresh h6, h.d1, h.lo⟩
theorem KeM.frm {S : Nat → Prop} (h : KeM base lo T W p mA mN mS mB n fv al nl sl bl fr rows is) (hf : Fr S W W') (hS : ∀ g, S g → T g ∧ lo ≤ g ∧ fv.ownBlock ≠ some g) : KeM base lo T W' p mA mN mS mB n fv al nl sl bl fr rows is := by
  obtain ⟨l1, l2, l3, l4, l5⟩ := h.lt
  exact ⟨h.st.frm hf (fun e => by have := (hS _ e).2.1; omega) (fun e => by have := (hS _ e).2.1; omega) (fun e => by have := (hS _ e).2.1; omega) (fun e => by have := (hS _ e).2.1; omega) (fun e => by have := (hS _ e).2.1; omega) (fun g hg e => (hS _ e).2.2 hg), h.ka, h.va, h.kn,
    fun x v hx => let ⟨s, e, k⟩ := h.vn x v hx; ⟨s, e, k.fr hf (fun g e => (hS g e).1)⟩, h.il, h.fl, h.lt, h.tl, h.tf⟩
theorem KeM.more {T' : Nat → Prop} (h : KeM base lo T W p mA mN mS mB n fv al nl sl bl fr rows is) (h1 : ∀ g, T g → T' g) (hv : ∀ g, T' g → T g ∨ W.heap.size ≤ g) : KeM base lo T' W p mA mN mS mB n fv al nl sl bl fr rows is :=
  ⟨h.st, h.ka, h.va, h.kn, fun x v hx => let ⟨s, e, k⟩ := h.vn x v hx; ⟨s, e, k.more hv⟩, h.il, h.fl, h.lt, fun g hg => h1 g (h.tl g hg), fun g hg => h1 g (h.tf g hg)⟩
theorem KeM.new (h : StM base W p mA mN mS mB n 0 (.slice none 0 0) [] [] [] [] []) (hlo : W.heap.size ≤ lo) : KeM base lo (fun g => g < lo) W p mA mN mS mB n (.slice none 0 0) [] [] [] [] [] [] [] := by
  refine ⟨h, KeysAre.nil, fun x v hx => by simp [mget] at hx, KeysAre.nil, fun x v hx => by simp [mget] at hx, rfl, Nat.le_refl _, ?_, fun g hg => hg, fun g hg => by simp [Value.ownBlock] at hg⟩
  have := h.box.lt; have := h.all.lt; have := h.norms.lt; have := h.short.lt; have := h.by_.lt
  omega
/-- what is kept is found -/
theorem KeM.find (h : KeM base lo T W p mA mN mS mB n fv al nl sl bl fr rows is) (id : Int) : ∃ s : Sl, (mget nl id).getD (.slice none 0 0) = s.val ∧ KpS W T s (clP rows is id) := by
  unfold clP
  cases hk : keptB is id with
  | false => rw [h.kn.no hk]; exact ⟨⟨none, 0, 0⟩, rfl, Rd.nil _ _, fun h => absurd rfl h⟩
  | true =>
    have := h.kn id
    rw [hk] at this
    obtain ⟨v, hv⟩ := Option.isSome_iff_exists.1 this
    obtain ⟨s, e, k⟩ := h.vn id v hv
    rw [hv, if_pos rfl]
    exact ⟨s, e, k⟩
set_option maxRecDepth 8000 in
theorem watch_Clause (h : KeM base lo T W p mA mN mS mB n fv al nl sl bl fr rows is) (hrow : ∀ r ∈ rows, r.length ≤ 1000) (id : Int) :
    Calls Try.prog 67 #[.pointer (some ⟨p, 0, none⟩), .int .i64 id] W fun e w' => ∃ A c, e = .returned (.slice A (clP rows is id).length c) ∧ Rd w' A (clP rows is id).length (ivs (clP rows is id)) ∧ Below W.heap.size W w' := by
  obtain ⟨⟨A, m, c⟩, hg, hk⟩ := h.find id
  have hm : m ≤ 1000000 := by
    have h1 := hk.len
    simp only at h1
    rw [← h1]
    unfold clP
    split
    · rename_i hk2
      have h2 := (kept_lt hk2).2.1
      rw [h.il] at h2
      have := hrow _ (List.getElem_mem h2)
      rw [List.getD_eq_getElem?_getD, List.getElem?_eq_getElem h2]
      simp only [Option.getD_some]
      omega
    · simp
  have hl := hk.len
  simp only at hl
  have k3 : W.cell? ⟨p, 3, none⟩ = some (.map (some mN)) := h.st.box.cell 3
  have HC := hide (slices_Clone A m c (clP rows is id) W hm hk.1)
  have hN := hide h.st.norms
  simp only [Sl.val] at hg
  rw [hl]
  clear h hk hl hrow
  go_enter Try.func67, Try.ntmps67
  go_wp2_with (first | (at_lookup; refine wpList_lookupO (keyLaw_int Try.underlying3) mapNU zero_sl rfl _ _ rfl hN.out.toO id (by rfl) (by rfl) ?_; rw [hg]) | (go_at_call 108; refine HC.out.mono ?_; rintro e w2 ⟨v, rfl, hown, hb⟩; obtain ⟨A3, c3, rfl, _, _, hr3⟩ := Rd.of_own hown; clear hown; replace hb := hide hb; replace hr3 := hide hr3))
  go_ret
  exact ⟨A3, c3, rfl, hr3.out, hb.out⟩
set_option maxRecDepth 8000 in
theorem watch_Len (h : KeM base lo T W p mA mN mS mB n fv al nl sl bl fr rows is) :
    Calls Try.prog 71 #[.pointer (some ⟨p, 0, none⟩)] W fun e w' => e = .returned (.int .i64 (idsP is is.length).length) ∧ W = w' := by
  have hl := h.ka.len h.st.all.keys
  have k2 : W.cell? ⟨p, 2, none⟩ = some (.map (some mA)) := h.st.box.cell 2
  have hlen := run_lenS mapAU h.st.all.toO 3
  rw [← hl]
  clear h hl
  go_enter Try.func71, Try.ntmps71
  go_wp2
  go_ret
  exact ⟨rfl, rfl⟩
set_option maxRecDepth 8000 in
theorem watch_List (h : KeM base lo T W p mA mN mS mB n fv al nl sl bl fr rows is) (hr : rows.length ≤ 1000) :
    Calls Try.prog 69 #[.pointer (some ⟨p, 0, none⟩)] W fun e w' => ∃ A c, e = .returned (.slice A (idsP is is.length).length c) ∧ Rd w' A (idsP is is.length).length (ivs (idsP is is.length)) ∧ Below W.heap.size W w' := by
  have hl := h.ka.len h.st.all.keys
  have hs := h.ka.sorted
  have hlen : al.length ≤ 1000 := by have := ids_len is is.length; have := h.il; omega
  have k2 : W.cell? ⟨p, 2, none⟩ = some (.map (some mA)) := h.st.box.cell 2
  have hbm := (Below.refl W.heap.size W).alloc (Nat.le_refl _) (.cells #[.map (some mA)] 128)
  have HS := hide (sorted_B (Bm := W.heap.size) (w := W.alloc (.cells #[.map (some mA)] 128)) (by simp) ((Blk.new W 128 #[.map (some mA)]).cell 0) (h.st.all.alloc _) (by omega))
  unfold SortedIs at HS
  rw [hs, List.length_map, hl] at HS
  replace hbm := hide hbm
  clear h hl hs
  go_enter Try.func69, Try.ntmps69
  go_wp2_with (first | (go_at_call 121; refine (keys_B (some mA) _).mono ?_; rintro e w' ⟨rfl, rfl⟩) | (go_at_call 114; refine HS.out.mono ?_; rintro e w2 ⟨v2, rfl, hown2, hb2⟩; obtain ⟨A2, c2, rfl, _, _, hr2⟩ := Rd.of_own hown2; replace hb2 := hide hb2; replace hr2 := hide hr2; clear hown2))
  go_ret
  exact ⟨A2, c2, rfl, hr2.out, hbm.out.trans (hb2.out.mono (by simp))⟩
/-- what Add comes to -/
def AddK (base lo : Nat) (T : Nat → Prop) (W : World) (p mA mN mS mB : Nat) (n : Int) (fv : Value) (al nl sl bl : List (Int × Value)) (fr : List Int) (rows : List (List Int)) (is : List Bool) (l : List Int) (e : Ending) (w' : World) : Prop :=
  ((okC l && fitC n l) = false ∧ e = .returned (.int .i64 (-1)) ∧ KeM base lo T w' p mA mN mS mB n fv al nl sl bl fr rows is ∧ Below W.heap.size W w') ∨
  ((okC l && fitC n l) = true ∧ e = .returned (.int .i64 rows.length) ∧ ∃ (fv' : Value) (al' nl' sl' : List (Int × Value)) (fr' : List Int), KeM base lo (fun g => T g ∨ fv'.ownBlock = some g) w' p mA mN mS mB n fv' al' nl' sl' bl fr' (rows ++ [normC l]) (is ++ [true]) ∧
    Below base W w' ∧ Fr (fun g => g < lo ∨ fv.ownBlock = some g) W w' ∧ (∀ g, fv'.ownBlock = some g → T g ∨ W.heap.size ≤ g))
theorem watch_AddK (h : KeM base lo T W p mA mN mS mB n fv al nl sl bl fr rows is) (hT : ∀ g, T g → g < W.heap.size) (hbase : base ≤ W.heap.size) (hn : 0 ≤ n ∧ n ≤ 1048576) (hrow : rows.length ≤ 1000)
    (A : Option Addr) (m c : Nat) (l : List Int) (hm : m ≤ 1000) (hr : Rd W A m (ivs l)) :
    Calls Try.prog 57 #[.pointer (some ⟨p, 0, none⟩), .slice A m c] W (AddK base lo T W p mA mN mS mB n fv al nl sl bl fr rows is l) := by
  have hnk : keptB is (rows.length : Int) = false := by rw [← h.il]; exact kept_new is
  refine (watch_Add2 h.st hbase hn (by omega) (by have := h.fl; omega) (find_of_get (h.ka.no hnk)) (find_of_get (h.kn.no hnk)) A m c l hm hr).mono ?_
  rintro e w' (⟨h1, h2, h3, h4⟩ | ⟨h1, h2, fv', s, sw, b, q1, q2, q3, q4, q5, q6, q7, q8, q9, q10, q11, q12⟩)
  · exact .inl ⟨h1, h2, h.keep h4, h4⟩
  · obtain ⟨l1, l2, l3, l4, l5⟩ := h.lt
    have hS : ∀ g, (g = p ∨ g = mA ∨ g = mN ∨ g = mS ∨ fv.ownBlock = some g) → g < lo ∨ fv.ownBlock = some g := by
      rintro g (e | e | e | e | e)
      · exact .inl (by omega)
      · exact .inl (by omega)
      · exact .inl (by omega)
      · exact .inl (by omega)
      · exact .inr e
    have hF : Fr (fun g => g < lo ∨ fv.ownBlock = some g) W w' := q9.more (fun g _ e => hS g e)
    have hfv : ∀ g, fv'.ownBlock = some g → T g ∨ W.heap.size ≤ g := fun g hg => (q10 g hg).imp (h.tf g) id
    have hil := h.il
    refine .inr ⟨h1, h2, fv', _, _, _, _, ⟨by rw [List.length_append]; exact q1, ?_, ?_, ?_, ?_, by rw [List.length_append, List.length_append, hil]; rfl, ?_, h.lt, fun g hg => .inl (h.tl g hg), fun g hg => .inr hg⟩, q8, hF, hfv⟩
    · have := h.ka.add (.pointer (some ⟨b, 0, none⟩)); rwa [hil] at this
    · intro x v hx
      rw [mget_mput] at hx
      by_cases e : (rows.length : Int) = x
      · rw [if_pos e] at hx; injection hx with hx; exact ⟨b, hx.symm⟩
      · rw [if_neg e] at hx; exact h.va x v hx
    · have := h.kn.add s.val; rwa [hil] at this
    · intro x v hx
      rw [mget_mput] at hx
      by_cases e : (rows.length : Int) = x
      · rw [if_pos e] at hx
        injection hx with hx
        subst e
        refine ⟨s, hx.symm, ?_, fun hn ad he => ?_⟩
        · rw [Int.toNat_natCast, List.getD_eq_getElem?_getD, List.getElem?_append_right (Nat.le_refl _), Nat.sub_self]
          exact q6
        · rintro (e | e)
          · have h7 := q7 ad he; have h8 := hT _ e; omega
          · exact q11 ad he e
      · rw [if_neg e] at hx
        obtain ⟨s0, e0, k0⟩ := h.vn x v hx
        have hx2 : keptB is x = true := by rw [← h.kn x, hx]; rfl
        obtain ⟨_, hlt, _⟩ := kept_lt hx2
        refine ⟨s0, e0, ?_⟩
        rw [List.getD_eq_getElem?_getD, List.getElem?_append_left (by omega), ← List.getD_eq_getElem?_getD]
        have k1 : KpS W (fun g => T g ∨ fv'.ownBlock = some g) s0 (rows.getD x.toNat []) := k0.more (fun g e => e.elim .inl (fun e => hfv g e))
        exact k1.fr hF (fun g e => .inl (e.elim (h.tl g) (h.tf g)))
    · have := h.fl
      split
      · rw [List.length_append]; omega
      · rw [List.length_append, List.length_append]
        show fr.length + 1 ≤ rows.length + 1
        omega
theorem drop_no {is : List Bool} {id : Int} (h : keptB is id = false) : dropP is id = is := by unfold dropP; rw [h]; rfl
set_option maxRecDepth 8000 in
theorem watch_DropK (h : KeM base lo T W p mA mN mS mB n fv al nl sl bl fr rows is) (hbase : base ≤ W.heap.size) (id : Int) :
    Calls Try.prog 65 #[.pointer (some ⟨p, 0, none⟩), .int .i64 id] W fun e w' => e = .returned (.bool (keptB is id)) ∧ ∃ al' nl' sl', KeM base lo T w' p mA mN mS mB n fv al' nl' sl' bl fr rows (dropP is id) ∧ Below base W w' ∧ Fr (fun g => g < lo) W w' := by
  have k2 : W.cell? ⟨p, 2, none⟩ = some (.map (some mA)) := h.st.box.cell 2
  have k3 : W.cell? ⟨p, 3, none⟩ = some (.map (some mN)) := h.st.box.cell 3
  have k4 : W.cell? ⟨p, 4, none⟩ = some (.map (some mS)) := h.st.box.cell 4
  cases hk : keptB is id with
  | false =>
    have hg : (mget al id).getD (.pointer none) = .pointer none := by rw [h.ka.no hk]; rfl
    have hlk : (Instr.lookup 128 (.map (some mA)) (.int .i64 id) false).run Try.prog W = .ok (.pointer none) W := by
      have := run_lookupO (keyLaw_int Try.underlying3) mapAU zero_pw h.st.all.toO id
      rw [hg] at this
      exact this
    have hF := hide h
    rw [drop_no hk]
    clear h hk k3 k4
    go_enter Try.func65, Try.ntmps65
    go_wp2
    go_ret
    exact ⟨rfl, _, _, _, hF.out, Below.refl _ _, Fr.refl _ _⟩
  | true =>
    have := h.ka id
    rw [hk] at this
    obtain ⟨v, hv⟩ := Option.isSome_iff_exists.1 this
    obtain ⟨b, rfl⟩ := h.va id v hv
    have hg : (mget al id).getD (.pointer none) = .pointer (some ⟨b, 0, none⟩) := by rw [hv]; rfl
    obtain ⟨d1, d2, d3, d4, d5, d6⟩ := h.st.d1
    obtain ⟨l1, l2, l3, l4, l5⟩ := h.lt
    have hA := hide h.st.all
    have hN := h.st.norms
    have hS := h.st.short
    have hX := h.st.box
    have hpA := map_blk h.st.all hX
    have hpN := map_blk hN hX
    have hpS := map_blk hS hX
    have hlk : (Instr.lookup 128 (.map (some mA)) (.int .i64 id) false).run Try.prog W = .ok (.pointer (some ⟨b, 0, none⟩)) W := by
      have := run_lookupO (keyLaw_int Try.underlying3) mapAU zero_pw h.st.all.toO id
      rw [hg] at this
      exact this
    have hbx := hide hX
    have hN0 := hide hN
    have hS0 := hide hS
    have hH := hide h
    clear h hX hN hS this hv
    obtain ⟨w1, r1, hm1, hg1, hz1⟩ := run_deleteS (keyLaw_int Try.underlying3) mapAU hA.out id 0
    have c3 : w1.cell? ⟨p, 3, none⟩ = some (.map (some mN)) := (hbx.out.grown hg1 (by simp; exact hpA)).cell 3
    obtain ⟨w2, r2, hm2, hg2, hz2⟩ := run_deleteS (keyLaw_int Try.underlying3) mapNU (hN0.out.grown hg1 (by simp; exact d1.symm)) id 0
    have c4 : w2.cell? ⟨p, 4, none⟩ = some (.map (some mS)) := ((hbx.out.grown hg1 (by simp; exact hpA)).grown hg2 (by simp; exact hpN)).cell 4
    obtain ⟨w3, r3, hm3, hg3, hz3⟩ := run_deleteS (keyLaw_int Try.underlying3) mapSU ((hS0.out.grown hg1 (by simp; exact d2.symm)).grown hg2 (by simp; exact d4.symm)) id 0
    unfold Lt.encI at r1 r2 r3
    replace hm1 := hide hm1
    replace hm2 := hide hm2
    replace hm3 := hide hm3
    replace hg1 := hide hg1
    replace hg2 := hide hg2
    replace hg3 := hide hg3
    clear hz1 hz2 hz3
    go_enter Try.func65, Try.ntmps65
    go_wp2
    go_ret
    have f1 : Fr (fun g => g < lo) W w1 := Fr.of_grown hg1.out (fun g e => .inl (by cases e; omega))
    have f2 : Fr (fun g => g < lo) w1 w2 := Fr.of_grown hg2.out (fun g e => .inl (by cases e; omega))
    have f3 : Fr (fun g => g < lo) w2 w3 := Fr.of_grown hg3.out (fun g e => .inl (by cases e; omega))
    have hF := (f1.trans f2).trans f3
    have g1 : Fr (fun g => g = mA) W w1 := Fr.of_grown hg1.out (fun g e => .inl (by cases e; rfl))
    have g2 : Fr (fun g => g = mN) w1 w2 := Fr.of_grown hg2.out (fun g e => .inl (by cases e; rfl))
    have g3 : Fr (fun g => g = mS) w2 w3 := Fr.of_grown hg3.out (fun g e => .inl (by cases e; rfl))
    have gG : Fr (fun g => g = mA ∨ g = mN ∨ g = mS) W w3 := ((g1.more (fun g _ e => .inl e)).trans (g2.more (fun g _ e => .inr (.inl e)))).trans (g3.more (fun g _ e => .inr (.inr e)))
    have hst := hH.out.st
    have hl := hst.lo
    have hfr : ∀ g, fv.ownBlock = some g → ¬ (g = mA ∨ g = mN ∨ g = mS) := fun g hg e => e.elim (fun e => own_map_ne hst.fresh hst.all (by rw [hg, e])) (fun e => e.elim (fun e => own_map_ne hst.fresh hst.norms (by rw [hg, e])) (fun e => own_map_ne hst.fresh hst.short (by rw [hg, e])))
    refine ⟨rfl, _, _, _, ⟨⟨gG.blk hbx.out (fun e => e.elim hpA (fun e => e.elim hpN hpS)), (hm1.out.grown hg2.out (by simp; exact d1)).grown hg3.out (by simp; exact d2), hm2.out.grown hg3.out (by simp; exact d4), hm3.out, map_fr hst.by_ gG (fun e => e.elim (fun e => d3 e.symm) (fun e => e.elim (fun e => d5 e.symm) (fun e => d6 e.symm))), gG.own hst.fresh hfr, ⟨d1, d2, d3, d4, d5, d6⟩, hl⟩, hH.out.ka.drop id, fun x v hx => ?_, hH.out.kn.drop id, fun x v hx => ?_, by rw [drop_len]; exact hH.out.il, hH.out.fl, ⟨l1, l2, l3, l4, l5⟩, hH.out.tl, hH.out.tf⟩, gG.below hbase (fun g e => by rcases e with e | e | e <;> omega), hF⟩
    · rw [mget_mdel] at hx
      by_cases e : id = x
      · rw [if_pos e] at hx; cases hx
      · rw [if_neg e] at hx; exact hH.out.va x v hx
    · rw [mget_mdel] at hx
      by_cases e : id = x
      · rw [if_pos e] at hx; cases hx
      · rw [if_neg e] at hx
        obtain ⟨s, e2, k⟩ := hH.out.vn x v hx
        exact ⟨s, e2, k.fr hF hH.out.tl⟩
end
end Go.Proofs.Ytcjoohaagdihlaa.Watch
end

section
/- The contract of the document's Sorted. -/
namespace Go.Proofs.Ytcjoohaagdihlaa.Sorted
open Go.RowKit Go.Lt Go.Proofs.Ytcjoohaagdihlaa.Lit
set_option linter.unusedVariables false
set_option linter.unusedSimpArgs false

theorem info_i3 : (Try.prog.info? 3).map (fun i => (i.zero, i.size, i.bytes)) = some (some (.int .i64 0), 1, 8) := by kernel_rfl
theorem filt_yes {p : Int → Bool} {pr out : List Int} {q : Nat} {y : Int} (hy : out[q]? = some y) (hp : p y = true) :
    ivs (pr ++ (out.take (q + 1)).filter p) = ivs (pr ++ (out.take q).filter p) ++ [.int .i64 y] := by
  rw [List.take_add_one, hy, List.filter_append]
  unfold ivs
  simp [hp]
theorem filt_no {p : Int → Bool} {pr out : List Int} {q : Nat} {y : Int} (hy : out[q]? = some y) (hp : p y = false) :
    ivs (pr ++ (out.take (q + 1)).filter p) = ivs (pr ++ (out.take q).filter p) := by
  rw [List.take_add_one, hy, List.filter_append]
  simp [hp]
theorem srt_take {l : List Int} {k : Nat} {x : Int} (h : l[k]? = some x) : srt (l.take (k + 1)) = insO (srt (l.take k)) x := by
  rw [List.take_add_one, h]
  exact srt_snoc _ _

set_option maxHeartbeats 1000000 in
theorem ref_Sorted (A : Option Addr) (n c : Nat) (l : List Int) (w : World) (hn : n ≤ 1000) (hr : Rd w A n (ivs l)) :
    Calls Try.prog 90 #[.slice A n c] w fun e w' => ∃ A' n' c', e = .returned (.slice A' n' c') ∧ n' ≤ n ∧ Rd w' A' n' (ivs (srt l)) ∧ Below w.heap.size w w' := by
  have hnI : (n : Int) ≤ 1000 := by omega
  have hl := hide hr.len
  have HN := hide hn
  clear hn
  go_enter Try.func90, Try.ntmps90
  go_wp2
  go_loopw [3, 4] (fun v i wr => ∃ (k m : Nat) (A2 : Option Addr) (c2 : Nat), k ≤ n ∧ m ≤ k ∧ i = .int .i64 k ∧ v = .slice A2 m c2 ∧ Rd wr A2 m (ivs (srt (l.take k))) ∧ Below w.heap.size w wr) (fun _ i _ => n - (intOf i).toNat)
  case atStart => exact ⟨0, 0, _, _, Nat.zero_le _, Nat.le_refl _, rfl, rfl, Rd.nil _ _, (Below.refl _ _).alloc (Nat.le_refl _) _⟩
  case round =>
    obtain ⟨k, m, A2, c2, hk, hmk, rfl, rfl, hr2, hb⟩ := hrel
    have hmI : (m : Int) ≤ 1000 := by omega
    by_cases hlt : k < n
    · have hr1 := hr.below hb (Nat.le_refl _)
      obtain ⟨ad, x, rfl, hB, hx, hc⟩ := hr1.get hlt
      have HS := hide (srt_take hx)
      clear hx
      generalize hout : srt (l.take k) = out at *
      clear hout
      cases hh : hasB out x
      · have HI := hide (show insO out x = out.filter (· < x) ++ x :: out.filter (x < ·) by
          unfold insO; rw [if_neg]; intro h; rw [has_iff.2 h] at hh; cases hh)
        have hh := hide hh
        go_wp2_with fail
        refine (ref_Has _ _ _ out _ _ (by have := HN.out; omega) hr2).mono ?_
        rintro e w1 ⟨rfl, rfl⟩
        rw [hh.out]
        obtain ⟨wo, rfl⟩ : ∃ wo : World, wo = wr := ⟨_, rfl⟩
        go_wp2
        go_loopw [5, 6] (fun v j wr => ∃ q m2 : Nat, q ≤ m ∧ m2 ≤ q ∧ j = .int .i64 q ∧ wr.ownsRow wo.heap.size 3 1 v m2 (ivs ([] ++ (out.take q).filter (· < x))) ∧ Below wo.heap.size wo wr) (fun _ j _ => m - (intOf j).toNat)
        case atStart => exact ⟨0, 0, Nat.zero_le _, Nat.le_refl _, rfl, World.ownsRow_lit wo #[] 0 (Nat.le_refl _) (by unfold maxLen; omega) rfl, (Below.refl _ _).alloc (Nat.le_refl _) _⟩
        case round =>
          obtain ⟨q, m2, hq, hm2, rfl, hown, hb2⟩ := hrel
          by_cases hltq : q < m
          · have hcx : wr.cell? (ad.add k) = some (.int .i64 x) := (hb2.cell (by rw [add_block]; exact hB)).trans hc
            obtain ⟨ad2, y, rfl, hB2, hy, hc2⟩ := (hr2.below hb2 (Nat.le_refl _)).get hltq
            by_cases hyx : y < x
            · have HF := hide (filt_yes (p := (· < x)) (pr := []) hy (by simpa using hyx))
              clear hy
              go_wp2
              go_quiet (fail)
              go_wp2_with (at_builtin; refine wpList_push rfl _ _ _ rfl Try.underlying40 info_i3 rfl (by decide) rfl rfl (((Dr.refl _).more _).own hown) (hb2.trans (((Dr.refl _).more _).below _)) (Nat.le_refl _) rfl (by simp [Value.oneCell']) (by have := HN.out; unfold maxLen; omega) (by have := HN.out; omega) ?_; intro v1 w3 hown1 hb3)
              go_roundw
              case rel => exact ⟨q + 1, m2 + 1, hltq, by omega, by go_num, by rw [HF.out]; exact hown1, hb3⟩
              case measure => simp [intOf]; omega
            · have HF := hide (filt_no (p := (· < x)) (pr := []) hy (by simpa using hyx))
              have hd : decide (y < x) = false := by simpa using hyx
              clear hy
              go_wp2
              go_quiet (fail)
              go_wp2
              go_roundw
              case rel => exact ⟨q + 1, m2, hltq, by omega, by go_num, by rw [HF.out]; exact ((Dr.refl _).more _).own hown, hb2.trans (((Dr.refl _).more _).below _)⟩
              case measure => simp [intOf]; omega
          · have hqm : m = q := by omega
            subst hqm
            have hfull : out.take m = out := by rw [← hr2.len, List.take_length]
            rw [hfull, List.nil_append] at hown
            clear hfull hltq
            have hcx : wr.cell? (ad.add k) = some (.int .i64 x) := (hb2.cell (by rw [add_block]; exact hB)).trans hc
            go_wp2_with (at_builtin; refine wpList_push rfl _ _ _ rfl Try.underlying40 info_i3 rfl (by decide) rfl rfl hown hb2 (Nat.le_refl _) rfl (by simp [Value.oneCell']) (by have := HN.out; unfold maxLen; omega) (by have := HN.out; omega) ?_; intro v1 w3 hown1 hb3)
            have hown1 : w3.ownsRow wo.heap.size 3 1 v1 (m2 + 1) (ivs ((out.filter (· < x) ++ [x]) ++ (out.take 0).filter (x < ·))) := by
              rw [show ivs ((out.filter (· < x) ++ [x]) ++ (out.take 0).filter (x < ·)) = ivs (out.filter (· < x)) ++ [.int .i64 x] by unfold ivs; simp]; exact hown1
            have hI2 := hide (show insO out x = (out.filter (· < x) ++ [x]) ++ out.filter (x < ·) by rw [HI.out, List.append_assoc]; rfl)
            clear HI hown hcx hb2
            generalize out.filter (· < x) ++ [x] = pr at *
            have hm2' := hide hm2
            go_loopw [5, 7] (fun v j wr => ∃ q m3 : Nat, q ≤ m ∧ m3 ≤ m2 + 1 + q ∧ j = .int .i64 q ∧ wr.ownsRow wo.heap.size 3 1 v m3 (ivs (pr ++ (out.take q).filter (x < ·))) ∧ Below wo.heap.size wo wr) (fun _ j _ => m - (intOf j).toNat)
            case atStart => exact ⟨0, m2 + 1, Nat.zero_le _, Nat.le_refl _, rfl, hown1, hb3⟩
            case round =>
              obtain ⟨q, m3, hq, hm3, rfl, hown, hb2⟩ := hrel
              by_cases hltq : q < m
              · have hcx : wr.cell? (ad.add k) = some (.int .i64 x) := (hb2.cell (by rw [add_block]; exact hB)).trans hc
                obtain ⟨ad2, y, rfl, hB2, hy, hc2⟩ := (hr2.below hb2 (Nat.le_refl _)).get hltq
                by_cases hyx : x < y
                · have HF := hide (filt_yes (p := (x < ·)) (pr := pr) hy (by simpa using hyx))
                  clear hy
                  go_wp2
                  go_quiet (fail)
                  go_wp2_with (at_builtin; refine wpList_push rfl _ _ _ rfl Try.underlying40 info_i3 rfl (by decide) rfl rfl (((Dr.refl _).more _).own hown) (hb2.trans (((Dr.refl _).more _).below _)) (Nat.le_refl _) rfl (by simp [Value.oneCell']) (by have := HN.out; have := hm2'.out; unfold maxLen; omega) (by have := HN.out; have := hm2'.out; omega) ?_; intro v1 w4 hown1 hb4)
                  go_roundw
                  case rel => exact ⟨q + 1, m3 + 1, hltq, by omega, by go_num, by rw [HF.out]; exact hown1, hb4⟩
                  case measure => simp [intOf]; omega
                · have HF := hide (filt_no (p := (x < ·)) (pr := pr) hy (by simpa using hyx))
                  have hd : decide (x < y) = false := by simpa using hyx
                  clear hy
                  go_wp2
                  go_quiet (fail)
                  go_wp2
                  go_roundw
                  case rel => exact ⟨q + 1, m3, hltq, by omega, by go_num, by rw [HF.out]; exact ((Dr.refl _).more _).own hown, hb2.trans (((Dr.refl _).more _).below _)⟩
                  case measure => simp [intOf]; omega
              · have hqm : m = q := by omega
                subst hqm
                have hfull : out.take m = out := by rw [← hr2.len, List.take_length]
                rw [hfull, ← hI2.out, ← HS.out] at hown
                clear hfull hltq
                obtain ⟨A3, c3, rfl, _, _, hr3⟩ := Rd.of_own hown
                have hm3' := hide (show m3 ≤ k + 1 by have h1 := hr3.len; have h2 := srt_len (l.take (k + 1)); have h3 : (l.take (k + 1)).length ≤ k + 1 := List.length_take_le _ _; omega)
                clear hown hI2 HS
                go_wp2
                go_roundw
                case rel => exact ⟨k + 1, m3, A3, c3, hlt, hm3'.out, by go_num, rfl, hr3, hb.trans (hb2.mono hb.size)⟩
                case measure => simp [intOf]; omega
      · have HI := hide (show insO out x = out by unfold insO; rw [if_pos (has_iff.1 hh)])
        have hh := hide hh
        go_wp2_with fail
        refine (ref_Has _ _ _ out _ _ (by have := HN.out; omega) hr2).mono ?_
        rintro e w1 ⟨rfl, rfl⟩
        rw [hh.out]
        go_wp2
        go_roundw
        case rel => exact ⟨k + 1, m, A2, c2, hlt, by omega, by go_num, rfl, by rw [HS.out, HI.out]; exact hr2, hb⟩
        case measure => simp [intOf]; omega
    · have hkn : n = k := by omega
      subst hkn
      have hfull : l.take n = l := by rw [← hl.out, List.take_length]
      rw [hfull] at hr2
      go_wp2
      go_ret
      exact ⟨A2, m, c2, rfl, hmk, hr2, hb⟩
end Go.Proofs.Ytcjoohaagdihlaa.Sorted
end

section
/- The contract of the document's Tied. -/
namespace Go.Proofs.Ytcjoohaagdihlaa.Sorted
open Go.RowKit Go.Lt Go.Proofs.Ytcjoohaagdihlaa.Lit
set_option linter.unusedVariables false
set_option linter.unusedSimpArgs false

def tieAt (l : List Int) (x : Int) : Bool := litGood x && hasB l (litNot x)
theorem tied_all {l : List Int} (h : ∀ k : Nat, k < l.length → ∀ x, l[k]? = some x → tieAt l x = false) : tiedB l = false := by
  unfold tiedB
  rw [List.any_eq_false]
  intro x hx
  obtain ⟨i, hi⟩ := List.getElem?_of_mem hx
  have := h i (List.getElem?_eq_some_iff.1 hi).1 x hi
  unfold tieAt at this
  rw [this]; simp
theorem tied_one {l : List Int} {k : Nat} {x : Int} (hx : l[k]? = some x) (h : tieAt l x = true) : tiedB l = true := by
  unfold tiedB
  rw [List.any_eq_true]
  exact ⟨x, List.mem_of_getElem? hx, h⟩

theorem ref_Tied (A : Option Addr) (n c : Nat) (l : List Int) (w : World) (hn : n ≤ 1000000) (hr : Rd w A n (ivs l)) :
    Calls Try.prog 141 #[.slice A n c] w fun e w' => e = .returned (.bool (tiedB l)) ∧ w = w' := by
  have hl := hide hr.len
  go_enter Try.func141, Try.ntmps141
  go_wp2
  go_loop [3] (fun i => ∃ k : Nat, k ≤ n ∧ i = .int .i64 k ∧ Hid (∀ j : Nat, j < k → ∀ x, l[j]? = some x → tieAt l x = false)) (fun i => n - (intOf i).toNat)
  case atStart => exact ⟨0, Nat.zero_le _, rfl, fun j hj => absurd hj (Nat.not_lt_zero _)⟩
  case round =>
    obtain ⟨k, hk, rfl, hno⟩ := hrel
    by_cases hlt : k < n
    · obtain ⟨ad, x, rfl, hB, hx, hc⟩ := hr.get hlt
      have HY := hide (fun h : tieAt l x = true => tied_one hx h)
      have HN := hide (fun h : tieAt l x = false => (show ∀ j : Nat, j < k + 1 → ∀ x, l[j]? = some x → tieAt l x = false from fun j hj y hy => by
          by_cases h1 : j < k
          · exact hno.out j h1 y hy
          · have : j = k := by omega
            subst this
            rw [hx] at hy; injection hy with hy; subst hy; exact h))
      clear hx hno
      cases hg : litGood x
      · have hf := hide (show tieAt l x = false by unfold tieAt; rw [hg]; rfl)
        have hg := hide hg
        go_wp2_with fail
        refine (ref_Good _ _).mono ?_
        rintro e w1 ⟨rfl, rfl⟩
        rw [hg.out]
        go_wp2
        go_round
        case rel => exact ⟨k + 1, hlt, by go_num, HN.out hf.out⟩
        case measure => simp [intOf]; omega
      · have ht := hide (show tieAt l x = hasB l (litNot x) by unfold tieAt; rw [hg]; rfl)
        have hg := hide hg
        cases hh : hasB l (litNot x)
        · have hh := hide hh
          go_wp2_with fail
          refine (ref_Good _ _).mono ?_
          rintro e w1 ⟨rfl, rfl⟩
          rw [hg.out]
          go_wp2_with fail
          refine (ref_Not _ _).mono ?_
          rintro e w1 ⟨rfl, rfl⟩
          go_wp2_with fail
          refine (ref_Has _ _ _ l _ _ hn hr).mono ?_
          rintro e w1 ⟨rfl, rfl⟩
          rw [hh.out]
          go_wp2
          go_round
          case rel => exact ⟨k + 1, hlt, by go_num, HN.out (ht.out.trans hh.out)⟩
          case measure => simp [intOf]; omega
        · have hh := hide hh
          go_wp2_with fail
          refine (ref_Good _ _).mono ?_
          rintro e w1 ⟨rfl, rfl⟩
          rw [hg.out]
          go_wp2_with fail
          refine (ref_Not _ _).mono ?_
          rintro e w1 ⟨rfl, rfl⟩
          go_wp2_with fail
          refine (ref_Has _ _ _ l _ _ hn hr).mono ?_
          rintro e w1 ⟨rfl, rfl⟩
          rw [hh.out]
          go_wp2
          go_ret
          exact ⟨ret_bool (HY.out (ht.out.trans hh.out)).symm, rfl⟩
    · have hkn : n = k := by omega
      subst hkn
      have HF := hide (tied_all (fun j hj => hno.out j (by have := hl.out; omega)))
      clear hno
      go_wp2
      go_ret
      exact ⟨ret_bool HF.out.symm, rfl⟩
end Go.Proofs.Ytcjoohaagdihlaa.Sorted
end
