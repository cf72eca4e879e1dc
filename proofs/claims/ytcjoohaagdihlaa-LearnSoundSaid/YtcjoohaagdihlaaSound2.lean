/- LearnSound: plain words for the law's loops. No program in sight. -/
import Derived.Test.YtcjoohaagdihlaaLearn14
import Derived.Test.YtcjoohaagdihlaaUnits4
namespace Go.Proofs.Ytcjoohaagdihlaa.Learn
open Go.RowKit Go.Lt Go.Proofs.Ytcjoohaagdihlaa.Lit Go.Proofs.Ytcjoohaagdihlaa.Sorted
open Go.Proofs.Ytcjoohaagdihlaa.Kept (Sl Sl.val addr_off)
set_option linter.unusedVariables false
set_option linter.unusedSimpArgs false

section
variable {l : List St} {bad : List Int}
theorem here_next {c : List Int} {i : Nat} {x : Int} (hx : c[i]? = some x) : hereP l (c.take (i + 1)) = if levOf l x = lastL l then hereP l (c.take i) + 1 else hereP l (c.take i) := by
  rw [List.take_add_one, hx]; exact here_snoc l _ x
theorem back_mono : ∀ (a : List Int) (z : Int), z ≤ a.foldl (back1 l) z
  | [], z => Int.le_refl _
  | x :: a, z => by
    have h1 := back_mono a (back1 l z x)
    have h2 : z ≤ back1 l z x := by unfold back1; split <;> omega
    show z ≤ a.foldl (back1 l) (back1 l z x)
    omega
theorem back_bound : ∀ (a : List Int) (z x : Int), x ∈ a → levOf l x < lastL l → levOf l x ≤ a.foldl (back1 l) z
  | [], _, _, hx, _ => absurd hx List.not_mem_nil
  | y :: a, z, x, hx, h => by
    show levOf l x ≤ a.foldl (back1 l) (back1 l z y)
    rcases List.mem_cons.1 hx with rfl | hx
    · have h1 := back_mono (l := l) a (back1 l z x)
      have h2 : levOf l x ≤ back1 l z x := by unfold back1; split <;> omega
      omega
    · exact back_bound a _ x hx h
theorem place_iff (hg : GoodP l bad) {x : Int} (hx : Mem l x) {k : Nat} (hk : k < l.length) : (stAt l k).lit = litNot x ↔ k = plN l x := by
  constructor
  · intro h
    have h1 := place_of hg.1 hk (Nat.le_refl _) (x := x) (by rw [h, not_half hx.good])
    rw [hx.place] at h1
    injection h1 with h1
    exact h1.symm
  · intro h; subst h; exact hx.at_
structure Learned (l : List St) (bad cc : List Int) (b : Int) : Prop where
  good : GoodP l bad
  here : hereP l cc = 1
  mem : ∀ x ∈ cc, Mem l x
  lev : ∀ x ∈ cc, 0 < levOf l x
  back : ∀ x ∈ cc, levOf l x < lastL l → levOf l x ≤ b
  len : cc.length ≤ l.length
  sound : ∀ V, Vs V → (∀ i, i < l.length → (stAt l i).why ≠ [] → Clo V (stAt l i).why) → Clo V bad → (∀ x ∈ cc, Clo V [litNot x]) → False
theorem learned_of {cc : List Int} {b : Int} (h : FirstIs l bad (some (cc, b))) : Learned l bad cc b := by
  rcases h with ⟨_, h⟩ | ⟨h1, _, n, hj, _, h⟩
  · cases h
  · by_cases h3 : hereP l (cN l bad n) = 1
    · rw [if_pos h3] at h
      injection h with h
      injection h with ha hb
      have hg := good_of h1
      have hc := cl_all hg n hj
      have hm : ∀ x, x ∈ cc ↔ x ∈ cN l bad n := fun x => by rw [ha, srt_mem]
      have hnd : cc.Nodup := by rw [ha]; exact (srt_rise _).imp (fun h => by omega)
      have hp : List.Perm cc (cN l bad n) := (List.perm_ext_iff_of_nodup hnd hc.nodup).2 hm
      exact ⟨hg, by rw [here_perm hp]; exact h3, fun x hx => (hc.mem x ((hm x).1 hx)).1, fun x hx => (hc.mem x ((hm x).1 hx)).2,
        fun x hx hl => by rw [hb]; exact back_bound _ 0 x ((hm x).1 hx) hl, by rw [hp.length_eq]; exact cl_len hc,
        fun V hV hw hbd hcl => sound_all hg hV hw hbd hj (fun x hx => hcl x ((hm x).2 hx))⟩
    · rw [if_neg h3] at h; cases h
/-- the clauses of the first steps -/
def rowsTo (l : List St) (bad : List Int) (i : Nat) : List (List Int) := bad :: ((l.take i).filter fun s => !s.why.isEmpty).map St.why
theorem rows_zero : rowsTo l bad 0 = [bad] := rfl
theorem rows_next {i : Nat} {s : St} (hs : l[i]? = some s) : rowsTo l bad (i + 1) = if s.why = [] then rowsTo l bad i else rowsTo l bad i ++ [s.why] := by
  unfold rowsTo
  rw [List.take_add_one, hs, List.filter_append, List.map_append]
  by_cases h : s.why = []
  · rw [if_pos h]
    have : ([s].filter fun s : St => !s.why.isEmpty) = [] := by simp [h]
    rw [show (some s).toList = [s] from rfl, this]; simp
  · rw [if_neg h]
    have : ([s].filter fun s : St => !s.why.isEmpty) = [s] := by simp [h]
    rw [show (some s).toList = [s] from rfl, this]; rfl
theorem rows_why {i : Nat} (hi : i < l.length) (h : (stAt l i).why ≠ []) : (stAt l i).why ∈ rowsTo l bad l.length := by
  unfold rowsTo
  rw [List.take_length]
  exact List.mem_cons_of_mem _ (List.mem_map.2 ⟨stAt l i, List.mem_filter.2 ⟨List.mem_of_getElem? (stAt_get hi), by simp [h]⟩, rfl⟩)
theorem rows_mem {i : Nat} {r : List Int} (h : r ∈ rowsTo l bad i) : r = bad ∨ ∃ j, j < l.length ∧ r = (stAt l j).why := by
  unfold rowsTo at h
  rcases List.mem_cons.1 h with h | h
  · exact .inl h
  · right
    obtain ⟨s, hs, rfl⟩ := List.mem_map.1 h
    have hs := List.mem_of_mem_take (List.mem_filter.1 hs).1
    obtain ⟨j, hj, e⟩ := List.getElem_of_mem hs
    exact ⟨j, hj, by rw [stAt_is (by rw [List.getElem?_eq_getElem hj, e])]⟩
/-- the values: all open but the first -/
def valsQ (q : Nat) : List Int := 0 :: List.replicate q 2
theorem valsQ_len (q : Nat) : (valsQ q).length = q + 1 := by simp [valsQ]
theorem valsQ_next (q : Nat) : valsQ q ++ [2] = valsQ (q + 1) := by unfold valsQ; rw [List.replicate_succ']; rfl
theorem valsQ_get {q k : Nat} (h0 : 0 < k) (h : k < q + 1) : (valsQ q).getD k 0 = 2 := by
  obtain ⟨j, rfl⟩ : ∃ j, k = j + 1 := ⟨k - 1, by omega⟩
  unfold valsQ
  rw [List.getD_cons_succ, List.getD_eq_getElem?_getD, List.getElem?_replicate, if_pos (by omega)]; rfl
theorem valsQ_open {q : Nat} {x : Int} (h1 : 1 < x) (hq : x / 2 < (q : Int) + 1) : litV (valsQ q) x ≠ 1 := by
  unfold litV
  have h2 : ¬ x / 2 = 0 := by omega
  have h3 : x / 2 < ((valsQ q).length : Int) := by rw [valsQ_len]; omega
  have h4 : (valsQ q).getD (x / 2).toNat 0 = 2 := valsQ_get (by omega) (by omega)
  rw [h4, if_neg h2, if_pos h3]
  split
  · split <;> decide
  · decide
theorem in_zero {i : Nat} (hg : OkTo l l.length) (hi : i ≤ l.length) {q : Nat} (hq : ∀ j, j < l.length → (stAt l j).lit / 2 < (q : Int) + 1) {x : Int} (hz : zeroB (l.take i) x = true) : x / 2 < (q : Int) + 1 := by
  unfold zeroB at hz
  rw [Bool.or_eq_true, Bool.and_eq_true, List.any_eq_true] at hz
  rcases hz with hz | ⟨hgd, s, hs, he⟩
  · have : x = 0 := by simpa using hz
    omega
  · have he : s.lit = litNot x := by simpa using he
    have hs := List.mem_of_mem_take hs
    obtain ⟨j, hj, e⟩ := List.getElem_of_mem hs
    have h1 := hq j hj
    rw [stAt_is (by rw [List.getElem?_eq_getElem hj, e]), he, not_half hgd] at h1
    exact h1
theorem rows_in (hg : GoodP l bad) {q : Nat} (hq : ∀ j, j < l.length → (stAt l j).lit / 2 < (q : Int) + 1) {i : Nat} {r : List Int} (h : r ∈ rowsTo l bad i) : ∀ x ∈ r, x / 2 < (q : Int) + 1 := fun x hx => by
  rcases rows_mem h with rfl | ⟨j, hj, rfl⟩
  · exact in_zero hg.1 (Nat.le_refl _) hq (by rw [List.take_length]; exact hg.2 x hx)
  · have hw := (hg.1 j hj).why x hx
    unfold whyB at hw
    rw [Bool.or_eq_true] at hw
    rcases hw with hw | hw
    · have : x = (stAt l j).lit := by simpa using hw
      rw [this]; exact hq j hj
    · exact in_zero hg.1 (by omega) hq hw
end
/-- all that Units is asked of answers 'no' -/
theorem units_none {l : List St} {bad cc : List Int} {b : Int} {q : Nat} {r : Option (List Int)} (hL : Learned l bad cc b) (h : UnitsIs (rowsTo l bad l.length ++ cc.map fun x => [litNot x]) (valsQ q) r) : r = none := by
  cases r with
  | none => rfl
  | some out =>
    have hd := units_done h out rfl
    exact (hL.sound (litV out) (lit_vs out) (fun i hi hne => hd _ (List.mem_append.2 (.inl (rows_why hi hne)))) (hd _ (List.mem_append.2 (.inl List.mem_cons_self)))
      (fun x hx => hd _ (List.mem_append.2 (.inr (List.mem_map.2 ⟨x, hx, rfl⟩))))).elim
/-- a clause: read in the first world, or a literal of one -/
def RowOk (w0 W : World) (y : List Int × Sl) : Prop := Rd w0 y.2.A y.2.n (ivs y.1) ∨ ∃ g x, y = ([x], ⟨some ⟨g, 0, none⟩, 1, 1⟩) ∧ Blk W g 3 #[.int .i64 x]
abbrev RowsOk (w0 W : World) (ys : List (List Int × Sl)) : Prop := ∀ y ∈ ys, RowOk w0 W y
theorem RowsOk.keep {w0 W W' : World} {ys : List (List Int × Sl)} (h : RowsOk w0 W ys) (hb : Below W.heap.size W W') : RowsOk w0 W' ys := fun y hy => by
  rcases h y hy with h | ⟨g, x, e, h⟩
  · exact .inl h
  · exact .inr ⟨g, x, e, h.below hb h.lt⟩
theorem RowsOk.grown {w0 W W' : World} {ys : List (List Int × Sl)} (h : RowsOk w0 W ys) {base size n : Nat} {e : TypeId} {v : Value} {xs : List Value} (ho : W.ownsRow base e size v n xs) (he : e ≠ 3) (hb : W.grownBy W' v.ownBlock) : RowsOk w0 W' ys := fun y hy => by
  rcases h y hy with h | ⟨g, x, e, h⟩
  · exact .inl h
  · exact .inr ⟨g, x, e, h.grown hb (own_blk_ne ho h he)⟩
def rowCells (ys : List (List Int × Sl)) : List Value := ys.map fun y => y.2.val
theorem RdR.of_own {w0 W : World} {base n : Nat} {e : TypeId} {v : Value} {ys : List (List Int × Sl)} (h : W.ownsRow base e 1 v n (rowCells ys)) (hy : RowsOk w0 W ys) (hb : Below w0.heap.size w0 W) : ∃ A c, v = .slice A n c ∧ n ≤ c ∧ c ≤ maxLen ∧ RdR W A n (ys.map (·.1)) := by
  obtain ⟨A, c, he, hnc, hc, hrd⟩ := Rd.of_own h
  have hl : ys.length = n := by have := hrd.len; simpa [rowCells] using this
  refine ⟨A, c, he, hnc, hc, by rw [List.length_map]; exact hl, fun k hk => ?_⟩
  obtain ⟨ad, u, h1, h2, h3, h4⟩ := hrd.2 k hk
  have hyk : ys[k]? = some (ys[k]'(by omega)) := List.getElem?_eq_getElem _
  unfold rowCells at h3
  rw [List.getElem?_map, hyk] at h3
  injection h3 with h3
  refine ⟨ad, (ys[k]'(by omega)).1, (ys[k]'(by omega)).2, h1, h2, by rw [List.getElem?_map, hyk]; rfl, by rw [h4, ← h3], ?_⟩
  rcases hy _ (List.getElem_mem (show k < ys.length by omega)) with h | ⟨g, x, e, h⟩
  · exact h.below hb (Nat.le_refl _)
  · rw [e]
    exact rd_blk h rfl
end Go.Proofs.Ytcjoohaagdihlaa.Learn
