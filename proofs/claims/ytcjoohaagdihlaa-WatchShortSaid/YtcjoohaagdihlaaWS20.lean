/- Texts behind a row, one behind the other: WatchK5, UnitsS. -/
import Derived.Test.YtcjoohaagdihlaaWS19
import Derived.Test.YtcjoohaagdihlaaWS4
section
/- Both stores of clauses in memory, side by side. -/
namespace Go.Proofs.Ytcjoohaagdihlaa.Watch
open Go.RowKit Go.Lt Go.Proofs.Ytcjoohaagdihlaa.Lit Go.Proofs.Ytcjoohaagdihlaa.Sorted Go.Proofs.Ytcjoohaagdihlaa.Learn Go.Instr
open Go.Proofs.Ytcjoohaagdihlaa.Kept (Sl Sl.val)
set_option linter.unusedVariables false
set_option linter.unusedSimpArgs false

def okF (n : Int) (l : List Int) : Bool := okC l && fitC n l
def addP (n : Int) (rows : List (List Int)) (l : List Int) : List (List Int) := if okF n l = true then rows ++ [normC l] else rows
def addI (n : Int) (is : List Bool) (l : List Int) : List Bool := if okF n l = true then is ++ [true] else is
def addV (n : Int) (rows : List (List Int)) (l : List Int) : Int := if okF n l = true then rows.length else -1
/-- both stores in memory -/
def Both (base lo : Nat) (p mA mN mS mB q : Nat) (n : Int) (r1 : List (List Int)) (i1 : List Bool) (r2 : List (List Int)) (i2 : List Bool) (W : World) : Prop :=
  ∃ (T : Nat → Prop) (fv : Value) (al nl sl : List (Int × Value)) (fr : List Int) (cv iv : Value) (sls : List Sl), KeM base lo T W p mA mN mS mB n fv al nl sl [] fr r1 i1 ∧ RefM lo T W q n cv iv sls r2 i2 ∧ (∀ g, T g → g < W.heap.size) ∧ lo ≤ W.heap.size ∧ base ≤ lo
section
variable {base lo : Nat} {W W' : World} {p mA mN mS mB q : Nat} {n : Int} {r1 r2 : List (List Int)} {i1 i2 : List Bool}
theorem Both.keep (h : Both base lo p mA mN mS mB q n r1 i1 r2 i2 W) (hb : Below W.heap.size W W') : Both base lo p mA mN mS mB q n r1 i1 r2 i2 W' := by
  obtain ⟨T, fv, al, nl, sl, fr, cv, iv, sls, h1, h2, h3, h4, h5⟩ := h
  exact ⟨T, fv, al, nl, sl, fr, cv, iv, sls, h1.keep hb, h2.keep hb, fun g hg => Nat.lt_of_lt_of_le (h3 g hg) hb.size, Nat.le_trans h4 hb.size, h5⟩
theorem addP_yes {l : List Int} {rows : List (List Int)} (h : okF n l = true) : addP n rows l = rows ++ [normC l] := by unfold addP; rw [if_pos h]
theorem addP_no {l : List Int} {rows : List (List Int)} (h : okF n l = false) : addP n rows l = rows := by unfold addP; rw [if_neg (by rw [h]; exact Bool.false_ne_true)]
theorem addI_yes {l : List Int} {is : List Bool} (h : okF n l = true) : addI n is l = is ++ [true] := by unfold addI; rw [if_pos h]
theorem addI_no {l : List Int} {is : List Bool} (h : okF n l = false) : addI n is l = is := by unfold addI; rw [if_neg (by rw [h]; exact Bool.false_ne_true)]
theorem addV_yes {l : List Int} {rows : List (List Int)} (h : okF n l = true) : addV n rows l = rows.length := by unfold addV; rw [if_pos h]
theorem addV_no {l : List Int} {rows : List (List Int)} (h : okF n l = false) : addV n rows l = -1 := by unfold addV; rw [if_neg (by rw [h]; exact Bool.false_ne_true)]
theorem both_Add (h : Both base lo p mA mN mS mB q n r1 i1 r2 i2 W) (hn : 0 ≤ n ∧ n ≤ 1048576) (hr1 : r1.length ≤ 1000) (A : Option Addr) (m c : Nat) (l : List Int) (hm : m ≤ 1000) (hr : Rd W A m (ivs l)) :
    Calls Try.prog 57 #[.pointer (some ⟨p, 0, none⟩), .slice A m c] W fun e w' => e = .returned (.int .i64 (addV n r1 l)) ∧ Both base lo p mA mN mS mB q n (addP n r1 l) (addI n i1 l) r2 i2 w' ∧ Below base W w' := by
  obtain ⟨T, fv, al, nl, sl, fr, cv, iv, sls, h1, h2, h3, h4, h5⟩ := h
  refine (watch_AddK h1 h3 (Nat.le_trans h5 h4) hn hr1 A m c l hm hr).mono ?_
  rintro e w' (⟨hf, he, hK, hb⟩ | ⟨hf, he, fv', al', nl', sl', fr', hK, hb, hF, hv⟩)
  · rw [addV_no hf, addP_no hf, addI_no hf]
    exact ⟨he, ⟨T, fv, al, nl, sl, fr, cv, iv, sls, hK, h2.keep hb, fun g hg => Nat.lt_of_lt_of_le (h3 g hg) hb.size, Nat.le_trans h4 hb.size, h5⟩, hb.mono (Nat.le_trans h5 h4)⟩
  · rw [addV_yes hf, addP_yes hf, addI_yes hf]
    have h2' := (h2.prog h1.st.fresh hF h1.tl h1.tf)
    refine ⟨he, ⟨fun g => T g ∨ fv'.ownBlock = some g, fv', al', nl', sl', fr', cv, iv, sls, hK, ?_, fun g hg => ?_, Nat.le_trans h4 hb.size, h5⟩, hb⟩
    · have h2m : RefM lo (fun g => T g ∨ fv'.ownBlock = some g) W q n cv iv sls r2 i2 := h2.more (fun g hg => .inl hg) (fun g hg => hg.elim .inl (fun e => hv g e))
      exact h2m.prog h1.st.fresh hF (fun g hg => .inl (h1.tl g hg)) (fun g hg => .inl (h1.tf g hg))
    · rcases hg with hg | hg
      · exact Nat.lt_of_lt_of_le (h3 g hg) hb.size
      · exact (own_lt hK.st.fresh hg).2
theorem KeM.ref {T : Nat → Prop} {fv : Value} {al nl sl bl : List (Int × Value)} {fr : List Int} {rows r2 : List (List Int)} {is i2 : List Bool} {cv iv : Value} {sls : List Sl} (h : KeM base lo T W p mA mN mS mB n fv al nl sl bl fr rows is) (k : RefM lo T W q n cv iv sls r2 i2) (hf : Fr (fun g => g = q ∨ cv.ownBlock = some g ∨ iv.ownBlock = some g) W W') : KeM base lo T W' p mA mN mS mB n fv al nl sl bl fr rows is :=
  h.frm hf (fun g e => by
    rcases e with e | e | e
    · subst e; exact ⟨k.tq, k.lq, fun e => own_blk_ne h.st.fresh k.box (by decide) e.symm⟩
    · exact ⟨k.tc g e, (own_lt k.cs e).1, own_two k.cs h.st.fresh (by decide) g e⟩
    · exact ⟨k.ti g e, (own_lt k.ib e).1, own_two k.ib h.st.fresh (by decide) g e⟩)
theorem both_RefAdd (h : Both base lo p mA mN mS mB q n r1 i1 r2 i2 W) (hn : 0 ≤ n ∧ n ≤ 1048576) (hr2 : r2.length ≤ 1000) (A : Option Addr) (m c : Nat) (l : List Int) (hm : m ≤ 1000) (hr : Rd W A m (ivs l)) :
    Calls Try.prog 58 #[.pointer (some ⟨q, 0, none⟩), .slice A m c] W fun e w' => e = .returned (.int .i64 (addV n r2 l)) ∧ Both base lo p mA mN mS mB q n r1 i1 (addP n r2 l) (addI n i2 l) w' ∧ Below base W w' := by
  obtain ⟨T, fv, al, nl, sl, fr, cv, iv, sls, h1, h2, h3, h4, h5⟩ := h
  refine (ref25_Add h2 h3 h4 hn hr2 A m c l hm hr).mono ?_
  rintro e w' (⟨hf, he, hK, hb⟩ | ⟨hf, he, cv', iv', s, hK, hF, hv1, hv2⟩)
  · rw [addV_no hf, addP_no hf, addI_no hf]
    exact ⟨he, ⟨T, fv, al, nl, sl, fr, cv, iv, sls, h1.keep hb, hK, fun g hg => Nat.lt_of_lt_of_le (h3 g hg) hb.size, Nat.le_trans h4 hb.size, h5⟩, hb.mono (Nat.le_trans h5 h4)⟩
  · rw [addV_yes hf, addP_yes hf, addI_yes hf]
    have hb : Below base W w' := hF.below (Nat.le_trans h5 h4) (fun g e => by
      rcases e with e | e | e
      · have := h2.lq; omega
      · have := (own_lt h2.cs e).1; omega
      · have := (own_lt h2.ib e).1; omega)
    have h1m : KeM base lo (fun g => T g ∨ cv'.ownBlock = some g ∨ iv'.ownBlock = some g) W p mA mN mS mB n fv al nl sl [] fr r1 i1 := h1.more (fun g hg => .inl hg) (fun g hg => hg.elim .inl (fun e => e.elim (hv1 g) (hv2 g)))
    have h2m : RefM lo (fun g => T g ∨ cv'.ownBlock = some g ∨ iv'.ownBlock = some g) W q n cv iv sls r2 i2 := h2.more (fun g hg => .inl hg) (fun g hg => hg.elim .inl (fun e => e.elim (hv1 g) (hv2 g)))
    refine ⟨he, ⟨_, fv, al, nl, sl, fr, cv', iv', sls ++ [s], h1m.ref h2m hF, hK, fun g hg => ?_, Nat.le_trans h4 hb.size, h5⟩, hb⟩
    rcases hg with hg | hg | hg
    · exact Nat.lt_of_lt_of_le (h3 g hg) hb.size
    · exact (own_lt hK.cs hg).2
    · exact (own_lt hK.ib hg).2
theorem both_Drop (h : Both base lo p mA mN mS mB q n r1 i1 r2 i2 W) (id : Int) :
    Calls Try.prog 65 #[.pointer (some ⟨p, 0, none⟩), .int .i64 id] W fun e w' => e = .returned (.bool (keptB i1 id)) ∧ Both base lo p mA mN mS mB q n r1 (dropP i1 id) r2 i2 w' ∧ Below base W w' := by
  obtain ⟨T, fv, al, nl, sl, fr, cv, iv, sls, h1, h2, h3, h4, h5⟩ := h
  refine (watch_DropK h1 (Nat.le_trans h5 h4) id).mono ?_
  rintro e w' ⟨he, al', nl', sl', hK, hb, hF⟩
  exact ⟨he, ⟨T, fv, al', nl', sl', fr, cv, iv, sls, hK, h2.prog h1.st.fresh (hF.more (fun g _ e => .inl e)) h1.tl h1.tf, fun g hg => Nat.lt_of_lt_of_le (h3 g hg) hb.size, Nat.le_trans h4 hb.size, h5⟩, hb⟩
theorem both_RefDrop (h : Both base lo p mA mN mS mB q n r1 i1 r2 i2 W) (hr2 : r2.length ≤ 1000) (id : Int) :
    Calls Try.prog 66 #[.pointer (some ⟨q, 0, none⟩), .int .i64 id] W fun e w' => e = .returned (.bool (keptB i2 id)) ∧ Both base lo p mA mN mS mB q n r1 i1 r2 (dropP i2 id) w' ∧ Below base W w' := by
  obtain ⟨T, fv, al, nl, sl, fr, cv, iv, sls, h1, h2, h3, h4, h5⟩ := h
  refine (ref25_Drop h2 h4 hr2 id).mono ?_
  rintro e w' ⟨he, hK, hF⟩
  have hF2 : Fr (fun g => g = q ∨ cv.ownBlock = some g ∨ iv.ownBlock = some g) W w' := hF.more (fun g _ e => .inr (.inr e))
  have hb : Below base W w' := hF.below (Nat.le_trans h5 h4) (fun g e => by have := (own_lt h2.ib e).1; omega)
  exact ⟨he, ⟨T, fv, al, nl, sl, fr, cv, iv, sls, h1.ref h2 hF2, hK, fun g hg => Nat.lt_of_lt_of_le (h3 g hg) hb.size, Nat.le_trans h4 hb.size, h5⟩, hb⟩
/-- what is asked of both -/
theorem both_Clause (h : Both base lo p mA mN mS mB q n r1 i1 r2 i2 W) (hrow : ∀ r ∈ r1, r.length ≤ 1000) (id : Int) :
    Calls Try.prog 67 #[.pointer (some ⟨p, 0, none⟩), .int .i64 id] W fun e w' => ∃ A c, e = .returned (.slice A (clP r1 i1 id).length c) ∧ Rd w' A (clP r1 i1 id).length (ivs (clP r1 i1 id)) ∧ Below W.heap.size W w' := by
  obtain ⟨T, fv, al, nl, sl, fr, cv, iv, sls, h1, h2, h3, h4, h5⟩ := h
  exact watch_Clause h1 hrow id
theorem both_RefClause (h : Both base lo p mA mN mS mB q n r1 i1 r2 i2 W) (hr2 : r2.length ≤ 1000) (id : Int) :
    Calls Try.prog 68 #[.pointer (some ⟨q, 0, none⟩), .int .i64 id] W fun e w' => ∃ A c, e = .returned (.slice A (clP r2 i2 id).length c) ∧ Rd w' A (clP r2 i2 id).length (ivs (clP r2 i2 id)) ∧ Below W.heap.size W w' := by
  obtain ⟨T, fv, al, nl, sl, fr, cv, iv, sls, h1, h2, h3, h4, h5⟩ := h
  refine (ref25_Clause h2 hr2 id).mono ?_
  rintro e w' ⟨⟨A, c, he, hr⟩, hd⟩
  exact ⟨A, c, he, hd.rd hr, hd.below _⟩
theorem both_List (h : Both base lo p mA mN mS mB q n r1 i1 r2 i2 W) (hr : r1.length ≤ 1000) :
    Calls Try.prog 69 #[.pointer (some ⟨p, 0, none⟩)] W fun e w' => ∃ A c, e = .returned (.slice A (idsP i1 i1.length).length c) ∧ Rd w' A (idsP i1 i1.length).length (ivs (idsP i1 i1.length)) ∧ Below W.heap.size W w' := by
  obtain ⟨T, fv, al, nl, sl, fr, cv, iv, sls, h1, h2, h3, h4, h5⟩ := h
  exact watch_List h1 hr
theorem both_RefList (h : Both base lo p mA mN mS mB q n r1 i1 r2 i2 W) (hr : r2.length ≤ 1000) :
    Calls Try.prog 70 #[.pointer (some ⟨q, 0, none⟩)] W fun e w' => ∃ A c, e = .returned (.slice A (idsP i2 i2.length).length c) ∧ Rd w' A (idsP i2 i2.length).length (ivs (idsP i2 i2.length)) ∧ Below W.heap.size W w' := by
  obtain ⟨T, fv, al, nl, sl, fr, cv, iv, sls, h1, h2, h3, h4, h5⟩ := h
  exact ref25_List h2 hr
theorem both_Len (h : Both base lo p mA mN mS mB q n r1 i1 r2 i2 W) :
    Calls Try.prog 71 #[.pointer (some ⟨p, 0, none⟩)] W fun e w' => e = .returned (.int .i64 (idsP i1 i1.length).length) ∧ W = w' := by
  obtain ⟨T, fv, al, nl, sl, fr, cv, iv, sls, h1, h2, h3, h4, h5⟩ := h
  exact watch_Len h1
/-- both, new -/
theorem both_new {w1 : World} (h : StM base w1 p mA mN mS mB n 0 (.slice none 0 0) [] [] [] [] []) (hbase : base ≤ w1.heap.size) (hb : Below w1.heap.size w1 W) (hq : Blk W q 87 (boxR n (.slice none 0 0) (.slice none 0 0))) (hql : w1.heap.size ≤ q) :
    Both base w1.heap.size p mA mN mS mB q n [] [] [] [] W := by
  have hk := (KeM.new h (Nat.le_refl _)).keep hb
  refine ⟨fun g => g < w1.heap.size ∨ g = q, .slice none 0 0, [], [], [], [], .slice none 0 0, .slice none 0 0, [], ?_, ⟨hq, World.ownsRow_nil _ _ _ _, World.ownsRow_nil _ _ _ _, hql, rfl, fun k s row hs => by simp at hs, .inr rfl, fun g hg => by simp [Value.ownBlock] at hg, fun g hg => by simp [Value.ownBlock] at hg⟩, fun g hg => ?_, hb.size, hbase⟩
  · exact ⟨hk.st, hk.ka, hk.va, hk.kn, fun x v hx => by simp [mget] at hx, hk.il, hk.fl, hk.lt, fun g hg => .inl hg, fun g hg => by simp [Value.ownBlock] at hg⟩
  · rcases hg with hg | hg
    · exact Nat.lt_of_lt_of_le hg hb.size
    · rw [hg]; exact hq.lt
end
theorem addP_len (n : Int) (rows : List (List Int)) (l : List Int) : (addP n rows l).length ≤ rows.length + 1 := by unfold addP; split <;> simp
theorem addP_rows {n : Int} {rows : List (List Int)} {l : List Int} (h : ∀ r ∈ rows, r.length ≤ 1000) (hl : l.length ≤ 1000) : ∀ r ∈ addP n rows l, r.length ≤ 1000 := fun r hr => by
  unfold addP at hr
  split at hr
  · rcases List.mem_append.1 hr with hr | hr
    · exact h r hr
    · rw [List.mem_singleton] at hr
      subst hr
      have h2 : (normC l).length ≤ (srt l).length := List.length_filter_le _ _
      have h3 := srt_len l
      omega
  · exact h r hr
end Go.Proofs.Ytcjoohaagdihlaa.Watch
end

section
/- What clauses of one literal say, one behind the other: the plain law of WatchShort. No program in sight. -/
namespace Go.Proofs.Ytcjoohaagdihlaa.Watch
open Go.RowKit Go.Lt Go.Proofs.Ytcjoohaagdihlaa.Lit Go.Proofs.Ytcjoohaagdihlaa.Sorted Go.Proofs.Ytcjoohaagdihlaa.Learn
set_option linter.unusedVariables false
set_option linter.unusedSimpArgs false

/-- short clauses, one behind the other -/
def runU : List Int → List (List Int) → Option (List Int)
  | v, [] => some v
  | v, [] :: _ => none
  | v, (x :: _) :: cs => if litV v x = 0 then none else if litV v x = 1 then runU v cs else runU (setV v x) cs
/-- a clause of no literal, or of one of the first N variables -/
structure ShortC (N : Nat) (c : List Int) : Prop where
  is : c = [] ∨ ∃ x, c = [x] ∧ 2 ≤ x ∧ x / 2 < (N : Int) ∧ litGood x = true
theorem litV_three (v : List Int) (x : Int) : litV v x = 0 ∨ litV v x = 1 ∨ litV v x = 2 := (lit_vs v).c3 x
theorem lit_set {v : List Int} {x : Int} (hg : litGood x = true) (h2 : 2 ≤ x) (hl : x / 2 < (v.length : Int)) : litV (setV v x) x = 1 := by
  have e : (setV v x).getD (x / 2).toNat 0 = if x % 2 = 1 then 0 else 1 := by
    unfold setV
    rw [List.getD_eq_getElem?_getD, List.getElem?_set_self (by omega)]
    rfl
  unfold litV
  rw [if_pos hg, if_neg (show ¬ x / 2 = 0 by omega), setV_len, if_pos hl, e]
  by_cases h : x % 2 = 1
  · rw [if_pos h, if_pos h]; rfl
  · rw [if_neg h, if_neg h]; rfl
theorem lit_far {v : List Int} {x y : Int} (hx : 0 ≤ x) (hy : 0 ≤ y) (h : x / 2 ≠ y / 2) : litV (setV v x) y = litV v y := by
  have e : (setV v x).getD (y / 2).toNat 0 = v.getD (y / 2).toNat 0 := by
    unfold setV
    rw [List.getD_eq_getElem?_getD, List.getElem?_set_ne (by omega), ← List.getD_eq_getElem?_getD]
  unfold litV
  rw [setV_len, e]
theorem lit_same {v : List Int} {x y : Int} (hx : litV v x = 2) (hgx : litGood x = true) (h : x / 2 = y / 2) : litV v y = 2 := by
  unfold litV at hx ⊢
  rw [if_pos hgx] at hx
  by_cases hgy : litGood y = true
  · rw [if_pos hgy, ← h]
    have h3 : (if x / 2 = 0 then (0 : Int) else if x / 2 < (v.length : Int) then triV (v.getD (x / 2).toNat 0) else 2) = 0 ∨ (if x / 2 = 0 then (0 : Int) else if x / 2 < (v.length : Int) then triV (v.getD (x / 2).toNat 0) else 2) = 1 ∨ (if x / 2 = 0 then (0 : Int) else if x / 2 < (v.length : Int) then triV (v.getD (x / 2).toNat 0) else 2) = 2 := by
      split
      · exact .inl rfl
      · split
        · unfold triV; split <;> omega
        · exact .inr (.inr rfl)
    generalize (if x / 2 = 0 then (0 : Int) else if x / 2 < (v.length : Int) then triV (v.getD (x / 2).toNat 0) else 2) = a at *
    rcases h3 with rfl | rfl | rfl
    · split at hx <;> simp [triNot] at hx
    · split at hx <;> simp [triNot] at hx
    · split <;> rfl
  · rw [if_neg hgy]
theorem lit_keep {v : List Int} {x y : Int} (hx : litV v x = 2) (hgx : litGood x = true) (hy : litV v y = 1) : litV (setV v x) y = 1 := by
  have hgy : litGood y = true := by
    cases hg : litGood y with
    | true => rfl
    | false => unfold litV at hy; rw [hg] at hy; simp at hy
  by_cases h : x / 2 = y / 2
  · rw [lit_same hx hgx h] at hy; cases hy
  · rw [lit_far (good_iff.1 hgx).1 (good_iff.1 hgy).1 h]; exact hy
section
variable {N : Nat}
theorem run_len : ∀ (cs : List (List Int)) (v out : List Int), runU v cs = some out → out.length = v.length
  | [], v, out, h => by injection h with h; rw [h]
  | [] :: cs, v, out, h => by cases h
  | (x :: _) :: cs, v, out, h => by
    unfold runU at h
    split at h
    · cases h
    · split at h
      · exact run_len cs v out h
      · rw [run_len cs _ out h, setV_len]
theorem run_keep : ∀ (cs : List (List Int)) (v out : List Int), (∀ c ∈ cs, ShortC N c) → v.length = N → runU v cs = some out → ∀ y, litV v y = 1 → litV out y = 1
  | [], v, out, _, _, h, y, hy => by injection h with h; rw [← h]; exact hy
  | [] :: cs, v, out, _, _, h, y, hy => by cases h
  | (x :: t) :: cs, v, out, hs, hv, h, y, hy => by
    have hc := (hs _ List.mem_cons_self).is
    have hgx : litGood x = true := by
      rcases hc with hc | ⟨z, hc, _, _, hg⟩
      · cases hc
      · injection hc with e; rw [e]; exact hg
    unfold runU at h
    split at h
    · cases h
    · rename_i h0
      split at h
      · exact run_keep cs v out (fun c hc => hs c (List.mem_cons_of_mem _ hc)) hv h y hy
      · rename_i h1
        have h2 : litV v x = 2 := by rcases litV_three v x with e | e | e <;> simp_all
        exact run_keep cs _ out (fun c hc => hs c (List.mem_cons_of_mem _ hc)) (by rw [setV_len]; exact hv) h y (lit_keep h2 hgx hy)
theorem run_all : ∀ (cs : List (List Int)) (v out : List Int), (∀ c ∈ cs, ShortC N c) → v.length = N → runU v cs = some out → ∀ c ∈ cs, ∃ x, c = [x] ∧ litV out x = 1
  | [], v, out, _, _, h, c, hc => by cases hc
  | [] :: cs, v, out, _, _, h, c, hc => by cases h
  | (x :: t) :: cs, v, out, hs, hv, h, c, hc => by
    have hc0 := (hs _ List.mem_cons_self).is
    obtain ⟨rfl, h2x, hlx, hgx⟩ : t = [] ∧ 2 ≤ x ∧ x / 2 < (N : Int) ∧ litGood x = true := by
      rcases hc0 with hc | ⟨z, hc, a, b, hg⟩
      · cases hc
      · injection hc with e e2; rw [e]; exact ⟨e2, a, b, hg⟩
    have hs2 : ∀ c ∈ cs, ShortC N c := fun c hc => hs c (List.mem_cons_of_mem _ hc)
    unfold runU at h
    split at h
    · cases h
    · rename_i h0
      split at h
      · rename_i h1
        rcases List.mem_cons.1 hc with rfl | hc
        · exact ⟨x, rfl, run_keep cs v out hs2 hv h x h1⟩
        · exact run_all cs v out hs2 hv h c hc
      · rename_i h1
        have h2 : litV v x = 2 := by rcases litV_three v x with e | e | e <;> simp_all
        have hv2 : (setV v x).length = N := by rw [setV_len]; exact hv
        rcases List.mem_cons.1 hc with rfl | hc
        · exact ⟨x, rfl, run_keep cs _ out hs2 hv2 h x (lit_set hgx h2x (by rw [hv]; exact hlx))⟩
        · exact run_all cs _ out hs2 hv2 h c hc
theorem pass_run : ∀ (cs : List (List Int)) (v : List Int) (m : Bool), (∀ c ∈ cs, ShortC N c) → (passP v cs m).map (·.1) = runU v cs
  | [], v, m, _ => rfl
  | [] :: cs, v, m, _ => by unfold passP runU; rfl
  | (x :: t) :: cs, v, m, hs => by
    have hc0 := (hs _ List.mem_cons_self).is
    obtain ⟨rfl, h2x, hlx, hgx⟩ : t = [] ∧ 2 ≤ x ∧ x / 2 < (N : Int) ∧ litGood x = true := by
      rcases hc0 with hc | ⟨z, hc, a, b, hg⟩
      · cases hc
      · injection hc with e e2; rw [e]; exact ⟨e2, a, b, hg⟩
    have hs2 : ∀ c ∈ cs, ShortC N c := fun c hc => hs c (List.mem_cons_of_mem _ hc)
    have eV : valG (litV v) 0 [x] = if litV v x = 1 then 1 else if litV v x = 2 then 2 else 0 := rfl
    have eU : uOf v [x] = if litV v x = 1 ∨ (litV v x = 2 ∧ (litGood x = false ∨ ((0 : Int) ≤ -1 ∧ (-1 : Int) ≠ x))) then -1 else if litV v x = 2 then x else -1 := rfl
    unfold passP runU
    rw [eV, eU]
    rcases litV_three v x with e | e | e
    · simp [e]
    · simp [e]; exact pass_run cs v m hs2
    · simp [e, hgx, show (1 : Int) < x by omega]; exact pass_run cs _ true hs2
theorem pass_same : ∀ (cs : List (List Int)) (v : List Int) (m : Bool), (∀ c ∈ cs, ∃ x, c = [x] ∧ litV v x = 1) → passP v cs m = some (v, m)
  | [], v, m, _ => rfl
  | c :: cs, v, m, h => by
    obtain ⟨x, rfl, h1⟩ := h _ List.mem_cons_self
    have eV : valG (litV v) 0 [x] = if litV v x = 1 then 1 else if litV v x = 2 then 2 else 0 := rfl
    have eU : uOf v [x] = if litV v x = 1 ∨ (litV v x = 2 ∧ (litGood x = false ∨ ((0 : Int) ≤ -1 ∧ (-1 : Int) ≠ x))) then -1 else if litV v x = 2 then x else -1 := rfl
    unfold passP
    rw [eV, eU]
    simp [h1]
    exact pass_same cs v m (fun c hc => h c (List.mem_cons_of_mem _ hc))
theorem units_short {cs : List (List Int)} {v : List Int} {r : Option (List Int)} (hs : ∀ c ∈ cs, ShortC N c) (hv : v.length = N) (h : UnitsIs cs v r) : r = runU v cs := by
  have hp := pass_run (N := N) cs v false hs
  cases h with
  | no h => rw [h] at hp; exact hp
  | done h => rw [h] at hp; exact hp
  | more h h2 =>
    rw [h] at hp
    have ha := pass_same cs _ false (run_all cs v _ hs hv hp.symm)
    cases h2 with
    | no h3 => rw [ha] at h3; cases h3
    | done h3 => rw [ha] at h3; injection h3 with h3; injection h3 with h3 _; rw [← h3]; exact hp
    | more h3 h4 => rw [ha] at h3; injection h3 with h3; injection h3 with _ h3; cases h3
end
end Go.Proofs.Ytcjoohaagdihlaa.Watch
end
