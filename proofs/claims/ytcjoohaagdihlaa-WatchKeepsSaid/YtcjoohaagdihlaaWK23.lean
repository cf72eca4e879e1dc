/- Texts behind a row, one behind the other: WatchK5. -/
import Derived.Test.YtcjoohaagdihlaaWK22
section
/- Both stores of clauses in memory, side by side. -/
namespace Go.Proofs.Ytcjoohaagdihlaa.Watch
open Go.RowKit Go.Lt Go.Proofs.Ytcjoohaagdihlaa.Lit Go.Proofs.Ytcjoohaagdihlaa.Sorted Go.Proofs.Ytcjoohaagdihlaa.Learn Go.Instr
open Go.Proofs.Ytcjoohaagdihlaa.Kept (Sl Sl.val)
set_option linter.unusedVariables false
set_option linter.unusedSimpArgs false

def okF (n : Int) (l : List Int) : Bool := okC l && fitC n l
def addP (n : Int) (rows : List (List Int)) (l : List Int) : List (List Int) := if okF n l = true then rows ++ [normC l] else rows
def addI (n : Int) (is : List Bool) (l : List Int) : List Bool := if okF n l = true then is ++ [true] else is
def addV (n : Int) (rows : List (List Int)) (l : List Int) : Int := if okF n l = true then rows.length else -1
/-- both stores in memory -/
def Both (base lo : Nat) (p mA mN mS mB q : Nat) (n : Int) (r1 : List (List Int)) (i1 : List Bool) (r2 : List (List Int)) (i2 : List Bool) (W : World) : Prop :=
  ∃ (T : Nat → Prop) (fv : Value) (al nl sl : List (Int × Value)) (fr : List Int) (cv iv : Value) (sls : List Sl), KeM base lo T W p mA mN mS mB n fv al nl sl [] fr r1 i1 ∧ RefM lo T W q n cv iv sls r2 i2 ∧ (∀ g, T g → g < W.heap.size) ∧ lo ≤ W.heap.size ∧ base ≤ lo
section
variable {base lo : Nat} {W W' : World} {p mA mN mS mB q : Nat} {n : Int} {r1 r2 : List (List Int)} {i1 i2 : List Bool}
theorem Both.keep (h : Both base lo p mA mN mS mB q n r1 i1 r2 i2 W) (hb : Below W.heap.size W W') : Both base lo p mA mN mS mB q n r1 i1 r2 i2 W' := by
  obtain ⟨T, fv, al, nl, sl, fr, cv, iv, sls, h1, h2, h3, h4, h5⟩ := h
  exact ⟨T, fv, al, nl, sl, fr, cv, iv, sls, h1.keep hb, h2.keep hb, fun g hg => Nat.lt_of_lt_of_le (h3 g hg) hb.size, Nat.le_trans h4 hb.size, h5⟩
theorem addP_yes {l : List Int} {rows : List (List Int)} (h : okF n l = true) : addP n rows l = rows ++ [normC l] := by unfold addP; rw [if_pos h]
theorem addP_no {l : List Int} {rows : List (List Int)} (h : okF n l = false) : addP n rows l = rows := by unfold addP; rw [if_neg (by rw [h]; exact Bool.false_ne_true)]
theorem addI_yes {l : List Int} {is : List Bool} (h : okF n l = true) : addI n is l = is ++ [true] := by unfold addI; rw [if_pos h]
theorem addI_no {l : List Int} {is : List Bool} (h : okF n l = false) : addI n is l = is := by unfold addI; rw [if_neg (by rw [h]; exact Bool.false_ne_true)]
theorem addV_yes {l : List Int} {rows : List (List Int)} (h : okF n l = true) : addV n rows l = rows.length := by unfold addV; rw [if_pos h]
theorem addV_no {l : List Int} {rows : List (List Int)} (h : okF n l = false) : addV n rows l = -1 := by unfold addV; rw [if_neg (by rw [h]; exact Bool.false_ne_true)]
theorem both_Add (h : Both base lo p mA mN mS mB q n r1 i1 r2 i2 W) (hn : 0 ≤ n ∧ n ≤ 1048576) (hr1 : r1.length ≤ 1000) (A : Option Addr) (m c : Nat) (l : List Int) (hm : m ≤ 1000) (hr : Rd W A m (ivs l)) :
    Calls Try.prog 57 #[.pointer (some ⟨p, 0, none⟩), .slice A m c] W fun e w' => e = .returned (.int .i64 (addV n r1 l)) ∧ Both base lo p mA mN mS mB q n (addP n r1 l) (addI n i1 l) r2 i2 w' ∧ Below base W w' := by
  obtain ⟨T, fv, al, nl, sl, fr, cv, iv, sls, h1, h2, h3, h4, h5⟩ := h
  refine (watch_AddK h1 h3 (Nat.le_trans h5 h4) hn hr1 A m c l hm hr).mono ?_
  rintro e w' (⟨hf, he, hK, hb⟩ | ⟨hf, he, fv', al', nl', sl', fr', hK, hb, hF, hv⟩)
  · rw [addV_no hf, addP_no hf, addI_no hf]
    exact ⟨he, ⟨T, fv, al, nl, sl, fr, cv, iv, sls, hK, h2.keep hb, fun g hg => Nat.lt_of_lt_of_le (h3 g hg) hb.size, Nat.le_trans h4 hb.size, h5⟩, hb.mono (Nat.le_trans h5 h4)⟩
  · rw [addV_yes hf, addP_yes hf, addI_yes hf]
    have h2' := (h2.prog h1.st.fresh hF h1.tl h1.tf)
    refine ⟨he, ⟨fun g => T g ∨ fv'.ownBlock = some g, fv', al', nl', sl', fr', cv, iv, sls, hK, ?_, fun g hg => ?_, Nat.le_trans h4 hb.size, h5⟩, hb⟩
    · have h2m : RefM lo (fun g => T g ∨ fv'.ownBlock = some g) W q n cv iv sls r2 i2 := h2.more (fun g hg => .inl hg) (fun g hg => hg.elim .inl (fun e => hv g e))
      exact h2m.prog h1.st.fresh hF (fun g hg => .inl (h1.tl g hg)) (fun g hg => .inl (h1.tf g hg))
    · rcases hg with hg | hg
      · exact Nat.lt_of_lt_of_le (h3 g hg) hb.size
      · exact (own_lt hK.st.fresh hg).2
theorem KeM.ref {T : Nat → Prop} {fv : Value} {al nl sl bl : List (Int × Value)} {fr : List Int} {rows r2 : List (List Int)} {is i2 : List Bool} {cv iv : Value} {sls : List Sl} (h : KeM base lo T W p mA mN mS mB n fv al nl sl bl fr rows is) (k : RefM lo T W q n cv iv sls r2 i2) (hf : Fr (fun g => g = q ∨ cv.ownBlock = some g ∨ iv.ownBlock = some g) W W') : KeM base lo T W' p mA mN mS mB n fv al nl sl bl fr rows is :=
  h.frm hf (fun g e => by
    rcases e with e | e | e
    · subst e; exact ⟨k.tq, k.lq, fun e => own_blk_ne h.st.fresh k.box (by decide) e.symm⟩
    · exact ⟨k.tc g e, (own_lt k.cs e).1, own_two k.cs h.st.fresh (by decide) g e⟩
    · exact ⟨k.ti g e, (own_lt k.ib e).1, own_two k.ib h.st.fresh (by decide) g e⟩)
theorem both_RefAdd (h : Both base lo p mA mN mS mB q n r1 i1 r2 i2 W) (hn : 0 ≤ n ∧ n ≤ 1048576) (hr2 : r2.length ≤ 1000) (A : Option Addr) (m c : Nat) (l : List Int) (hm : m ≤ 1000) (hr : Rd W A m (ivs l)) :
    Calls Try.prog 58 #[.pointer (some ⟨q, 0, none⟩), .slice A m c] W fun e w' => e = .returned (.int .i64 (addV n r2 l)) ∧ Both base lo p mA mN mS mB q n r1 i1 (addP n r2 l) (addI n i2 l) w' ∧ Below base W w' := by
  obtain ⟨T, fv, al, nl, sl, fr, cv, iv, sls, h1, h2, h3, h4, h5⟩ := h
  refine (ref25_Add h2 h3 h4 hn hr2 A m c l hm hr).mono ?_
  rintro e w' (⟨hf, he, hK, hb⟩ | ⟨hf, he, cv', iv', s, hK, hF, hv1, hv2⟩)
  · rw [addV_no hf, addP_no hf, addI_no hf]
    exact ⟨he, ⟨T, fv, al, nl, sl, fr, cv, iv, sls, h1.keep hb, hK, fun g hg => Nat.lt_of_lt_of_le (h3 g hg) hb.size, Nat.le_trans h4 hb.size, h5⟩, hb.mono (Nat.le_trans h5 h4)⟩
  · rw [addV_yes hf, addP_yes hf, addI_yes hf]
    have hb : Below base W w' := hF.below (Nat.le_trans h5 h4) (fun g e => by
      rcases e with e | e | e
      · have := h2.lq; omega
      · have := (own_lt h2.cs e).1; omega
      · have := (own_lt h2.ib e).1; omega)
    have h1m : KeM base lo (fun g => T g ∨ cv'.ownBlock = some g ∨ iv'.ownBlock = some g) W p mA mN mS mB n fv al nl sl [] fr r1 i1 := h1.more (fun g hg => .inl hg) (fun g hg => hg.elim .inl (fun e => e.elim (hv1 g) (hv2 g)))
    have h2m : RefM lo (fun g => T g ∨ cv'.ownBlock = some g ∨ iv'.ownBlock = some g) W q n cv iv sls r2 i2 := h2.more (fun g hg => .inl hg) (fun g hg => hg.elim .inl (fun e => e.elim (hv1 g) (hv2 g)))
    refine ⟨he, ⟨_, fv, al, nl, sl, fr, cv', iv', sls ++ [s], h1m.ref h2m hF, hK, fun g hg => ?_, Nat.le_trans h4 hb.size, h5⟩, hb⟩
    rcases hg with hg | hg | hg
    · exact Nat.lt_of_lt_of_le (h3 g hg) hb.size
    · exact (own_lt hK.cs hg).2
    · exact (own_lt hK.ib hg).2
theorem both_Drop (h : Both base lo p mA mN mS mB q n r1 i1 r2 i2 W) (id : Int) :
    Calls Try.prog 65 #[.pointer (some ⟨p, 0, none⟩), .int .i64 id] W fun e w' => e = .returned (.bool (keptB i1 id)) ∧ Both base lo p mA mN mS mB q n r1 (dropP i1 id) r2 i2 w' ∧ Below base W w' := by
  obtain ⟨T, fv, al, nl, sl, fr, cv, iv, sls, h1, h2, h3, h4, h5⟩ := h
  refine (watch_DropK h1 (Nat.le_trans h5 h4) id).mono ?_
  rintro e w' ⟨he, al', nl', sl', hK, hb, hF⟩
  exact ⟨he, ⟨T, fv, al', nl', sl', fr, cv, iv, sls, hK, h2.prog h1.st.fresh (hF.more (fun g _ e => .inl e)) h1.tl h1.tf, fun g hg => Nat.lt_of_lt_of_le (h3 g hg) hb.size, Nat.le_trans h4 hb.size, h5⟩, hb⟩
theorem both_RefDrop (h : Both base lo p mA mN mS mB q n r1 i1 r2 i2 W) (hr2 : r2.length ≤ 1000) (id : Int) :
    Calls Try.prog 66 #[.pointer (some ⟨q, 0, none⟩), .int .i64 id] W fun e w' => e = .returned (.bool (keptB i2 id)) ∧ Both base lo p mA mN mS mB q n r1 i1 r2 (dropP i2 id) w' ∧ Below base W w' := by
  obtain ⟨T, fv, al, nl, sl, fr, cv, iv, sls, h1, h2, h3, h4, h5⟩ := h
  refine (ref25_Drop h2 h4 hr2 id).mono ?_
  rintro e w' ⟨he, hK, hF⟩
  have hF2 : Fr (fun g => g = q ∨ cv.ownBlock = some g ∨ iv.ownBlock = some g) W w' := hF.more (fun g _ e => .inr (.inr e))
  have hb : Below base W w' := hF.below (Nat.le_trans h5 h4) (fun g e => by have := (own_lt h2.ib e).1; omega)
  exact ⟨he, ⟨T, fv, al, nl, sl, fr, cv, iv, sls, h1.ref h2 hF2, hK, fun g hg => Nat.lt_of_lt_of_le (h3 g hg) hb.size, Nat.le_trans h4 hb.size, h5⟩, hb⟩
/-- what is asked of both -/
theorem both_Clause (h : Both base lo p mA mN mS mB q n r1 i1 r2 i2 W) (hrow : ∀ r ∈ r1, r.length ≤ 1000) (id : Int) :
    Calls Try.prog 67 #[.pointer (some ⟨p, 0, none⟩), .int .i64 id] W fun e w' => ∃ A c, e = .returned (.slice A (clP r1 i1 id).length c) ∧ Rd w' A (clP r1 i1 id).length (ivs (clP r1 i1 id)) ∧ Below W.heap.size W w' := by
  obtain ⟨T, fv, al, nl, sl, fr, cv, iv, sls, h1, h2, h3, h4, h5⟩ := h
  exact watch_Clause h1 hrow id
theorem both_RefClause (h : Both base lo p mA mN mS mB q n r1 i1 r2 i2 W) (hr2 : r2.length ≤ 1000) (id : Int) :
    Calls Try.prog 68 #[.pointer (some ⟨q, 0, none⟩), .int .i64 id] W fun e w' => ∃ A c, e = .returned (.slice A (clP r2 i2 id).length c) ∧ Rd w' A (clP r2 i2 id).length (ivs (clP r2 i2 id)) ∧ Below W.heap.size W w' := by
  obtain ⟨T, fv, al, nl, sl, fr, cv, iv, sls, h1, h2, h3, h4, h5⟩ := h
  refine (ref25_Clause h2 hr2 id).mono ?_
  rintro e w' ⟨⟨A, c, he, hr⟩, hd⟩
  exact ⟨A, c, he, hd.rd hr, hd.below _⟩
theorem both_List (h : Both base lo p mA mN mS mB q n r1 i1 r2 i2 W) (hr : r1.length ≤ 1000) :
    Calls Try.prog 69 #[.pointer (some ⟨p, 0, none⟩)] W fun e w' => ∃ A c, e = .returned (.slice A (idsP i1 i1.length).length c) ∧ Rd w' A (idsP i1 i1.length).length (ivs (idsP i1 i1.length)) ∧ Below W.heap.size W w' := by
  obtain ⟨T, fv, al, nl, sl, fr, cv, iv, sls, h1, h2, h3, h4, h5⟩ := h
  exact watch_List h1 hr
theorem both_RefList (h : Both base lo p mA mN mS mB q n r1 i1 r2 i2 W) (hr : r2.length ≤ 1000) :
    Calls Try.prog 70 #[.pointer (some ⟨q, 0, none⟩)] W fun e w' => ∃ A c, e = .returned (.slice A (idsP i2 i2.length).length c) ∧ Rd w' A (idsP i2 i2.length).length (ivs (idsP i2 i2.length)) ∧ Below W.heap.size W w' := by
  obtain ⟨T, fv, al, nl, sl, fr, cv, iv, sls, h1, h2, h3, h4, h5⟩ := h
  exact ref25_List h2 hr
theorem both_Len (h : Both base lo p mA mN mS mB q n r1 i1 r2 i2 W) :
    Calls Try.prog 71 #[.pointer (some ⟨p, 0, none⟩)] W fun e w' => e = .returned (.int .i64 (idsP i1 i1.length).length) ∧ W = w' := by
  obtain ⟨T, fv, al, nl, sl, fr, cv, iv, sls, h1, h2, h3, h4, h5⟩ := h
  exact watch_Len h1
/-- both, new -/
theorem both_new {w1 : World} (h : StM base w1 p mA mN mS mB n 0 (.slice none 0 0) [] [] [] [] []) (hbase : base ≤ w1.heap.size) (hb : Below w1.heap.size w1 W) (hq : Blk W q 87 (boxR n (.slice none 0 0) (.slice none 0 0))) (hql : w1.heap.size ≤ q) :
    Both base w1.heap.size p mA mN mS mB q n [] [] [] [] W := by
  have hk := (KeM.new h (Nat.le_refl _)).keep hb
  refine ⟨fun g => g < w1.heap.size ∨ g = q, .slice none 0 0, [], [], [], [], .slice none 0 0, .slice none 0 0, [], ?_, ⟨hq, World.ownsRow_nil _ _ _ _, World.ownsRow_nil _ _ _ _, hql, rfl, fun k s row hs => by simp at hs, .inr rfl, fun g hg => by simp [Value.ownBlock] at hg, fun g hg => by simp [Value.ownBlock] at hg⟩, fun g hg => ?_, hb.size, hbase⟩
  · exact ⟨hk.st, hk.ka, hk.va, hk.kn, fun x v hx => by simp [mget] at hx, hk.il, hk.fl, hk.lt, fun g hg => .inl hg, fun g hg => by simp [Value.ownBlock] at hg⟩
  · rcases hg with hg | hg
    · exact Nat.lt_of_lt_of_le hg hb.size
    · rw [hg]; exact hq.lt
end
theorem addP_len (n : Int) (rows : List (List Int)) (l : List Int) : (addP n rows l).length ≤ rows.length + 1 := by unfold addP; split <;> simp
theorem addP_rows {n : Int} {rows : List (List Int)} {l : List Int} (h : ∀ r ∈ rows, r.length ≤ 1000) (hl : l.length ≤ 1000) : ∀ r ∈ addP n rows l, r.length ≤ 1000 := fun r hr => by
  unfold addP at hr
  split at hr
  · rcases List.mem_append.1 hr with hr | hr
    · exact h r hr
    · rw [List.mem_singleton] at hr
      subst hr
      have h2 : (normC l).length ≤ (srt l).length := List.length_filter_le _ _
      have h3 := srt_len l
      omega
  · exact h r hr
end Go.Proofs.Ytcjoohaagdihlaa.Watch
end
