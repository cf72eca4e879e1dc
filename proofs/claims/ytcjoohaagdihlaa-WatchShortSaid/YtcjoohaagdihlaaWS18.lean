/- Texts behind a row, one behind the other: RefS1, WatchK2, WatchK3. -/
import Derived.Test.YtcjoohaagdihlaaWS15
import Derived.Test.YtcjoohaagdihlaaWS17
import Derived.Test.YtcjoohaagdihlaaWS11
import Derived.Test.YtcjoohaagdihlaaWS5
section
/- The document's Norm of a clause. -/
namespace Go.Proofs.Ytcjoohaagdihlaa.Watch
open Go.RowKit Go.Lt Go.Proofs.Ytcjoohaagdihlaa.Lit Go.Proofs.Ytcjoohaagdihlaa.Sorted Go.Proofs.Ytcjoohaagdihlaa.Learn
set_option linter.unusedVariables false
set_option linter.unusedSimpArgs false

theorem good_is {x : Int} {b : Bool} (h : litGood x = b) (w : World) : Calls Try.prog 33 #[.int .i64 x] w fun e w' => e = .returned (.bool b) ∧ w = w' := h ▸ ref_Good x w
theorem rd_ne {w : World} {A : Option Addr} {n g : Nat} {t : TypeId} {xs : List Value} (h : Rd w A n xs) (hn : 0 < n) (hb : Blk w g t #[]) : ∀ ad, A = some ad → ad.block ≠ g := fun ad he e => by
  obtain ⟨a2, u, h1, _, _, h4⟩ := h.2 0 hn
  rw [he] at h1
  injection h1 with h1
  subst h1
  have hz : ad.add 0 = ad := by unfold Addr.add; rw [if_pos rfl]
  rw [hz] at h4
  unfold Blk at hb
  rw [← e] at hb
  simp [World.cell?, hb] at h4
set_option maxRecDepth 8000 in
set_option maxHeartbeats 2000000 in
theorem ref20_Norm (A : Option Addr) (n c : Nat) (l : List Int) (w : World) (hn : n ≤ 1000) (hr : Rd w A n (ivs l)) :
    Calls Try.prog 113 #[.slice A n c] w (NormOf l w) := by
  have HO := hide (okC_srt l)
  have hnI : (n : Int) ≤ 1000 := by omega
  have hb0 := (Below.refl w.heap.size w).alloc (Nat.le_refl _) (.cells #[] 3)
  have hg0 := Blk.new w 3 #[]
  have hown0 := hide (World.ownsRow_lit (base := w.heap.size) (e := 3) (size := 1) w #[] 0 (Nat.le_refl _) (by unfold maxLen; omega) rfl)
  have hr0 := hr.below hb0 (Nat.le_refl _)
  obtain ⟨w0, hw0⟩ : ∃ w0, w.alloc (.cells #[] 3) = w0 := ⟨_, rfl⟩
  rw [hw0] at hb0 hg0 hr0 hown0
  have HS := hide (ref_Sorted A n c l w0 hn hr0)
  replace hg0 := hide hg0
  have hs0 := hb0.size
  have hsz : w0.heap.size = w.heap.size + 1 := by rw [← hw0]; simp
  replace hb0 := hide hb0
  replace hr0 := hide hr0
  replace hsz := hide hsz
  clear hr
  go_enter Try.func113, Try.ntmps113
  go_wp2_with fail
  refine HS.out.mono ?_
  rintro e w1 ⟨A1, m, c1, rfl, hmn, hr1, hb1⟩
  have hmI : (m : Int) ≤ 1000 := by omega
  have hT := hide (ref_Tied A n c l w1 (by omega) (hr0.out.below hb1 (Nat.le_refl _)))
  have hbw := hide (hb0.out.trans (hb1.mono hs0))
  have hown1 := hide (own_keep hown0.out hb1)
  have hg1 := hide (hg0.out.below hb1 hg0.out.lt)
  obtain ⟨s, hs⟩ : ∃ s, srt l = s := ⟨_, rfl⟩
  rw [hs] at hr1 HO
  have hsl := hide hr1.len
  have hnorm : Hid (normC l = s.filter fun x => decide (x ≠ 0)) := hide (by unfold normC; rw [hs])
  have hsm := hide (show ∀ x, x ∈ s ↔ x ∈ l from fun x => by rw [← hs]; exact srt_mem)
  replace hs := hide hs
  replace hr1 := hide hr1
  replace hmn := hide hmn
  clear HS hr0 hown0 hg0 hb1 hb0
  obtain ⟨td, htd⟩ : ∃ td, tiedB l = td := ⟨_, rfl⟩
  rw [htd] at hT
  cases td with
  | true =>
    have hF := hide (show okC l = false by unfold okC; rw [htd]; simp)
    replace htd := hide htd
    go_wp2_with (go_at_call 141; refine hT.out.mono ?_; rintro e w2 ⟨rfl, rfl⟩)
    go_ret2
    exact ⟨hbw.out, .inl ⟨hF.out, rfl⟩⟩
  | false =>
    replace htd := hide htd
    go_wp2_with (go_at_call 141; refine hT.out.mono ?_; rintro e w2 ⟨rfl, rfl⟩)
    go_loopw [4, 6] (fun v i wr => ∃ (k j : Nat), k ≤ m ∧ j ≤ k ∧ i = .int .i64 k ∧ Hid (wr.ownsRow w.heap.size 3 1 v j (ivs ((s.take k).filter fun x => decide (x ≠ 0)))) ∧ Hid (Rd wr A1 m (ivs s)) ∧ Hid (Below w.heap.size w wr) ∧ Hid (m = 0 ∨ ∀ ad, A1 = some ad → some ad.block ≠ v.ownBlock) ∧ Hid (∀ x ∈ s.take k, litGood x = true ∧ x ≠ 1)) (fun _ i _ => m - (intOf i).toNat)
    case atStart =>
      refine ⟨0, 0, Nat.zero_le _, Nat.le_refl _, rfl, hown1, hr1, hbw, hide ?_, hide (fun x hx => by simp at hx)⟩
      rcases Nat.eq_zero_or_pos m with h0 | h0
      · exact .inl h0
      · refine .inr fun ad he e => rd_ne hr1.out h0 hg1.out ad he ?_
        simpa [Value.ownBlock] using e
    case round =>
      obtain ⟨k, j, hk, hj, rfl, hown, hrr, hb, hne, hgd⟩ := hrel
      clear hown1 hr1 hbw hg1
      obtain ⟨vA, vc, hv, hjc, hcm, _⟩ := Rd.of_own hown.out
      subst hv
      have hjI : (j : Int) ≤ 1000 := by omega
      by_cases hlt : k < m
      · have hltI : (k : Int) < m := by omega
        obtain ⟨ad, x, hA, hB, hx, hc⟩ := hrr.out.get hlt
        subst hA
        have hxs := hide (List.mem_of_getElem? hx)
        have hst := hide (show s.take (k + 1) = s.take k ++ [x] by rw [List.take_add_one, hx]; rfl)
        replace hx := hide hx
        obtain ⟨g, hg⟩ : ∃ g, litGood x = g := ⟨_, rfl⟩
        have HG := fun w => hide (good_is hg w)
        replace hg := hide hg
        cases g with
        | false =>
          have hF := hide (show okC l = false by
            unfold okC
            rw [show (l.any fun x => !litGood x) = true from List.any_eq_true.2 ⟨x, (hsm.out x).1 hxs.out, by rw [hg.out]; rfl⟩]
            simp)
          go_wp2_with (go_at_call 33; refine (HG _).out.mono ?_; rintro e w2 ⟨rfl, rfl⟩)
          go_ret2
          exact ⟨hb.out, .inl ⟨hF.out, rfl⟩⟩
        | true =>
          by_cases hx1 : x = 1
          · subst hx1
            have hF := hide (show okC l = false by
              unfold okC
              rw [show hasB l 1 = true from has_iff.2 ((hsm.out 1).1 hxs.out)]
              simp)
            go_wp2_with (go_at_call 33; refine (HG _).out.mono ?_; rintro e w2 ⟨rfl, rfl⟩)
            go_ret2
            exact ⟨hb.out, .inl ⟨hF.out, rfl⟩⟩
          · have b1 : (x == 1) = false := by simp [hx1]
            have hgN := hide (show ∀ y ∈ s.take (k + 1), litGood y = true ∧ y ≠ 1 from fun y hy => by
              rw [hst.out, List.mem_append] at hy
              rcases hy with hy | hy
              · exact hgd.out y hy
              · rw [List.mem_singleton] at hy
                subst hy
                exact ⟨hg.out, hx1⟩)
            by_cases hx0 : x = 0
            · subst hx0
              have hfN : ((s.take (k + 1)).filter fun x => decide (x ≠ 0)) = (s.take k).filter fun x => decide (x ≠ 0) := by rw [hst.out, List.filter_append]; simp
              have hownN : Hid (wr.ownsRow w.heap.size 3 1 (.slice vA j vc) j (ivs ((s.take (k + 1)).filter fun x => decide (x ≠ 0)))) := hide (by rw [hfN]; exact hown.out)
              replace hfN := hide hfN
              clear hown hgd
              go_wp2_with (go_at_call 33; refine (HG _).out.mono ?_; rintro e w2 ⟨rfl, rfl⟩)
              go_roundw
              case rel => exact ⟨k + 1, j, hlt, by omega, by go_num, hownN, hrr, hb, hne, hgN⟩
              case measure => simp [intOf]; omega
            · have b0 : (x == 0) = false := by simp [hx0]
              have b2 : (x != 0) = true := by simp [hx0]
              have hfN : ivs ((s.take (k + 1)).filter fun x => decide (x ≠ 0)) = ivs ((s.take k).filter fun x => decide (x ≠ 0)) ++ [.int .i64 x] := by
                rw [hst.out, List.filter_append]; unfold ivs; simp [hx0]
              have hbs := hide hb.out.size
              replace hfN := hide hfN
              clear hgd
              go_wp2_with (first | (go_at_call 33; refine (HG _).out.mono ?_; rintro e w2 ⟨rfl, rfl⟩) | (at_builtin; refine wpList_pushAt rfl _ _ _ rfl Try.underlying40 info_i rfl (by decide) rfl rfl hown.out hb.out (Nat.le_refl _) rfl (by simp [Value.oneCell']) (by unfold maxLen; omega) (by omega) ?_; intro v8 w8 hown8 hb8 hg8 hat8; rw [← hfN.out] at hown8; replace hown8 := hide hown8; replace hb8 := hide hb8; replace hg8 := hide hg8; replace hat8 := hide hat8))
              have hrN := hide (show Rd w8 (some ad) m (ivs s) from by
                have hFa : Fr (fun g => (Value.slice vA j vc).ownBlock = some g) wr w8 := (Fr.of_below ((Below.refl wr.heap.size wr).alloc (Nat.le_refl _) (.cells #[.int .i64 x] 3))).trans (Fr.of_grown hg8.out (fun g e => .inl e))
                refine hFa.rd hrr.out (fun a2 he e => ?_)
                rcases hne.out with h0 | h0
                · omega
                · exact h0 a2 he e.symm)
              have hneN := hide (show m = 0 ∨ ∀ a2, (some ad : Option Addr) = some a2 → some a2.block ≠ v8.ownBlock from by
                refine .inr fun a2 he e => ?_
                injection he with he
                subst he
                rcases hat8.out with h8 | h8
                · rw [h8] at e
                  rcases hne.out with h0 | h0
                  · omega
                  · exact h0 ad rfl e
                · rw [h8] at e
                  injection e with e
                  omega)
              go_roundw
              case rel => exact ⟨k + 1, j + 1, hlt, by omega, by go_num, hown8, hrN, hb8, hneN, hgN⟩
              case measure => simp [intOf]; omega
      · have hkm : k = m := by omega
        subst hkm
        have hfull : s.take k = s := by rw [← hsl.out, List.take_length]
        rw [hfull] at hown hgd
        replace hfull := hide hfull
        go_wp2
        go_ret2
        have hokl : okC l = true := by
          have h1 : hasB l 1 = false := by
            cases h : hasB l 1 with
            | false => rfl
            | true => exact absurd rfl (hgd.out 1 ((hsm.out 1).2 (has_iff.1 h))).2
          have h2 : (l.any fun x => !litGood x) = false := List.any_eq_false.2 (fun x hx => by rw [(hgd.out x ((hsm.out x).2 hx)).1]; simp)
          unfold okC
          rw [h1, htd.out, h2]
          rfl
        have hN := hown.out
        rw [← hnorm.out] at hN
        have hjl : j = (normC l).length := by
          have := hN.1
          simpa [ivs] using this.symm
        subst hjl
        obtain ⟨A9, c9, e9, _, _, hr9⟩ := Rd.of_own hN
        injection e9 with e9 _ e10
        subst e9 e10
        refine ⟨hb.out, .inr ⟨hokl, vA, vc, rfl, hr9, fun ad he => ?_⟩⟩
        subst he
        exact Nat.le_of_not_lt (fun hlt => own_low_ne hN hlt (by simp [Value.ownBlock]))
end Go.Proofs.Ytcjoohaagdihlaa.Watch
end

section
/- The document's store of clauses in memory. -/
namespace Go.Proofs.Ytcjoohaagdihlaa.Watch
open Go.RowKit Go.Lt Go.Proofs.Ytcjoohaagdihlaa.Lit Go.Proofs.Ytcjoohaagdihlaa.Sorted Go.Proofs.Ytcjoohaagdihlaa.Learn Go.Instr
open Go.Proofs.Ytcjoohaagdihlaa.Kept (Sl Sl.val)
set_option linter.unusedVariables false
set_option linter.unusedSimpArgs false

theorem own_two {w : World} {b1 s1 n1 b2 s2 n2 : Nat} {e1 e2 : TypeId} {v1 v2 : Value} {xs1 xs2 : List Value} (h : w.ownsRow b1 e1 s1 v1 n1 xs1) (k : w.ownsRow b2 e2 s2 v2 n2 xs2) (hne : e1 ≠ e2) : ∀ g, v1.ownBlock = some g → v2.ownBlock ≠ some g := by
  intro g hg hk
  rcases h.2 with ⟨rfl, _⟩ | ⟨g1, cap, cur, rfl, _, hg1, _⟩
  · simp [Value.ownBlock] at hg
  · have e1 : g1 = g := by simpa [Value.ownBlock] using hg
    subst e1
    exact own_blk_ne k (show Blk w g1 e1 cur from hg1) (fun e => hne e.symm) (by simpa [Value.ownBlock] using hk.symm)
theorem own_lt {w : World} {b s n g : Nat} {e : TypeId} {v : Value} {xs : List Value} (h : w.ownsRow b e s v n xs) (hg : v.ownBlock = some g) : b ≤ g ∧ g < w.heap.size := by
  rcases own_cases h with ⟨rfl, _⟩ | ⟨g1, cap, rfl, h1, h2, _⟩
  · simp [Value.ownBlock] at hg
  · have : g1 = g := by simpa [Value.ownBlock] using hg
    omega
abbrev boxR (n : Int) (cv iv : Value) : Array Value := #[.int .i64 n, cv, iv]
/-- the document's store in memory -/
structure RefM (lo : Nat) (T : Nat → Prop) (W : World) (q : Nat) (n : Int) (cv iv : Value) (sls : List Sl) (rows : List (List Int)) (is : List Bool) : Prop where
  box : Blk W q 87 (boxR n cv iv)
  cs : W.ownsRow lo 40 1 cv rows.length (sls.map Sl.val)
  ib : W.ownsRow lo 4 1 iv rows.length (bvs is)
  lq : lo ≤ q
  il : is.length = rows.length
  rd : ∀ (k : Nat) (s : Sl) (row : List Int), sls[k]? = some s → rows[k]? = some row → KpS W T s row
  tq : T q
  tc : ∀ g, cv.ownBlock = some g → T g
  ti : ∀ g, iv.ownBlock = some g → T g
section
variable {lo : Nat} {T : Nat → Prop} {W W' : World} {q : Nat} {n : Int} {cv iv : Value} {sls : List Sl} {rows : List (List Int)} {is : List Bool}
theorem RefM.keep (h : RefM lo T W q n cv iv sls rows is) (hb : Below W.heap.size W W') : RefM lo T W' q n cv iv sls rows is :=
  ⟨h.box.below hb h.box.lt, own_keep h.cs hb, own_keep h.ib hb, h.lq, h.il, fun k s row h1 h2 => (h.rd k s row h1 h2).keep hb, h.tq, h.tc, h.ti⟩
theorem RefM.fr {S : Nat → Prop} (h : RefM lo T W q n cv iv sls rows is) (hf : Fr S W W') (hS : ∀ g, S g → T g) (h1 : ¬ S q) (h2 : ∀ g, cv.ownBlock = some g → ¬ S g) (h3 : ∀ g, iv.ownBlock = some g → ¬ S g) : RefM lo T W' q n cv iv sls rows is :=
  ⟨hf.blk h.box h1, hf.own h.cs h2, hf.own h.ib h3, h.lq, h.il, fun k s row a b => (h.rd k s row a b).fr hf hS, h.tq, h.tc, h.ti⟩
theorem RefM.more {T' : Nat → Prop} (h : RefM lo T W q n cv iv sls rows is) (h1 : ∀ g, T g → T' g) (hv : ∀ g, T' g → T g ∨ W.heap.size ≤ g) : RefM lo T' W q n cv iv sls rows is :=
  ⟨h.box, h.cs, h.ib, h.lq, h.il, fun k s row a b => (h.rd k s row a b).more hv, h1 _ h.tq, fun g hg => h1 g (h.tc g hg), fun g hg => h1 g (h.ti g hg)⟩
/-- the program's store turns nothing of the document's -/
theorem RefM.prog {base : Nat} {fv : Value} {m : Nat} {xs : List Value} (h : RefM lo T W q n cv iv sls rows is) (hfv : W.ownsRow base 3 1 fv m xs) (hf : Fr (fun g => g < lo ∨ fv.ownBlock = some g) W W') (hl : ∀ g, g < lo → T g) (ht : ∀ g, fv.ownBlock = some g → T g) : RefM lo T W' q n cv iv sls rows is :=
  h.fr hf (fun g e => e.elim (hl g) (ht g)) (fun e => e.elim (fun e => by have := h.lq; omega) (fun e => own_blk_ne hfv h.box (by decide) e.symm)) (fun g hg e => e.elim (fun e => by have := (own_lt h.cs hg).1; omega) (fun e => own_two h.cs hfv (by decide) g hg e)) (fun g hg e => e.elim (fun e => by have := (own_lt h.ib hg).1; omega) (fun e => own_two h.ib hfv (by decide) g hg e))
theorem RefM.lens (h : RefM lo T W q n cv iv sls rows is) : sls.length = rows.length := by have := h.cs.1; simpa using this
theorem cl_no {id : Int} (h : keptB is id = false) : clP rows is id = [] := by unfold clP; rw [h]; rfl
theorem kept_neg {id : Int} (h : id < 0) : keptB is id = false := by unfold keptB; rw [decide_eq_false (by omega)]; rfl
theorem kept_big {id : Int} (h : (is.length : Int) ≤ id) : keptB is id = false := by
  cases hk : keptB is id with
  | false => rfl
  | true => have := (kept_lt hk).2.2; omega
/-- where a number stands: below 0, too high, not kept, kept -/
theorem id_cases (is : List Bool) (id : Int) : (id < 0 ∧ keptB is id = false) ∨ (¬ id < 0 ∧ (is.length : Int) ≤ id ∧ keptB is id = false) ∨ ∃ k : Nat, id = (k : Int) ∧ k < is.length ∧ is[k]? = some (keptB is id) := by
  by_cases h0 : id < 0
  · exact .inl ⟨h0, kept_neg h0⟩
  · by_cases h1 : (is.length : Int) ≤ id
    · exact .inr (.inl ⟨h0, h1, kept_big h1⟩)
    · refine .inr (.inr ⟨id.toNat, by omega, by omega, ?_⟩)
      cases hk : keptB is id with
      | true => exact kept_at hk
      | false => exact kept_not hk (by omega) (by omega)
def SliceIs (W : World) (row : List Int) (e : Ending) (w' : World) : Prop := (∃ A c, e = .returned (.slice A row.length c) ∧ Rd W A row.length (ivs row)) ∧ Dr W w'
set_option maxRecDepth 8000 in
theorem ref25_Clause (h : RefM lo T W q n cv iv sls rows is) (hr : rows.length ≤ 1000) (id : Int) :
    Calls Try.prog 68 #[.pointer (some ⟨q, 0, none⟩), .int .i64 id] W (SliceIs W (clP rows is id)) := by
  obtain ⟨cA, cc, rfl, _, _, hcr⟩ := Rd.of_own h.cs
  obtain ⟨iA, ic, rfl, _, _, hir⟩ := Rd.of_own h.ib
  have b1 : W.cell? ⟨q, 1, none⟩ = some (.slice cA rows.length cc) := h.box.cell 1
  have b2 : W.cell? ⟨q, 2, none⟩ = some (.slice iA rows.length ic) := h.box.cell 2
  obtain ⟨L, hL⟩ : ∃ L, rows.length = L := ⟨_, rfl⟩
  have hil := h.il
  rw [hL] at b1 b2 hr hcr hir hil
  have hLI : (L : Int) ≤ 1000 := by omega
  rcases id_cases is id with ⟨h0, hk⟩ | ⟨h0, h1, hk⟩ | ⟨k, rfl, hkl, hik⟩
  · rw [cl_no hk]
    have d0 : decide (id < 0) = true := decide_eq_true h0
    clear h hcr hir hL
    go_enter Try.func68, Try.ntmps68
    go_wp2
    go_ret
    exact ⟨⟨none, 0, rfl, Rd.nil _ _⟩, Dr.refl _⟩
  · rw [cl_no hk]
    rw [hil] at h1
    have d0 : decide (id < 0) = false := decide_eq_false h0
    have d1 : decide ((L : Int) ≤ id) = true := decide_eq_true h1
    clear h hcr hir hL
    go_enter Try.func68, Try.ntmps68
    go_wp2
    go_ret
    exact ⟨⟨none, 0, rfl, Rd.nil _ _⟩, Dr.refl _⟩
  · rw [hil] at hkl
    have d0 : decide ((k : Int) < 0) = false := decide_eq_false (by omega)
    have d1 : decide ((L : Int) ≤ k) = false := decide_eq_false (by omega)
    have hkI : (k : Int) < L := by omega
    obtain ⟨ia, bb, hiA, hil2, hbb, hic⟩ := hir.get hkl
    obtain ⟨ca, s, hcA, hcl, hs, hcc⟩ := hcr.get hkl
    rw [hik] at hbb
    injection hbb with hbb
    subst hiA hcA
    have hrow : rows[k]? = some rows[k] := List.getElem?_eq_getElem (by omega)
    have hKp := h.rd k s _ hs hrow
    obtain ⟨sA, sn, sc⟩ := s
    cases hk : keptB is (k : Int) with
    | false =>
      rw [hk] at hbb
      subst hbb
      rw [cl_no hk]
      clear h hcr hir hL hKp hrow hs hik
      go_enter Try.func68, Try.ntmps68
      go_wp2
      go_ret
      exact ⟨⟨none, 0, rfl, Rd.nil _ _⟩, Dr.refl _⟩
    | true =>
      rw [hk] at hbb
      subst hbb
      have hcP : clP rows is (k : Int) = rows[k] := by unfold clP; rw [if_pos hk, Int.toNat_natCast, List.getD_eq_getElem?_getD, hrow]; rfl
      rw [hcP]
      obtain ⟨row, hrw⟩ : ∃ row, rows[k] = row := ⟨_, rfl⟩
      rw [hrw] at hKp ⊢
      have hln := hide hKp.len
      have hRd := hide hKp.1
      clear hrw hcP hrow
      clear h hcr hir hL hKp hs hik
      go_enter Try.func68, Try.ntmps68
      go_wp2
      go_ret
      have hln := hln.out
      subst hln
      exact ⟨⟨sA, sc, rfl, hRd.out⟩, Dr.refl _⟩
end
end Go.Proofs.Ytcjoohaagdihlaa.Watch
end

section
/- The document's store of clauses: Drop, List, Kept, Add. -/
namespace Go.Proofs.Ytcjoohaagdihlaa.Watch
open Go.RowKit Go.Lt Go.Proofs.Ytcjoohaagdihlaa.Lit Go.Proofs.Ytcjoohaagdihlaa.Sorted Go.Proofs.Ytcjoohaagdihlaa.Learn Go.Instr
open Go.Proofs.Ytcjoohaagdihlaa.Kept (Sl Sl.val)
set_option linter.unusedVariables false
set_option linter.unusedSimpArgs false

theorem info_sl : (Try.prog.info? 40).map (fun i => (i.zero, i.size, i.bytes)) = some (some (.slice none 0 0), 1, 24) := by kernel_rfl
section
variable {lo : Nat} {T : Nat → Prop} {W W' : World} {q : Nat} {n : Int} {cv iv : Value} {sls : List Sl} {rows : List (List Int)} {is : List Bool}
set_option maxRecDepth 8000 in
theorem ref25_Drop (h : RefM lo T W q n cv iv sls rows is) (hlo : lo ≤ W.heap.size) (hr : rows.length ≤ 1000) (id : Int) :
    Calls Try.prog 66 #[.pointer (some ⟨q, 0, none⟩), .int .i64 id] W fun e w' => e = .returned (.bool (keptB is id)) ∧ RefM lo T w' q n cv iv sls rows (dropP is id) ∧ Fr (fun g => iv.ownBlock = some g) W w' := by
  have hX := h.box
  have hib := h.ib
  obtain ⟨cA, cc, rfl, _, _, hcr⟩ := Rd.of_own h.cs
  have b1 : W.cell? ⟨q, 1, none⟩ = some (.slice cA rows.length cc) := h.box.cell 1
  obtain ⟨L, hL⟩ : ∃ L, rows.length = L := ⟨_, rfl⟩
  have hil := h.il
  rw [hL] at b1 hr hib hil
  have hLI : (L : Int) ≤ 1000 := by omega
  rcases id_cases is id with ⟨h0, hk⟩ | ⟨h0, h1, hk⟩ | ⟨k, rfl, hkl, hik⟩
  · rw [hk, drop_no hk]
    have hF := hide h
    have d0 : decide (id < 0) = true := decide_eq_true h0
    clear h hcr hL hib hX
    go_enter Try.func66, Try.ntmps66
    go_wp2
    go_ret
    exact ⟨rfl, hF.out, Fr.refl _ _⟩
  · rw [hk, drop_no hk]
    have hF := hide h
    rw [hil] at h1
    have d0 : decide (id < 0) = false := decide_eq_false h0
    have d1 : decide ((L : Int) ≤ id) = true := decide_eq_true h1
    clear h hcr hL hib hX
    go_enter Try.func66, Try.ntmps66
    go_wp2
    go_ret
    exact ⟨rfl, hF.out, Fr.refl _ _⟩
  · rw [hil] at hkl
    have d0 : decide ((k : Int) < 0) = false := decide_eq_false (by omega)
    have d1 : decide ((L : Int) ≤ k) = false := decide_eq_false (by omega)
    have hkI : (k : Int) < L := by omega
    rcases own_cases hib with ⟨_, h0⟩ | ⟨g, ic, rfl, hgl, hgs, hLc, hcm⟩
    · omega
    have b2 : W.cell? ⟨q, 2, none⟩ = some (.slice (some ⟨g, 0, none⟩) L ic) := h.box.cell 2
    have hic : W.cell? ⟨g, k, none⟩ = some (.bool (keptB is (k : Int))) := own_cell hib (by unfold bvs; rw [List.getElem?_map, hik]; rfl)
    cases hk : keptB is (k : Int) with
    | false =>
      rw [drop_no hk]
      rw [hk] at hic
      have hF := hide h
      clear h hcr hL hib hik hX
      go_enter Try.func66, Try.ntmps66
      go_wp2
      go_ret
      exact ⟨rfl, hF.out, Fr.refl _ _⟩
    | true =>
      rw [hk] at hic
      have hfz := own_frozen hib k
      have hf := fr_set (S := fun x => (Value.slice (some ⟨g, 0, none⟩) L ic).ownBlock = some x) (p := ⟨g, k, none⟩) (w := W) rfl (.bool false)
      have hR : RefM lo T (W.setCell ⟨g, k, none⟩ (.bool false)) q n (.slice cA rows.length cc) (.slice (some ⟨g, 0, none⟩) L ic) sls rows (dropP is (k : Int)) := by
        refine ⟨hf.blk hX (fun e => own_blk_ne hib hX (by decide) e.symm), hf.own h.cs (fun x hx e => own_two h.cs hib (by decide) x hx e), ?_, h.lq, by rw [drop_len]; exact h.il, fun j s row a b => (h.rd j s row a b).fr hf (fun x e => h.ti x (by rw [← hL] at e; rw [← hL]; exact e)), h.tq, h.tc, h.ti⟩
        have := own_set hib k (.bool false)
        rw [hL]
        unfold dropP
        rw [if_pos hk, Int.toNat_natCast]
        unfold bvs
        rw [List.map_set]
        exact this
      replace hR := hide hR
      replace hf := hide hf
      clear h hcr hL hib hik hX
      go_enter Try.func66, Try.ntmps66
      go_wp2
      go_ret
      exact ⟨rfl, hR.out, hf.out⟩
set_option maxRecDepth 8000 in
theorem ref25_List (h : RefM lo T W q n cv iv sls rows is) (hr : rows.length ≤ 1000) :
    Calls Try.prog 70 #[.pointer (some ⟨q, 0, none⟩)] W fun e w' => ∃ A c, e = .returned (.slice A (idsP is is.length).length c) ∧ Rd w' A (idsP is is.length).length (ivs (idsP is is.length)) ∧ Below W.heap.size W w' := by
  obtain ⟨cA, cc, rfl, _, _, hcr⟩ := Rd.of_own h.cs
  obtain ⟨iA, ic, rfl, _, _, hir⟩ := Rd.of_own h.ib
  have hX := h.box
  obtain ⟨L, hL⟩ : ∃ L, rows.length = L := ⟨_, rfl⟩
  have hil := h.il
  rw [hL] at hX hr hir hil
  rw [hil]
  have hLI : (L : Int) ≤ 1000 := by omega
  have hb0 := hide ((Below.refl W.heap.size W).alloc (Nat.le_refl _) (.cells #[] 3))
  have hown0 := hide (World.ownsRow_lit (base := W.heap.size) (e := 3) (size := 1) W #[] 0 (Nat.le_refl _) (by unfold maxLen; omega) rfl)
  have hql := hX.lt
  replace hX := hide hX
  replace hir := hide hir
  replace hil := hide hil
  clear h hcr hL
  go_enter Try.func70, Try.ntmps70
  go_wp2
  go_loopw [3, 4] (fun v i wr => ∃ (k : Nat), k ≤ L ∧ i = .int .i64 k ∧ Hid (wr.ownsRow W.heap.size 3 1 v (idsP is k).length (ivs (idsP is k))) ∧ Hid (Below W.heap.size W wr)) (fun _ i _ => L - (intOf i).toNat)
  case atStart => exact ⟨0, Nat.zero_le _, rfl, hown0, hb0⟩
  case round =>
    obtain ⟨k, hk, rfl, hown, hb⟩ := hrel
    clear hown0 hb0
    have hkI : (k : Int) ≤ 1000 := by omega
    have hXr := hX.out.below hb.out hql
    have b1 : wr.cell? ⟨q, 1, none⟩ = some (.slice cA L cc) := hXr.cell 1
    have b2 : wr.cell? ⟨q, 2, none⟩ = some (.slice iA L ic) := hXr.cell 2
    by_cases hlt : k < L
    · have hltI : (k : Int) < L := by omega
      obtain ⟨ia, bb, hiA, hil2, hbb, hic⟩ := (hir.out.below hb.out (Nat.le_refl _)).get hlt
      subst hiA
      have hsu := ids_succ is k
      rw [List.getD_eq_getElem?_getD, hbb] at hsu
      simp only [Option.getD_some] at hsu
      have hln := ids_len is k
      clear hXr
      cases bb with
      | false =>
        rw [if_neg (by decide)] at hsu
        rw [← hsu] at hown
        replace hsu := hide hsu
        replace hbb := hide hbb
        go_wp2
        go_roundw
        case rel => exact ⟨k + 1, hlt, by go_num, hown, hb⟩
        case measure => simp [intOf]; omega
      | true =>
        rw [if_pos rfl] at hsu
        have hsl : (idsP is (k + 1)).length = (idsP is k).length + 1 := by rw [hsu, List.length_append]; rfl
        have hsv : ivs (idsP is (k + 1)) = ivs (idsP is k) ++ [.int .i64 k] := by rw [hsu]; unfold ivs; rw [List.map_append]; rfl
        obtain ⟨vA, vc, hv, _, _, _⟩ := Rd.of_own hown.out
        subst hv
        obtain ⟨m, hm⟩ : ∃ m, (idsP is k).length = m := ⟨_, rfl⟩
        rw [hm] at hown hln hsl ⊢
        have hmI : (m : Int) ≤ 1000 := by omega
        replace hsl := hide hsl
        replace hsv := hide hsv
        replace hsu := hide hsu
        replace hbb := hide hbb
        replace hm := hide hm
        go_wp2_with (at_builtin; refine wpList_push rfl _ _ _ rfl Try.underlying40 info_i rfl (by decide) rfl rfl hown.out hb.out (Nat.le_refl _) rfl (by simp [Value.oneCell']) (by unfold maxLen; omega) (by omega) ?_; intro v8 w8 hown8 hb8; rw [← hsv.out, ← hsl.out] at hown8; replace hown8 := hide hown8; replace hb8 := hide hb8)
        go_roundw
        case rel => exact ⟨k + 1, hlt, by go_num, hown8, hb8⟩
        case measure => simp [intOf]; omega
    · have hkL : k = L := by omega
      subst hkL
      obtain ⟨A9, c9, rfl, _, _, hr9⟩ := Rd.of_own hown.out
      replace hr9 := hide hr9
      clear hown hXr
      go_wp2
      go_ret
      exact ⟨A9, c9, rfl, hr9.out, hb.out⟩
set_option maxRecDepth 8000 in
theorem ref25_Kept (h : RefM lo T W q n cv iv sls rows is) (hr : rows.length ≤ 1000) (hall : ∀ k, k < rows.length → is[k]? = some true) :
    Calls Try.prog 60 #[.pointer (some ⟨q, 0, none⟩)] W fun e w' => ∃ A c, e = .returned (.slice A rows.length c) ∧ RdR w' A rows.length rows ∧ Below W.heap.size W w' := by
  have hsl := h.lens
  have hR := hide h
  obtain ⟨cA, cc, rfl, _, _, hcr⟩ := Rd.of_own h.cs
  obtain ⟨iA, ic, rfl, _, _, hir⟩ := Rd.of_own h.ib
  have hX := h.box
  obtain ⟨L, hL⟩ : ∃ L, rows.length = L := ⟨_, rfl⟩
  rw [hL] at hX hr hir hcr hall hsl ⊢
  have hLI : (L : Int) ≤ 1000 := by omega
  have hb0 := hide ((Below.refl W.heap.size W).alloc (Nat.le_refl _) (.cells #[] 40))
  have hown0 := hide (World.ownsRow_lit (base := W.heap.size) (e := 40) (size := 1) W #[] 0 (Nat.le_refl _) (by unfold maxLen; omega) rfl)
  have hql := hX.lt
  replace hX := hide hX
  replace hir := hide hir
  replace hcr := hide hcr
  replace hall := hide hall
  replace hL := hide hL
  clear h
  go_enter Try.func60, Try.ntmps60
  go_wp2
  go_loopw [3, 4] (fun v i wr => ∃ (k : Nat), k ≤ L ∧ i = .int .i64 k ∧ Hid (wr.ownsRow W.heap.size 40 1 v k ((sls.take k).map Sl.val)) ∧ Hid (Below W.heap.size W wr)) (fun _ i _ => L - (intOf i).toNat)
  case atStart => exact ⟨0, Nat.zero_le _, rfl, hown0, hb0⟩
  case round =>
    obtain ⟨k, hk, rfl, hown, hb⟩ := hrel
    clear hown0 hb0
    have hkI : (k : Int) ≤ 1000 := by omega
    have hXr := hX.out.below hb.out hql
    have b1 : wr.cell? ⟨q, 1, none⟩ = some (.slice cA L cc) := hXr.cell 1
    have b2 : wr.cell? ⟨q, 2, none⟩ = some (.slice iA L ic) := hXr.cell 2
    by_cases hlt : k < L
    · have hltI : (k : Int) < L := by omega
      obtain ⟨ia, bb, hiA, hil2, hbb, hic⟩ := (hir.out.below hb.out (Nat.le_refl _)).get hlt
      obtain ⟨ca, s, hcA, hcl, hs, hcc⟩ := (hcr.out.below hb.out (Nat.le_refl _)).get hlt
      subst hiA hcA
      have hbt := hall.out k hlt
      rw [hbb] at hbt
      injection hbt with hbt
      subst hbt
      have hst := hide (take_snoc Sl.val sls k s hs)
      replace hbb := hide hbb
      replace hs := hide hs
      obtain ⟨sA, sn, sc⟩ := s
      obtain ⟨vA, vc, hv, _, _, _⟩ := Rd.of_own hown.out
      subst hv
      clear hXr
      go_wp2_with (at_builtin; refine wpList_push rfl _ _ _ rfl Try.underlying54 info_sl rfl (by decide) rfl rfl hown.out hb.out (Nat.le_refl _) rfl (by simp [Value.oneCell']) (by unfold maxLen; omega) (by omega) ?_; intro v8 w8 hown8 hb8; rw [← hst.out] at hown8; replace hown8 := hide hown8; replace hb8 := hide hb8)
      go_roundw
      case rel => exact ⟨k + 1, hlt, by go_num, hown8, hb8⟩
      case measure => simp [intOf]; omega
    · have hkL : k = L := by omega
      subst hkL
      have hfull : sls.take k = sls := by rw [← hsl, List.take_length]
      rw [hfull] at hown
      obtain ⟨A9, c9, rfl, _, _, hr9⟩ := Rd.of_own hown.out
      replace hr9 := hide hr9
      clear hown hXr
      go_wp2
      go_ret
      refine ⟨A9, c9, rfl, ⟨hL.out, fun j hj => ?_⟩, hb.out⟩
      obtain ⟨ad, s, hA, hlt2, hs, hc⟩ := hr9.out.get hj
      have hj2 : j < rows.length := by have := hL.out; omega
      have hrow : rows[j]? = some rows[j] := List.getElem?_eq_getElem hj2
      exact ⟨ad, rows[j], s, hA, hlt2, hrow, hc, (hR.out.rd j s _ hs hrow).1.below hb.out (Nat.le_refl _)⟩
/-- what the document's Add comes to -/
def RefAdd (lo : Nat) (T : Nat → Prop) (W : World) (q : Nat) (n : Int) (cv iv : Value) (sls : List Sl) (rows : List (List Int)) (is : List Bool) (l : List Int) (e : Ending) (w' : World) : Prop :=
  ((okC l && fitC n l) = false ∧ e = .returned (.int .i64 (-1)) ∧ RefM lo T w' q n cv iv sls rows is ∧ Below W.heap.size W w') ∨
  ((okC l && fitC n l) = true ∧ e = .returned (.int .i64 rows.length) ∧ ∃ (cv' iv' : Value) (s : Sl), RefM lo (fun g => T g ∨ cv'.ownBlock = some g ∨ iv'.ownBlock = some g) w' q n cv' iv' (sls ++ [s]) (rows ++ [normC l]) (is ++ [true]) ∧
    Fr (fun g => g = q ∨ cv.ownBlock = some g ∨ iv.ownBlock = some g) W w' ∧ (∀ g, cv'.ownBlock = some g → T g ∨ W.heap.size ≤ g) ∧ (∀ g, iv'.ownBlock = some g → T g ∨ W.heap.size ≤ g))
theorem RefAdd_sorry : True := trivial
end
end Go.Proofs.Ytcjoohaagdihlaa.Watch
end
