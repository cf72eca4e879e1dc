/- Texts behind a row, one behind the other: Tied1, RefS1, WatchK2, Units1, Own1. -/
import Derived.Test.YtcjoohaagdihlaaWK16
import Derived.Test.YtcjoohaagdihlaaWK17
import Derived.Test.YtcjoohaagdihlaaWK19
import Derived.Test.YtcjoohaagdihlaaWK12
import Derived.Test.YtcjoohaagdihlaaWK8
import Derived.Test.YtcjoohaagdihlaaWK1
section
/- The contract of the document's Tied. -/
namespace Go.Proofs.Ytcjoohaagdihlaa.Sorted
open Go.RowKit Go.Lt Go.Proofs.Ytcjoohaagdihlaa.Lit
set_option linter.unusedVariables false
set_option linter.unusedSimpArgs false

def tieAt (l : List Int) (x : Int) : Bool := litGood x && hasB l (litNot x)
theorem tied_all {l : List Int} (h : ∀ k : Nat, k < l.length → ∀ x, l[k]? = some x → tieAt l x = false) : tiedB l = false := by
  unfold tiedB
  rw [List.any_eq_false]
  intro x hx
  obtain ⟨i, hi⟩ := List.getElem?_of_mem hx
  have := h i (List.getElem?_eq_some_iff.1 hi).1 x hi
  unfold tieAt at this
  rw [this]; simp
theorem tied_one {l : List Int} {k : Nat} {x : Int} (hx : l[k]? = some x) (h : tieAt l x = true) : tiedB l = true := by
  unfold tiedB
  rw [List.any_eq_true]
  exact ⟨x, List.mem_of_getElem? hx, h⟩

theorem ref_Tied (A : Option Addr) (n c : Nat) (l : List Int) (w : World) (hn : n ≤ 1000000) (hr : Rd w A n (ivs l)) :
    Calls Try.prog 141 #[.slice A n c] w fun e w' => e = .returned (.bool (tiedB l)) ∧ w = w' := by
  have hl := hide hr.len
  go_enter Try.func141, Try.ntmps141
  go_wp2
  go_loop [3] (fun i => ∃ k : Nat, k ≤ n ∧ i = .int .i64 k ∧ Hid (∀ j : Nat, j < k → ∀ x, l[j]? = some x → tieAt l x = false)) (fun i => n - (intOf i).toNat)
  case atStart => exact ⟨0, Nat.zero_le _, rfl, fun j hj => absurd hj (Nat.not_lt_zero _)⟩
  case round =>
    obtain ⟨k, hk, rfl, hno⟩ := hrel
    by_cases hlt : k < n
    · obtain ⟨ad, x, rfl, hB, hx, hc⟩ := hr.get hlt
      have HY := hide (fun h : tieAt l x = true => tied_one hx h)
      have HN := hide (fun h : tieAt l x = false => (show ∀ j : Nat, j < k + 1 → ∀ x, l[j]? = some x → tieAt l x = false from fun j hj y hy => by
          by_cases h1 : j < k
          · exact hno.out j h1 y hy
          · have : j = k := by omega
            subst this
            rw [hx] at hy; injection hy with hy; subst hy; exact h))
      clear hx hno
      cases hg : litGood x
      · have hf := hide (show tieAt l x = false by unfold tieAt; rw [hg]; rfl)
        have hg := hide hg
        go_wp2_with fail
        refine (ref_Good _ _).mono ?_
        rintro e w1 ⟨rfl, rfl⟩
        rw [hg.out]
        go_wp2
        go_round
        case rel => exact ⟨k + 1, hlt, by go_num, HN.out hf.out⟩
        case measure => simp [intOf]; omega
      · have ht := hide (show tieAt l x = hasB l (litNot x) by unfold tieAt; rw [hg]; rfl)
        have hg := hide hg
        cases hh : hasB l (litNot x)
        · have hh := hide hh
          go_wp2_with fail
          refine (ref_Good _ _).mono ?_
          rintro e w1 ⟨rfl, rfl⟩
          rw [hg.out]
          go_wp2_with fail
          refine (ref_Not _ _).mono ?_
          rintro e w1 ⟨rfl, rfl⟩
          go_wp2_with fail
          refine (ref_Has _ _ _ l _ _ hn hr).mono ?_
          rintro e w1 ⟨rfl, rfl⟩
          rw [hh.out]
          go_wp2
          go_round
          case rel => exact ⟨k + 1, hlt, by go_num, HN.out (ht.out.trans hh.out)⟩
          case measure => simp [intOf]; omega
        · have hh := hide hh
          go_wp2_with fail
          refine (ref_Good _ _).mono ?_
          rintro e w1 ⟨rfl, rfl⟩
          rw [hg.out]
          go_wp2_with fail
          refine (ref_Not _ _).mono ?_
          rintro e w1 ⟨rfl, rfl⟩
          go_wp2_with fail
          refine (ref_Has _ _ _ l _ _ hn hr).mono ?_
          rintro e w1 ⟨rfl, rfl⟩
          rw [hh.out]
          go_wp2
          go_ret
          exact ⟨ret_bool (HY.out (ht.out.trans hh.out)).symm, rfl⟩
    · have hkn : n = k := by omega
      subst hkn
      have HF := hide (tied_all (fun j hj => hno.out j (by have := hl.out; omega)))
      clear hno
      go_wp2
      go_ret
      exact ⟨ret_bool HF.out.symm, rfl⟩
end Go.Proofs.Ytcjoohaagdihlaa.Sorted
end

section
/- The document's Norm of a clause. -/
namespace Go.Proofs.Ytcjoohaagdihlaa.Watch
open Go.RowKit Go.Lt Go.Proofs.Ytcjoohaagdihlaa.Lit Go.Proofs.Ytcjoohaagdihlaa.Sorted Go.Proofs.Ytcjoohaagdihlaa.Learn
set_option linter.unusedVariables false
set_option linter.unusedSimpArgs false

theorem good_is {x : Int} {b : Bool} (h : litGood x = b) (w : World) : Calls Try.prog 33 #[.int .i64 x] w fun e w' => e = .returned (.bool b) ∧ w = w' := h ▸ ref_Good x w
theorem rd_ne {w : World} {A : Option Addr} {n g : Nat} {t : TypeId} {xs : List Value} (h : Rd w A n xs) (hn : 0 < n) (hb : Blk w g t #[]) : ∀ ad, A = some ad → ad.block ≠ g := fun ad he e => by
  obtain ⟨a2, u, h1, _, _, h4⟩ := h.2 0 hn
  rw [he] at h1
  injection h1 with h1
  subst h1
  have hz : ad.add 0 = ad := by unfold Addr.add; rw [if_pos rfl]
  rw [hz] at h4
  unfold Blk at hb
  rw [← e] at hb
  simp [World.cell?, hb] at h4
set_option maxRecDepth 8000 in
set_option maxHeartbeats 2000000 in
theorem ref20_Norm (A : Option Addr) (n c : Nat) (l : List Int) (w : World) (hn : n ≤ 1000) (hr : Rd w A n (ivs l)) :
    Calls Try.prog 113 #[.slice A n c] w (NormOf l w) := by
  have HO := hide (okC_srt l)
  have hnI : (n : Int) ≤ 1000 := by omega
  have hb0 := (Below.refl w.heap.size w).alloc (Nat.le_refl _) (.cells #[] 3)
  have hg0 := Blk.new w 3 #[]
  have hown0 := hide (World.ownsRow_lit (base := w.heap.size) (e := 3) (size := 1) w #[] 0 (Nat.le_refl _) (by unfold maxLen; omega) rfl)
  have hr0 := hr.below hb0 (Nat.le_refl _)
  obtain ⟨w0, hw0⟩ : ∃ w0, w.alloc (.cells #[] 3) = w0 := ⟨_, rfl⟩
  rw [hw0] at hb0 hg0 hr0 hown0
  have HS := hide (ref_Sorted A n c l w0 hn hr0)
  replace hg0 := hide hg0
  have hs0 := hb0.size
  have hsz : w0.heap.size = w.heap.size + 1 := by rw [← hw0]; simp
  replace hb0 := hide hb0
  replace hr0 := hide hr0
  replace hsz := hide hsz
  clear hr
  go_enter Try.func113, Try.ntmps113
  go_wp2_with fail
  refine HS.out.mono ?_
  rintro e w1 ⟨A1, m, c1, rfl, hmn, hr1, hb1⟩
  have hmI : (m : Int) ≤ 1000 := by omega
  have hT := hide (ref_Tied A n c l w1 (by omega) (hr0.out.below hb1 (Nat.le_refl _)))
  have hbw := hide (hb0.out.trans (hb1.mono hs0))
  have hown1 := hide (own_keep hown0.out hb1)
  have hg1 := hide (hg0.out.below hb1 hg0.out.lt)
  obtain ⟨s, hs⟩ : ∃ s, srt l = s := ⟨_, rfl⟩
  rw [hs] at hr1 HO
  have hsl := hide hr1.len
  have hnorm : Hid (normC l = s.filter fun x => decide (x ≠ 0)) := hide (by unfold normC; rw [hs])
  have hsm := hide (show ∀ x, x ∈ s ↔ x ∈ l from fun x => by rw [← hs]; exact srt_mem)
  replace hs := hide hs
  replace hr1 := hide hr1
  replace hmn := hide hmn
  clear HS hr0 hown0 hg0 hb1 hb0
  obtain ⟨td, htd⟩ : ∃ td, tiedB l = td := ⟨_, rfl⟩
  rw [htd] at hT
  cases td with
  | true =>
    have hF := hide (show okC l = false by unfold okC; rw [htd]; simp)
    replace htd := hide htd
    go_wp2_with (go_at_call 141; refine hT.out.mono ?_; rintro e w2 ⟨rfl, rfl⟩)
    go_ret2
    exact ⟨hbw.out, .inl ⟨hF.out, rfl⟩⟩
  | false =>
    replace htd := hide htd
    go_wp2_with (go_at_call 141; refine hT.out.mono ?_; rintro e w2 ⟨rfl, rfl⟩)
    go_loopw [4, 6] (fun v i wr => ∃ (k j : Nat), k ≤ m ∧ j ≤ k ∧ i = .int .i64 k ∧ Hid (wr.ownsRow w.heap.size 3 1 v j (ivs ((s.take k).filter fun x => decide (x ≠ 0)))) ∧ Hid (Rd wr A1 m (ivs s)) ∧ Hid (Below w.heap.size w wr) ∧ Hid (m = 0 ∨ ∀ ad, A1 = some ad → some ad.block ≠ v.ownBlock) ∧ Hid (∀ x ∈ s.take k, litGood x = true ∧ x ≠ 1)) (fun _ i _ => m - (intOf i).toNat)
    case atStart =>
      refine ⟨0, 0, Nat.zero_le _, Nat.le_refl _, rfl, hown1, hr1, hbw, hide ?_, hide (fun x hx => by simp at hx)⟩
      rcases Nat.eq_zero_or_pos m with h0 | h0
      · exact .inl h0
      · refine .inr fun ad he e => rd_ne hr1.out h0 hg1.out ad he ?_
        simpa [Value.ownBlock] using e
    case round =>
      obtain ⟨k, j, hk, hj, rfl, hown, hrr, hb, hne, hgd⟩ := hrel
      clear hown1 hr1 hbw hg1
      obtain ⟨vA, vc, hv, hjc, hcm, _⟩ := Rd.of_own hown.out
      subst hv
      have hjI : (j : Int) ≤ 1000 := by omega
      by_cases hlt : k < m
      · have hltI : (k : Int) < m := by omega
        obtain ⟨ad, x, hA, hB, hx, hc⟩ := hrr.out.get hlt
        subst hA
        have hxs := hide (List.mem_of_getElem? hx)
        have hst := hide (show s.take (k + 1) = s.take k ++ [x] by rw [List.take_add_one, hx]; rfl)
        replace hx := hide hx
        obtain ⟨g, hg⟩ : ∃ g, litGood x = g := ⟨_, rfl⟩
        have HG := fun w => hide (good_is hg w)
        replace hg := hide hg
        cases g with
        | false =>
          have hF := hide (show okC l = false by
            unfold okC
            rw [show (l.any fun x => !litGood x) = true from List.any_eq_true.2 ⟨x, (hsm.out x).1 hxs.out, by rw [hg.out]; rfl⟩]
            simp)
          go_wp2_with (go_at_call 33; refine (HG _).out.mono ?_; rintro e w2 ⟨rfl, rfl⟩)
          go_ret2
          exact ⟨hb.out, .inl ⟨hF.out, rfl⟩⟩
        | true =>
          by_cases hx1 : x = 1
          · subst hx1
            have hF := hide (show okC l = false by
              unfold okC
              rw [show hasB l 1 = true from has_iff.2 ((hsm.out 1).1 hxs.out)]
              simp)
            go_wp2_with (go_at_call 33; refine (HG _).out.mono ?_; rintro e w2 ⟨rfl, rfl⟩)
            go_ret2
            exact ⟨hb.out, .inl ⟨hF.out, rfl⟩⟩
          · have b1 : (x == 1) = false := by simp [hx1]
            have hgN := hide (show ∀ y ∈ s.take (k + 1), litGood y = true ∧ y ≠ 1 from fun y hy => by
              rw [hst.out, List.mem_append] at hy
              rcases hy with hy | hy
              · exact hgd.out y hy
              · rw [List.mem_singleton] at hy
                subst hy
                exact ⟨hg.out, hx1⟩)
            by_cases hx0 : x = 0
            · subst hx0
              have hfN : ((s.take (k + 1)).filter fun x => decide (x ≠ 0)) = (s.take k).filter fun x => decide (x ≠ 0) := by rw [hst.out, List.filter_append]; simp
              have hownN : Hid (wr.ownsRow w.heap.size 3 1 (.slice vA j vc) j (ivs ((s.take (k + 1)).filter fun x => decide (x ≠ 0)))) := hide (by rw [hfN]; exact hown.out)
              replace hfN := hide hfN
              clear hown hgd
              go_wp2_with (go_at_call 33; refine (HG _).out.mono ?_; rintro e w2 ⟨rfl, rfl⟩)
              go_roundw
              case rel => exact ⟨k + 1, j, hlt, by omega, by go_num, hownN, hrr, hb, hne, hgN⟩
              case measure => simp [intOf]; omega
            · have b0 : (x == 0) = false := by simp [hx0]
              have b2 : (x != 0) = true := by simp [hx0]
              have hfN : ivs ((s.take (k + 1)).filter fun x => decide (x ≠ 0)) = ivs ((s.take k).filter fun x => decide (x ≠ 0)) ++ [.int .i64 x] := by
                rw [hst.out, List.filter_append]; unfold ivs; simp [hx0]
              have hbs := hide hb.out.size
              replace hfN := hide hfN
              clear hgd
              go_wp2_with (first | (go_at_call 33; refine (HG _).out.mono ?_; rintro e w2 ⟨rfl, rfl⟩) | (at_builtin; refine wpList_pushAt rfl _ _ _ rfl Try.underlying40 info_i rfl (by decide) rfl rfl hown.out hb.out (Nat.le_refl _) rfl (by simp [Value.oneCell']) (by unfold maxLen; omega) (by omega) ?_; intro v8 w8 hown8 hb8 hg8 hat8; rw [← hfN.out] at hown8; replace hown8 := hide hown8; replace hb8 := hide hb8; replace hg8 := hide hg8; replace hat8 := hide hat8))
              have hrN := hide (show Rd w8 (some ad) m (ivs s) from by
                have hFa : Fr (fun g => (Value.slice vA j vc).ownBlock = some g) wr w8 := (Fr.of_below ((Below.refl wr.heap.size wr).alloc (Nat.le_refl _) (.cells #[.int .i64 x] 3))).trans (Fr.of_grown hg8.out (fun g e => .inl e))
                refine hFa.rd hrr.out (fun a2 he e => ?_)
                rcases hne.out with h0 | h0
                · omega
                · exact h0 a2 he e.symm)
              have hneN := hide (show m = 0 ∨ ∀ a2, (some ad : Option Addr) = some a2 → some a2.block ≠ v8.ownBlock from by
                refine .inr fun a2 he e => ?_
                injection he with he
                subst he
                rcases hat8.out with h8 | h8
                · rw [h8] at e
                  rcases hne.out with h0 | h0
                  · omega
                  · exact h0 ad rfl e
                · rw [h8] at e
                  injection e with e
                  omega)
              go_roundw
              case rel => exact ⟨k + 1, j + 1, hlt, by omega, by go_num, hown8, hrN, hb8, hneN, hgN⟩
              case measure => simp [intOf]; omega
      · have hkm : k = m := by omega
        subst hkm
        have hfull : s.take k = s := by rw [← hsl.out, List.take_length]
        rw [hfull] at hown hgd
        replace hfull := hide hfull
        go_wp2
        go_ret2
        have hokl : okC l = true := by
          have h1 : hasB l 1 = false := by
            cases h : hasB l 1 with
            | false => rfl
            | true => exact absurd rfl (hgd.out 1 ((hsm.out 1).2 (has_iff.1 h))).2
          have h2 : (l.any fun x => !litGood x) = false := List.any_eq_false.2 (fun x hx => by rw [(hgd.out x ((hsm.out x).2 hx)).1]; simp)
          unfold okC
          rw [h1, htd.out, h2]
          rfl
        have hN := hown.out
        rw [← hnorm.out] at hN
        have hjl : j = (normC l).length := by
          have := hN.1
          simpa [ivs] using this.symm
        subst hjl
        obtain ⟨A9, c9, e9, _, _, hr9⟩ := Rd.of_own hN
        injection e9 with e9 _ e10
        subst e9 e10
        refine ⟨hb.out, .inr ⟨hokl, vA, vc, rfl, hr9, fun ad he => ?_⟩⟩
        subst he
        exact Nat.le_of_not_lt (fun hlt => own_low_ne hN hlt (by simp [Value.ownBlock]))
end Go.Proofs.Ytcjoohaagdihlaa.Watch
end

section
/- The document's store of clauses in memory. -/
namespace Go.Proofs.Ytcjoohaagdihlaa.Watch
open Go.RowKit Go.Lt Go.Proofs.Ytcjoohaagdihlaa.Lit Go.Proofs.Ytcjoohaagdihlaa.Sorted Go.Proofs.Ytcjoohaagdihlaa.Learn Go.Instr
open Go.Proofs.Ytcjoohaagdihlaa.Kept (Sl Sl.val)
set_option linter.unusedVariables false
set_option linter.unusedSimpArgs false

theorem own_two {w : World} {b1 s1 n1 b2 s2 n2 : Nat} {e1 e2 : TypeId} {v1 v2 : Value} {xs1 xs2 : List Value} (h : w.ownsRow b1 e1 s1 v1 n1 xs1) (k : w.ownsRow b2 e2 s2 v2 n2 xs2) (hne : e1 ≠ e2) : ∀ g, v1.ownBlock = some g → v2.ownBlock ≠ some g := by
  intro g hg hk
  rcases h.2 with ⟨rfl, _⟩ | ⟨g1, cap, cur, rfl, _, hg1, _⟩
  · simp [Value.ownBlock] at hg
  · have e1 : g1 = g := by simpa [Value.ownBlock] using hg
    subst e1
    exact own_blk_ne k (show Blk w g1 e1 cur from hg1) (fun e => hne e.symm) (by simpa [Value.ownBlock] using hk.symm)
theorem own_lt {w : World} {b s n g : Nat} {e : TypeId} {v : Value} {xs : List Value} (h : w.ownsRow b e s v n xs) (hg : v.ownBlock = some g) : b ≤ g ∧ g < w.heap.size := by
  rcases own_cases h with ⟨rfl, _⟩ | ⟨g1, cap, rfl, h1, h2, _⟩
  · simp [Value.ownBlock] at hg
  · have : g1 = g := by simpa [Value.ownBlock] using hg
    omega
abbrev boxR (n : Int) (cv iv : Value) : Array Value := #[.int .i64 n, cv, iv]
/-- the document's store in memory -/
structure RefM (lo : Nat) (T : Nat → Prop) (W : World) (q : Nat) (n : Int) (cv iv : Value) (sls : List Sl) (rows : List (List Int)) (is : List Bool) : Prop where
  box : Blk W q 87 (boxR n cv iv)
  cs : W.ownsRow lo 40 1 cv rows.length (sls.map Sl.val)
  ib : W.ownsRow lo 4 1 iv rows.length (bvs is)
  lq : lo ≤ q
  il : is.length = rows.length
  rd : ∀ (k : Nat) (s : Sl) (row : List Int), sls[k]? = some s → rows[k]? = some row → KpS W T s row
  tq : T q
  tc : ∀ g, cv.ownBlock = some g → T g
  ti : ∀ g, iv.ownBlock = some g → T g
section
variable {lo : Nat} {T : Nat → Prop} {W W' : World} {q : Nat} {n : Int} {cv iv : Value} {sls : List Sl} {rows : List (List Int)} {is : List Bool}
theorem RefM.keep (h : RefM lo T W q n cv iv sls rows is) (hb : Below W.heap.size W W') : RefM lo T W' q n cv iv sls rows is :=
  ⟨h.box.below hb h.box.lt, own_keep h.cs hb, own_keep h.ib hb, h.lq, h.il, fun k s row h1 h2 => (h.rd k s row h1 h2).keep hb, h.tq, h.tc, h.ti⟩
theorem RefM.fr {S : Nat → Prop} (h : RefM lo T W q n cv iv sls rows is) (hf : Fr S W W') (hS : ∀ g, S g → T g) (h1 : ¬ S q) (h2 : ∀ g, cv.ownBlock = some g → ¬ S g) (h3 : ∀ g, iv.ownBlock = some g → ¬ S g) : RefM lo T W' q n cv iv sls rows is :=
  ⟨hf.blk h.box h1, hf.own h.cs h2, hf.own h.ib h3, h.lq, h.il, fun k s row a b => (h.rd k s row a b).fr hf hS, h.tq, h.tc, h.ti⟩
theorem RefM.more {T' : Nat → Prop} (h : RefM lo T W q n cv iv sls rows is) (h1 : ∀ g, T g → T' g) (hv : ∀ g, T' g → T g ∨ W.heap.size ≤ g) : RefM lo T' W q n cv iv sls rows is :=
  ⟨h.box, h.cs, h.ib, h.lq, h.il, fun k s row a b => (h.rd k s row a b).more hv, h1 _ h.tq, fun g hg => h1 g (h.tc g hg), fun g hg => h1 g (h.ti g hg)⟩
/-- the program's store turns nothing of the document's -/
theorem RefM.prog {base : Nat} {fv : Value} {m : Nat} {xs : List Value} (h : RefM lo T W q n cv iv sls rows is) (hfv : W.ownsRow base 3 1 fv m xs) (hf : Fr (fun g => g < lo ∨ fv.ownBlock = some g) W W') (hl : ∀ g, g < lo → T g) (ht : ∀ g, fv.ownBlock = some g → T g) : RefM lo T W' q n cv iv sls rows is :=
  h.fr hf (fun g e => e.elim (hl g) (ht g)) (fun e => e.elim (fun e => by have := h.lq; omega) (fun e => own_blk_ne hfv h.box (by decide) e.symm)) (fun g hg e => e.elim (fun e => by have := (own_lt h.cs hg).1; omega) (fun e => own_two h.cs hfv (by decide) g hg e)) (fun g hg e => e.elim (fun e => by have := (own_lt h.ib hg).1; omega) (fun e => own_two h.ib hfv (by decide) g hg e))
theorem RefM.lens (h : RefM lo T W q n cv iv sls rows is) : sls.length = rows.length := by have := h.cs.1; simpa using this
theorem cl_no {id : Int} (h : keptB is id = false) : clP rows is id = [] := by unfold clP; rw [h]; rfl
theorem kept_neg {id : Int} (h : id < 0) : keptB is id = false := by unfold keptB; rw [decide_eq_false (by omega)]; rfl
theorem kept_big {id : Int} (h : (is.length : Int) ≤ id) : keptB is id = false := by
  cases hk : keptB is id with
  | false => rfl
  | true => have := (kept_lt hk).2.2; omega
/-- where a number stands: below 0, too high, not kept, kept -/
theorem id_cases (is : List Bool) (id : Int) : (id < 0 ∧ keptB is id = false) ∨ (¬ id < 0 ∧ (is.length : Int) ≤ id ∧ keptB is id = false) ∨ ∃ k : Nat, id = (k : Int) ∧ k < is.length ∧ is[k]? = some (keptB is id) := by
  by_cases h0 : id < 0
  · exact .inl ⟨h0, kept_neg h0⟩
  · by_cases h1 : (is.length : Int) ≤ id
    · exact .inr (.inl ⟨h0, h1, kept_big h1⟩)
    · refine .inr (.inr ⟨id.toNat, by omega, by omega, ?_⟩)
      cases hk : keptB is id with
      | true => exact kept_at hk
      | false => exact kept_not hk (by omega) (by omega)
def SliceIs (W : World) (row : List Int) (e : Ending) (w' : World) : Prop := (∃ A c, e = .returned (.slice A row.length c) ∧ Rd W A row.length (ivs row)) ∧ Dr W w'
set_option maxRecDepth 8000 in
theorem ref25_Clause (h : RefM lo T W q n cv iv sls rows is) (hr : rows.length ≤ 1000) (id : Int) :
    Calls Try.prog 68 #[.pointer (some ⟨q, 0, none⟩), .int .i64 id] W (SliceIs W (clP rows is id)) := by
  obtain ⟨cA, cc, rfl, _, _, hcr⟩ := Rd.of_own h.cs
  obtain ⟨iA, ic, rfl, _, _, hir⟩ := Rd.of_own h.ib
  have b1 : W.cell? ⟨q, 1, none⟩ = some (.slice cA rows.length cc) := h.box.cell 1
  have b2 : W.cell? ⟨q, 2, none⟩ = some (.slice iA rows.length ic) := h.box.cell 2
  obtain ⟨L, hL⟩ : ∃ L, rows.length = L := ⟨_, rfl⟩
  have hil := h.il
  rw [hL] at b1 b2 hr hcr hir hil
  have hLI : (L : Int) ≤ 1000 := by omega
  rcases id_cases is id with ⟨h0, hk⟩ | ⟨h0, h1, hk⟩ | ⟨k, rfl, hkl, hik⟩
  · rw [cl_no hk]
    have d0 : decide (id < 0) = true := decide_eq_true h0
    clear h hcr hir hL
    go_enter Try.func68, Try.ntmps68
    go_wp2
    go_ret
    exact ⟨⟨none, 0, rfl, Rd.nil _ _⟩, Dr.refl _⟩
  · rw [cl_no hk]
    rw [hil] at h1
    have d0 : decide (id < 0) = false := decide_eq_false h0
    have d1 : decide ((L : Int) ≤ id) = true := decide_eq_true h1
    clear h hcr hir hL
    go_enter Try.func68, Try.ntmps68
    go_wp2
    go_ret
    exact ⟨⟨none, 0, rfl, Rd.nil _ _⟩, Dr.refl _⟩
  · rw [hil] at hkl
    have d0 : decide ((k : Int) < 0) = false := decide_eq_false (by omega)
    have d1 : decide ((L : Int) ≤ k) = false := decide_eq_false (by omega)
    have hkI : (k : Int) < L := by omega
    obtain ⟨ia, bb, hiA, hil2, hbb, hic⟩ := hir.get hkl
    obtain ⟨ca, s, hcA, hcl, hs, hcc⟩ := hcr.get hkl
    rw [hik] at hbb
    injection hbb with hbb
    subst hiA hcA
    have hrow : rows[k]? = some rows[k] := List.getElem?_eq_getElem (by omega)
    have hKp := h.rd k s _ hs hrow
    obtain ⟨sA, sn, sc⟩ := s
    cases hk : keptB is (k : Int) with
    | false =>
      rw [hk] at hbb
      subst hbb
      rw [cl_no hk]
      clear h hcr hir hL hKp hrow hs hik
      go_enter Try.func68, Try.ntmps68
      go_wp2
      go_ret
      exact ⟨⟨none, 0, rfl, Rd.nil _ _⟩, Dr.refl _⟩
    | true =>
      rw [hk] at hbb
      subst hbb
      have hcP : clP rows is (k : Int) = rows[k] := by unfold clP; rw [if_pos hk, Int.toNat_natCast, List.getD_eq_getElem?_getD, hrow]; rfl
      rw [hcP]
      obtain ⟨row, hrw⟩ : ∃ row, rows[k] = row := ⟨_, rfl⟩
      rw [hrw] at hKp ⊢
      have hln := hide hKp.len
      have hRd := hide hKp.1
      clear hrw hcP hrow
      clear h hcr hir hL hKp hs hik
      go_enter Try.func68, Try.ntmps68
      go_wp2
      go_ret
      have hln := hln.out
      subst hln
      exact ⟨⟨sA, sc, rfl, hRd.out⟩, Dr.refl _⟩
end
end Go.Proofs.Ytcjoohaagdihlaa.Watch
end

section
/- All that clauses say of values: the plain law of the document's Units. No program in sight. -/
namespace Go.Proofs.Ytcjoohaagdihlaa.Learn
open Go.RowKit Go.Lt Go.Proofs.Ytcjoohaagdihlaa.Lit Go.Proofs.Ytcjoohaagdihlaa.Sorted
set_option linter.unusedVariables false
set_option linter.unusedSimpArgs false

/-- a literal is set -/
def setV (v : List Int) (x : Int) : List Int := v.set (x / 2).toNat (if x % 2 = 1 then 0 else 1)
abbrev uOf (v : List Int) (c : List Int) : Int := unitG (litV v) (-1) c
/-- one pass over all clauses -/
def passP : List Int → List (List Int) → Bool → Option (List Int × Bool)
  | v, [], m => some (v, m)
  | v, c :: cs, m => if valG (litV v) 0 c = 0 then none else if 1 < uOf v c then passP (setV v (uOf v c)) cs true else passP v cs m
/-- what the passes come to -/
inductive UnitsIs (cs : List (List Int)) : List Int → Option (List Int) → Prop where
  | no {v : List Int} (h : passP v cs false = none) : UnitsIs cs v none
  | done {v out : List Int} (h : passP v cs false = some (out, false)) : UnitsIs cs v (some out)
  | more {v out : List Int} {r : Option (List Int)} (h : passP v cs false = some (out, true)) (h2 : UnitsIs cs out r) : UnitsIs cs v r
theorem unit_mem {V : Int → Int} : ∀ (c : List Int) (left : Int), 1 < unitG V left c → unitG V left c = left ∨ (unitG V left c ∈ c ∧ V (unitG V left c) = 2 ∧ litGood (unitG V left c) = true)
  | [], left, h => .inl rfl
  | x :: c, left, h => by
    unfold unitG at h ⊢
    by_cases h1 : V x = 1 ∨ (V x = 2 ∧ (litGood x = false ∨ (0 ≤ left ∧ left ≠ x)))
    · rw [if_pos h1] at h; omega
    · rw [if_neg h1] at h ⊢
      by_cases h2 : V x = 2
      · rw [if_pos h2] at h ⊢
        have hg : litGood x = true := by
          cases hg : litGood x with
          | true => rfl
          | false => exact absurd (.inr ⟨h2, .inl hg⟩) h1
        rcases unit_mem c x h with e | ⟨a, b, d⟩
        · rw [e]; exact .inr ⟨List.mem_cons_self, h2, hg⟩
        · exact .inr ⟨List.mem_cons_of_mem _ a, b, d⟩
      · rw [if_neg h2] at h ⊢
        rcases unit_mem c left h with e | ⟨a, b, d⟩
        · exact .inl e
        · exact .inr ⟨List.mem_cons_of_mem _ a, b, d⟩
theorem unit_in {v : List Int} {c : List Int} (h : 1 < uOf v c) : uOf v c ∈ c ∧ litV v (uOf v c) = 2 ∧ litGood (uOf v c) = true :=
  (unit_mem c (-1) h).elim (fun e => absurd h (by unfold uOf; rw [e]; omega)) id
/-- how many values are open -/
def openN (v : List Int) : Nat := v.countP fun a => !decide (a = 0 ∨ a = 1)
theorem open_at {v : List Int} {x : Int} (hg : litGood x = true) (h1 : 1 < x) (hl : x / 2 < v.length) (h : litV v x = 2) : ¬ (v.getD (x / 2).toNat 0 = 0 ∨ v.getD (x / 2).toNat 0 = 1) := by
  unfold litV at h
  rw [if_pos hg, if_neg (show ¬ x / 2 = 0 by omega), if_pos hl] at h
  intro h2
  have h3 : triV (v.getD (x / 2).toNat 0) = v.getD (x / 2).toNat 0 := by unfold triV; rw [if_pos h2]
  rw [h3] at h
  unfold triNot at h
  split at h
  · split at h
    · omega
    · split at h <;> omega
  · omega
theorem open_set {v : List Int} {x : Int} (hg : litGood x = true) (h1 : 1 < x) (hl : x / 2 < v.length) (h : litV v x = 2) : openN (setV v x) < openN v := by
  have h2 := open_at hg h1 hl h
  have hk : (x / 2).toNat < v.length := by omega
  have he : v.getD (x / 2).toNat 0 = v[(x / 2).toNat] := by simp [List.getD, hk]
  rw [he] at h2
  unfold openN setV
  have hp : (v.countP fun a => !decide (a = 0 ∨ a = 1)) ≥ 1 := List.countP_pos_iff.2 ⟨v[(x / 2).toNat], List.getElem_mem hk, by simp only [decide_eq_false h2]; rfl⟩
  rw [List.countP_set hk]
  have e1 : (!decide (v[(x / 2).toNat] = 0 ∨ v[(x / 2).toNat] = 1)) = true := by rw [decide_eq_false h2]; rfl
  have e2 : (!decide ((if x % 2 = 1 then (0 : Int) else 1) = 0 ∨ (if x % 2 = 1 then (0 : Int) else 1) = 1)) = false := by split <;> decide
  rw [if_pos e1, if_neg (by rw [e2]; exact Bool.false_ne_true)]
  omega
theorem setV_len (v : List Int) (x : Int) : (setV v x).length = v.length := by simp [setV]
theorem pass_done : ∀ (cs : List (List Int)) (v : List Int) (m : Bool) (v' : List Int), passP v cs m = some (v', false) → m = false ∧ v' = v ∧ ∀ c ∈ cs, Clo (litV v) c
  | [], v, m, v', h => by
    injection h with h
    injection h with h1 h2
    exact ⟨h2, h1.symm, fun c hc => absurd hc List.not_mem_nil⟩
  | c :: cs, v, m, v', h => by
    unfold passP at h
    by_cases h1 : valG (litV v) 0 c = 0
    · rw [if_pos h1] at h; cases h
    · rw [if_neg h1] at h
      by_cases h2 : 1 < uOf v c
      · rw [if_pos h2] at h
        have := (pass_done cs _ _ _ h).1
        cases this
      · rw [if_neg h2] at h
        obtain ⟨a, b, d⟩ := pass_done cs _ _ _ h
        refine ⟨a, b, fun y hy => ?_⟩
        rcases List.mem_cons.1 hy with rfl | hy
        · exact ⟨h1, h2⟩
        · exact d y hy
theorem units_done {cs : List (List Int)} {v : List Int} {r : Option (List Int)} (h : UnitsIs cs v r) : ∀ out, r = some out → ∀ c ∈ cs, Clo (litV out) c := by
  induction h with
  | no h => intro out e; cases e
  | done h => intro out e; injection e with e; subst e; obtain ⟨_, e, h2⟩ := pass_done _ _ _ _ h; rw [e]; exact h2
  | more h h2 ih => exact ih
/-- a pass so far -/
def passTo (v : List Int) (m : Bool) (cs : List (List Int)) (k : Nat) (cur : List Int) (m' : Bool) : Prop := passP v cs m = passP cur (cs.drop k) m'
theorem pass_zero (v : List Int) (m : Bool) (cs : List (List Int)) : passTo v m cs 0 v m := rfl
section
variable {v cur : List Int} {m m' : Bool} {cs : List (List Int)} {k : Nat} {c : List Int}
theorem drop_at (hc : cs[k]? = some c) : cs.drop k = c :: cs.drop (k + 1) := by
  obtain ⟨h, e⟩ := List.getElem?_eq_some_iff.1 hc
  rw [List.drop_eq_getElem_cons h, e]
theorem pass_no (h : passTo v m cs k cur m') (hc : cs[k]? = some c) (h0 : valG (litV cur) 0 c = 0) : passP v cs m = none := by
  rw [show passP v cs m = passP cur (cs.drop k) m' from h, drop_at hc]; unfold passP; rw [if_pos h0]
theorem pass_set (h : passTo v m cs k cur m') (hc : cs[k]? = some c) (h0 : ¬ valG (litV cur) 0 c = 0) (h1 : 1 < uOf cur c) : passTo v m cs (k + 1) (setV cur (uOf cur c)) true := by
  unfold passTo; rw [show passP v cs m = passP cur (cs.drop k) m' from h, drop_at hc]; rw [passP, if_neg h0, if_pos h1]
theorem pass_next (h : passTo v m cs k cur m') (hc : cs[k]? = some c) (h0 : ¬ valG (litV cur) 0 c = 0) (h1 : ¬ 1 < uOf cur c) : passTo v m cs (k + 1) cur m' := by
  unfold passTo; rw [show passP v cs m = passP cur (cs.drop k) m' from h, drop_at hc]; rw [passP, if_neg h0, if_neg h1]
theorem pass_end (h : passTo v m cs k cur m') (hk : k = cs.length) : passP v cs m = some (cur, m') := by
  rw [show passP v cs m = passP cur (cs.drop k) m' from h, hk, List.drop_length]; rfl
end
theorem val_not {V : Int → Int} : ∀ (c : List Int) (out : Int), out ≠ 1 → (∀ x ∈ c, V x ≠ 1) → valG V out c ≠ 1
  | [], out, h, _ => h
  | x :: c, out, h, hx => by
    unfold valG
    rw [if_neg (hx x List.mem_cons_self)]
    exact val_not c _ (by split <;> omega) (fun y hy => hx y (List.mem_cons_of_mem _ hy))
end Go.Proofs.Ytcjoohaagdihlaa.Learn
end

section
/- Steps on slices of numbers of the call's own: a copy into a new one, one more list put to it. -/
namespace Go.Proofs.Ytcjoohaagdihlaa.Lit
open Go.RowKit Go.Lt
set_option linter.unusedVariables false
set_option linter.unusedSimpArgs false

theorem info_n : (Try.prog.info? 3).map (fun i => (i.zero, i.size, i.bytes)) = some (some (.int .i64 0), 1, 8) := by kernel_rfl
theorem ivs_cell {l : List Int} : ∀ u ∈ ivs l, u.oneCell' = true := by
  intro u hu
  obtain ⟨x, _, rfl⟩ := List.mem_map.1 hu
  rfl
theorem ivs_app (a b : List Int) : ivs (a ++ b) = ivs a ++ ivs b := List.map_append
/-- append([]int{}, l...) -/
theorem wpList_fresh {w : World} {n c : Nat} {A : Option Addr} {l : List Int} {ops : Array Oper} {rest : List Oper} {o : Oper} {a : Act} {Q : Exit → Act → World → Prop} (hgd : o.guard = none) (s x : Operand)
    (ho : o.op = .call { callee := .builtin .append, args := #[s, x], argTypes := #[40, 40] })
    (hs : a.eval s = .slice (some ⟨w.heap.size, 0, none⟩) 0 0) (hx : a.eval x = .slice A n c) (hr : Rd w A n (ivs l)) (hn : n ≤ 1000000)
    (h : ∀ v' w', w'.ownsRow w.heap.size 3 1 v' n (ivs l) → Below w.heap.size w w' → wpList Try.prog ops Q rest (a.put o.dst v') w') :
    wpList Try.prog ops Q (o :: rest) a (w.alloc (.cells #[] 3)) := by
  refine wpList_append_rd hgd s x 40 ho Try.underlying40 info_n rfl hs hx (World.ownsRow_lit w #[] 0 (Nat.le_refl _) (by unfold maxLen; omega) rfl) ((Below.refl w.heap.size w).alloc (Nat.le_refl _) _) (by simp)
    (hr.below ((Below.refl w.heap.size w).alloc (Nat.le_refl _) _) (Nat.le_refl _)) ivs_cell (by unfold maxLen; omega) (by omega) ?_
  intro v' w' hown hb
  rw [Nat.zero_add] at hown
  exact h v' w' hown hb
/-- append(v, l...) onto a row of the call's own -/
theorem wpList_more {w0 w : World} {base n m c : Nat} {v : Value} {A : Option Addr} {k l : List Int} {ops : Array Oper} {rest : List Oper} {o : Oper} {a : Act} {Q : Exit → Act → World → Prop} (hgd : o.guard = none) (s x : Operand)
    (ho : o.op = .call { callee := .builtin .append, args := #[s, x], argTypes := #[40, 40] })
    (hs : a.eval s = v) (hx : a.eval x = .slice A m c) (hown : w.ownsRow base 3 1 v n (ivs k)) (hb : Below base w0 w) (hbase : base ≤ w.heap.size) (hr : Rd w A m (ivs l)) (hn : n + m ≤ 1000000)
    (h : ∀ v' w', w'.ownsRow base 3 1 v' (n + m) (ivs (k ++ l)) → Below base w0 w' → wpList Try.prog ops Q rest (a.put o.dst v') w') :
    wpList Try.prog ops Q (o :: rest) a w := by
  refine wpList_append_rd hgd s x 40 ho Try.underlying40 info_n rfl hs hx hown hb hbase hr ivs_cell (by unfold maxLen; omega) (by omega) ?_
  intro v' w' hown hb
  rw [← ivs_app] at hown
  exact h v' w' hown hb
end Go.Proofs.Ytcjoohaagdihlaa.Lit
end
