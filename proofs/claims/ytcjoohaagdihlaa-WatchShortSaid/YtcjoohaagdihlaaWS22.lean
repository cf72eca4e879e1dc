/- Texts behind a row, one behind the other: Run1. -/
import Derived.Test.YtcjoohaagdihlaaWS21
import Derived.OwnWalk
section
/- The example's Run. -/
namespace Go.Proofs.Ytcjoohaagdihlaa.Watch
open Go.RowKit Go.Lt Go.Proofs.Ytcjoohaagdihlaa.Lit Go.Proofs.Ytcjoohaagdihlaa.Sorted Go.Proofs.Ytcjoohaagdihlaa.Learn Go.Instr
open Go.Proofs.Ytcjoohaagdihlaa.Kept (Sl Sl.val)
set_option linter.unusedVariables false
set_option linter.unusedSimpArgs false

set_option maxRecDepth 8000 in
theorem look_ex {base : Nat} {W : World} {p mA mN mS mB b gc cap : Nat} {fv : Value} {al bl : List (Int × Value)} {rest : List Value} {pt gv gm : Nat} {lv : Value}
    (h : ExM base W p mA mN mS mB b gc cap fv al bl 4 3 rest) (ht : TrM base W pt gv gm 5 lv vals2 mk2 [2, 4]) :
    Calls Try.prog 119 #[.pointer (some ⟨p, 0, none⟩), .pointer (some ⟨pt, 0, none⟩), .int .i64 0, .int .i64 3] W fun e w' => e = .returned (.tuple #[.bool true, .bool false]) ∧ W = w' := by
  have HV := hide (value_is ht (by decide) (x := 4) (v := 1) (by rfl))
  have k2 : W.cell? ⟨p, 2, none⟩ = some (.map (some mA)) := h.box.cell 2
  have hga : ((mget al 0).getD (.pointer none)) = .pointer (some ⟨b, 0, none⟩) := by rw [h.get]; rfl
  have hcap2 : 2 ≤ cap := h.cap2.1
  have hw0 : W.cell? ⟨b, 0, none⟩ = some (.slice (some ⟨gc, 0, none⟩) 2 cap) := h.wb.cell 0
  have l0 : W.cell? ⟨gc, 0, none⟩ = some (.int .i64 4) := blk_list h.lits 0
  have hX := hide h
  clear h ht
  go_enter Try.func119, Try.ntmps119
  go_wp2_with (first | (at_lookup; refine wpList_lookupO (keyLaw_int Try.underlying3) mapAU zero_pw rfl _ _ rfl hX.out.all.toO 0 (by rfl) (by rfl) ?_; rw [hga]) | (go_at_call 110; refine HV.out.mono ?_; rintro e w' ⟨rfl, rfl⟩))
  go_ret2
  exact ⟨rfl, rfl⟩
theorem len_ex {base : Nat} {W : World} {pt gv gm N : Nat} {lv : Value} {vals : List Int} {mk : List Mk} {ls : List Int} (ht : TrM base W pt gv gm N lv vals mk ls) {n : Int} (hn : (ls.length : Int) = n) :
    Calls Try.prog 62 #[.pointer (some ⟨pt, 0, none⟩)] W fun e w' => e = .returned (.int .i64 n) ∧ W = w' := hn ▸ trail_Len ht
set_option maxRecDepth 8000 in
theorem list_ex {base : Nat} {W : World} {pt gv gm N : Nat} {lv : Value} {vals : List Int} {mk : List Mk} {ls : List Int} (h : TrM base W pt gv gm N lv vals mk ls) (hl : ls.length ≤ 1000000) :
    Calls Try.prog 118 #[.pointer (some ⟨pt, 0, none⟩)] W fun e w' => ∃ v, e = .returned v ∧ w'.ownsRow W.heap.size 3 1 v ls.length (ivs ls) ∧ Below W.heap.size W w' := by
  obtain ⟨A2, c2, rfl, _, _, hr⟩ := Rd.of_own h.list
  have b0 := h.box.cell 2
  have HC := hide (slices_Clone A2 ls.length c2 ls W hl hr)
  clear h hr
  go_enter Try.func118, Try.ntmps118
  go_wp2_with fail
  refine HC.out.mono ?_
  rintro e w2 ⟨v, rfl, hown, hb⟩
  replace hb := hide hb
  replace hown := hide hown
  go_wp2
  go_ret
  exact ⟨v, rfl, hown.out, hb.out⟩
theorem own_cell {base g n c : Nat} {e : TypeId} {W : World} {xs : List Value} (h : W.ownsRow base e 1 (.slice (some ⟨g, 0, none⟩) n c) n xs) (k : Nat) (hk : k < n) : W.cell? ⟨g, k, none⟩ = xs[k]? := by
  obtain ⟨A, c2, e1, _, _, hr⟩ := Rd.of_own h
  obtain ⟨ad, u, h1, _, h3, h4⟩ := hr.2 k hk
  injection e1 with e1 e2 e3
  rw [h1] at e1
  injection e1 with e1
  subst e1
  have : (⟨g, 0, none⟩ : Addr).add k = ⟨g, k, none⟩ := by unfold Addr.add; split <;> simp_all
  rw [this] at h4
  rw [h4, h3]
theorem own_some {base n : Nat} {e : TypeId} {W : World} {v : Value} {xs : List Value} (h : W.ownsRow base e 1 v (n + 1) xs) : ∃ g c, v = .slice (some ⟨g, 0, none⟩) (n + 1) c ∧ base ≤ g ∧ n + 1 ≤ c := by
  rcases own_cases h with ⟨_, h2⟩ | ⟨g, cap, h1, h2, _, h3, _⟩
  · cases h2
  · exact ⟨g, cap, h1, h2, h3⟩
/-- what was not looked at is told anew -/
theorem ExM.fresh {base : Nat} {W : World} {p mA mN mS mB b gc cap : Nat} {fv : Value} {al bl : List (Int × Value)} {c0 c1 : Int} {rest : List Value} (h : ExM base W p mA mN mS mB b gc cap fv al bl c0 c1 rest) (f2 : Value) :
    ExM base (W.setCell ⟨p, 5, none⟩ f2) p mA mN mS mB b gc cap f2 al bl c0 c1 rest := by
  have hf := fr_set (S := fun g => g = p) (p := ⟨p, 5, none⟩) (w := W) rfl f2
  exact ⟨h.box.set_ 5 f2, map_fr h.all hf (fun e => map_blk h.all h.box e.symm), map_fr h.short hf (fun e => map_blk h.short h.box e.symm), map_fr h.by_ hf (fun e => map_blk h.by_ h.box e.symm), hf.blk h.wb (blk_ne h.wb h.box (by decide)), hf.blk h.lits (blk_ne h.lits h.box (by decide)), h.get, h.d, h.lo, h.cap2⟩
set_option maxRecDepth 8000 in
set_option maxHeartbeats 4000000 in
theorem run_ex {base : Nat} {W : World} {p mA mN mS mB b gc cap : Nat} {fv : Value} {al : List (Int × Value)} {rest : List Value} {pt gv gm : Nat} {lv : Value}
    (h : ExM base W p mA mN mS mB b gc cap fv al [] 3 4 rest) (hfv : W.ownsRow base 3 1 fv 1 (ivs [0])) (ht : TrM base W pt gv gm 5 lv vals1 mk1 [2]) (hn : gc ≠ gv ∧ some gc ≠ lv.ownBlock) :
    Calls Try.prog 61 #[.pointer (some ⟨p, 0, none⟩), .pointer (some ⟨pt, 0, none⟩), .int .i64 0] W fun e w' => e = .returned (.tuple #[.int .i64 2, .int .i64 1, .int .i64 (-1)]) ∧ ∃ lv', TrM base w' pt gv gm 5 lv' vals2 mk2 [2, 4] ∧ Below base W w' := by
  have hbase : base ≤ W.heap.size := Nat.le_trans h.lo.1 (Nat.le_of_lt h.box.lt)
  have hX := hide h
  have hT := hide ht
  replace hn := hide hn
  replace hfv := hide hfv
  have hT1 := ht
  have hX1 := h
  clear h ht hX hT
  have HL := hide (len_ex hT1 (n := 1) rfl)
  have k4 : W.cell? ⟨p, 4, none⟩ = some (.map (some mS)) := hX1.box.cell 4
  have hbm := (Below.refl W.heap.size W).alloc (Nat.le_refl _) (.cells #[.map (some mS)] 108)
  have hX2 := hX1.keep hbm
  have HS := hide (sorted_A (Bm := W.heap.size) (w := W.alloc (.cells #[.map (some mS)] 108)) (by simp) ((Blk.new W 108 #[.map (some mS)]).cell 0) hX2.short (by decide))
  replace hX1 := hide hX1
  replace hT1 := hide hT1
  replace hbm := hide hbm
  clear hX2
  go_enter Try.func61, Try.ntmps61
  go_wp2_with (first | (go_at_call 62; refine HL.out.mono ?_; rintro e w' ⟨rfl, rfl⟩) | (go_at_call 115; refine (keys_A (some mS) _).mono ?_; rintro e w' ⟨rfl, rfl⟩) | (go_at_call 114; refine HS.out.mono ?_; rintro e w2 ⟨v2, rfl, hown2, hb2⟩; obtain ⟨A2, c2, rfl, _, _, _⟩ := Rd.of_own hown2))
  have hbm2 := hbm.out.trans (hb2.mono (by simp))
  have hX2 := hX1.out.keep hbm2
  have hT2 := hT1.out.keep hbm2
  have hfv2 := own_keep hfv.out hbm2
  have hb2w := hide (hbm2.mono hbase)
  have hbase2 : base ≤ w2.heap.size := Nat.le_trans hbase hbm2.size
  have hV2 := hfv2
  obtain ⟨gF, Fc, rfl, hFc, cF⟩ : ∃ gF Fc, fv = .slice (some ⟨gF, 0, none⟩) 1 Fc ∧ 1 ≤ Fc ∧ w2.cell? ⟨gF, 0, none⟩ = some (.int .i64 0) := by
    obtain ⟨FA, Fc, e1, hFc, hFm, hFr⟩ := Rd.of_own hV2
    rcases own_cases hV2 with ⟨e2, h2⟩ | ⟨gF, cap, e2, _⟩
    · cases h2
    · obtain ⟨fa, z, hfa, hltF, hz, cF⟩ := hFr.get (f := fun x : Int => Value.int .i64 x) (l := [0]) (k := 0) (by decide)
      rw [e2] at e1
      injection e1 with e3 e4 e5
      subst e5
      rw [hfa] at e3
      injection e3 with e3
      subst e3
      have hz0 : z = 0 := by injection hz with hz; exact hz.symm
      subst hz0
      exact ⟨gF, cap, e2, hFc, cF⟩
  obtain ⟨fa, hfa⟩ : ∃ fa, fa = (⟨gF, 0, none⟩ : Addr) := ⟨_, rfl⟩
  have k5 : w2.cell? ⟨p, 5, none⟩ = some (.slice (some ⟨gF, 0, none⟩) 1 Fc) := hX2.box.cell 5
  replace hX2 := hide hX2
  replace hT2 := hide hT2
  clear hown2 hb2 hbm2 hbm hX1 hT1 hfv hfv2 HL HS k4 hV2
  go_loopw [39] (fun i wr => i = .int .i64 0 ∧ wr = w2) (fun _ _ => 0)
  case atStart => exact ⟨rfl, rfl⟩
  case round =>
    obtain ⟨rfl, hw⟩ := hrel
    subst wr
    go_wp2
    go_loopw [14] (fun i wr => (wr = w2 ∧ wr.cell? ⟨p, 5, none⟩ = some (.slice (some ⟨gF, 0, none⟩) 1 Fc)) ∨ (∃ (A : Option Addr) (c : Nat) (lv' v1 : Value) (v2 : Sl), v2.n = 1 ∧ wr.cell? ⟨p, 5, none⟩ = some (.slice A 0 c) ∧ Hid (wr.ownsRow base 3 1 v2.val 1 (ivs [0])) ∧
        Hid (ExM base wr p mA mN mS mB b gc cap (.slice A 0 c) al [(4, v1), (3, v2.val)] 4 3 rest) ∧ Hid (TrM base wr pt gv gm 5 lv' vals2 mk2 [2, 4]) ∧ Hid (Below base W wr))) (fun _ wr => match wr.cell? ⟨p, 5, none⟩ with | some (.slice _ n _) => n | _ => 0)
    case atStart => exact .inl ⟨rfl, k5⟩
    case round =>
      rcases hrel with ⟨hw, _⟩ | ⟨A, c, lv', v1, v2, ev2, k5, hown5, hX5, hT5, hb5⟩
      · subst wr
        have k2 : w2.cell? ⟨p, 2, none⟩ = some (.map (some mA)) := hX2.out.box.cell 2
        have y5 := hX2.out.box.frozen 5
        clear hfa
        rcases (show 1 = Fc ∨ 1 < Fc by omega) with e1 | hF1
        · subst Fc
          obtain ⟨w3, hw3⟩ : ∃ w3, w2.setCell ⟨p, 5, none⟩ (.slice (some ⟨gF, 0, none⟩) 0 0) = w3 := ⟨_, rfl⟩
          have hX3 := hX2.out.fresh (.slice (some ⟨gF, 0, none⟩) 0 0)
          have hfs := fr_set (S := fun g => g = p) (p := ⟨p, 5, none⟩) (w := w2) rfl (.slice (some ⟨gF, 0, none⟩) 0 0)
          have hT3 := hT2.out.fr hfs (fun e => blk_ne hX2.out.box hT2.out.box (by decide) e.symm) (fun e => blk_ne hX2.out.box hT2.out.vals_ (by decide) e.symm) (fun e => blk_ne hX2.out.box hT2.out.marks (by decide) e.symm) (fun g hg e => own_blk_ne hT2.out.list hX2.out.box (by decide) (by rw [hg, e]))
          have hb3 := hide (hb2w.out.setCell (p := ⟨p, 5, none⟩) hX2.out.lo.1 (.slice (some ⟨gF, 0, none⟩) 0 0))
          rw [hw3] at hX3 hT3 hb3
          have HB := hide (begin_ex hX3 hT3 hn.out)
          have k2' : w3.cell? ⟨p, 2, none⟩ = some (.map (some mA)) := hX3.box.cell 2
          have hga : ((mget al 0).getD (.pointer none)) = .pointer (some ⟨b, 0, none⟩) := by rw [hX3.get]; rfl
          replace hX3 := hide hX3
          clear hT3 hfs
          go_wp2_with (first | (at_lookup; refine wpList_lookupO (keyLaw_int Try.underlying3) mapAU zero_pw rfl _ _ rfl hX3.out.all.toO 0 (by rfl) (by rfl) ?_; rw [hga]) | (go_at_call 117; refine HB.out.mono ?_; rintro e w4 ⟨rfl, lv', v1, v2, ev2, hown4, hX4, hT4, hb4⟩; have y5 : w4.cell? ⟨p, 5, none⟩ = some (.slice (some ⟨gF, 0, none⟩) 0 0) := hX4.box.cell 5; replace hown4 := hide hown4; replace hX4 := hide hX4; replace hT4 := hide hT4; replace hb4 := hide hb4))
          exact ⟨.inr ⟨_, _, lv', v1, v2, ev2, y5, hown4, hX4, hT4, hide (hb3.out.trans hb4.out)⟩, by rw [y5, k5]; exact Nat.zero_lt_one⟩
        · have hF2 : ¬ Fc = 1 := by omega
          obtain ⟨w3, hw3⟩ : ∃ w3, w2.setCell ⟨p, 5, none⟩ (.slice (some ⟨gF, 1, none⟩) 0 (Fc - 1)) = w3 := ⟨_, rfl⟩
          have hX3 := hX2.out.fresh (.slice (some ⟨gF, 1, none⟩) 0 (Fc - 1))
          have hfs := fr_set (S := fun g => g = p) (p := ⟨p, 5, none⟩) (w := w2) rfl (.slice (some ⟨gF, 1, none⟩) 0 (Fc - 1))
          have hT3 := hT2.out.fr hfs (fun e => blk_ne hX2.out.box hT2.out.box (by decide) e.symm) (fun e => blk_ne hX2.out.box hT2.out.vals_ (by decide) e.symm) (fun e => blk_ne hX2.out.box hT2.out.marks (by decide) e.symm) (fun g hg e => own_blk_ne hT2.out.list hX2.out.box (by decide) (by rw [hg, e]))
          have hb3 := hide (hb2w.out.setCell (p := ⟨p, 5, none⟩) hX2.out.lo.1 (.slice (some ⟨gF, 1, none⟩) 0 (Fc - 1)))
          rw [hw3] at hX3 hT3 hb3
          have HB := hide (begin_ex hX3 hT3 hn.out)
          have k2' : w3.cell? ⟨p, 2, none⟩ = some (.map (some mA)) := hX3.box.cell 2
          have hga : ((mget al 0).getD (.pointer none)) = .pointer (some ⟨b, 0, none⟩) := by rw [hX3.get]; rfl
          replace hX3 := hide hX3
          clear hT3 hfs
          go_wp2_with (first | (at_lookup; refine wpList_lookupO (keyLaw_int Try.underlying3) mapAU zero_pw rfl _ _ rfl hX3.out.all.toO 0 (by rfl) (by rfl) ?_; rw [hga]) | (go_at_call 117; refine HB.out.mono ?_; rintro e w4 ⟨rfl, lv', v1, v2, ev2, hown4, hX4, hT4, hb4⟩; have y5 : w4.cell? ⟨p, 5, none⟩ = some (.slice (some ⟨gF, 1, none⟩) 0 (Fc - 1)) := hX4.box.cell 5; replace hown4 := hide hown4; replace hX4 := hide hX4; replace hT4 := hide hT4; replace hb4 := hide hb4))
          exact ⟨.inr ⟨_, _, lv', v1, v2, ev2, y5, hown4, hX4, hT4, hide (hb3.out.trans hb4.out)⟩, by rw [y5, k5]; exact Nat.zero_lt_one⟩
      · have HL5 := hide (list_ex hT5.out (by decide))
        go_wp2_with (go_at_call 118; refine HL5.out.mono ?_; rintro e w6 ⟨vL, rfl, hownL, hb6⟩; obtain ⟨gL, Lc, rfl, hgL, hLc⟩ := own_some (n := 1) hownL)
        have hsz5 := hide (Nat.le_trans hbase hb5.out.size)
        have hX6 := hide (hX5.out.keep hb6)
        have hT6 := hide (hT5.out.keep hb6)
        have hown6 := hide (own_keep hown5.out hb6)
        have hb6w := hide (hb5.out.trans (hb6.mono hsz5.out))
        replace hownL := hide (own_base hownL hsz5.out)
        clear hX5 hT5 hown5 hb5 hb6 HL5
        go_loopw [10, 15] (fun a l wr => ∃ (k : Nat) (bl : List (Int × Value)), k ≤ 2 ∧ a = .int .i64 k ∧ l = .slice (some ⟨gL, 0, none⟩) 2 Lc ∧ Hid (wr.ownsRow base 3 1 (.slice (some ⟨gL, 0, none⟩) 2 Lc) 2 (ivs [2, 4])) ∧
            Hid (ExM base wr p mA mN mS mB b gc cap (.slice A 0 c) al bl 4 3 rest) ∧ Hid (TrM base wr pt gv gm 5 lv' vals2 mk2 [2, 4]) ∧ Hid (Below base W wr) ∧ Hid (k = 0 → ∃ (v1 : Value) (v2 : Sl), bl = [(4, v1), (3, v2.val)] ∧ v2.n = 1 ∧ wr.ownsRow base 3 1 v2.val 1 (ivs [0])) ∧ Hid (k = 1 → mget bl 5 = none)) (fun a _ _ => 2 - (intOf a).toNat)
        case atStart => exact ⟨0, _, by omega, rfl, rfl, hownL, hX6, hT6, hb6w, hide (fun _ => ⟨v1, v2, rfl, ev2, hown6.out⟩), hide (fun e => absurd e (by decide))⟩
        case round =>
          obtain ⟨k, bl, hk, rfl, rfl, hLr, hXr, hTr, hbr, hk0, hk1⟩ := hrel
          clear hX6 hT6 hown6 hb6w hownL
          have HN := hide (len_ex hTr.out (n := 2) rfl)
          by_cases hlt : k < 2
          · have hltI : (k : Int) < 2 := by omega
            have hnge : ¬ (2 : Int) ≤ k := by omega
            rcases (show k = 0 ∨ k = 1 by omega) with rfl | rfl
            · have cL : wr.cell? ⟨gL, 0, none⟩ = some (.int .i64 2) := own_cell hLr.out 0 (by decide)
              obtain ⟨v1, v2, rfl, ev2, hown2⟩ := hk0.out rfl
              have k6 : wr.cell? ⟨p, 6, none⟩ = some (.map (some mB)) := hXr.out.box.cell 6
              have hg3 : (mget [((4 : Int), v1), (3, v2.val)] 3).getD (.slice none 0 0) = v2.val := rfl
              have hx3 : bits .xor .i64 2 1 = 3 := by kernel_rfl
              obtain ⟨gI, cI, eI, hgI, _⟩ := own_some (n := 0) hown2
              rw [eI] at hown2 hg3 hXr
              replace hown2 := hide hown2
              go_wp2_with (first | (at_lookup; refine wpList_lookupO (keyLaw_int Try.underlying3) mapNU zero_sl rfl _ _ rfl hXr.out.by_.toO 3 (by rfl) (by rfl) ?_; rw [hg3]) | (go_at_call 62; refine HN.out.mono ?_; rintro e w7 ⟨rfl, rfl⟩) | (at_mapUpdate; refine wpList_updateS (keyLaw_int Try.underlying3) mapNU rfl _ _ _ rfl hXr.out.by_ 3 (.slice none 0 0) (by rfl) (by rfl) (by rfl) ?_; intro w8 hm8 hg8 hz8; have hf8 := (Fr.of_grown hg8 (fun g e => .inl (by cases e; rfl)) : Fr (fun g => g = mB) wr w8); replace hm8 := hide (show MapS w8 Lt.encI mB [(4, v1), (3, .slice none 0 0)] from hm8); replace hf8 := hide hf8; clear hz8 hg8))
              have hX8 := hide (hXr.out.put hf8.out hm8.out)
              have hT8 := hide (hTr.out.map hXr.out.by_ hf8.out)
              have hL8 := hide (hf8.out.own hLr.out (fun g hg e => own_map_ne hLr.out hXr.out.by_ (by rw [hg, e])))
              have hI8 := hide (hf8.out.own hown2.out (fun g hg e => own_map_ne hown2.out hXr.out.by_ (by rw [hg, e])))
              have hb8 := hide (hbr.out.trans (hf8.out.below (Nat.le_trans hbase hbr.out.size) (fun g e => by rw [e]; exact hXr.out.lo.2.2.2.1)))
              clear hXr hTr hLr hown2 hbr hf8 hm8 k6 cL HN hk0 hk1
              go_loopw [144] (fun j wr => ∃ (m : Nat) (bl : List (Int × Value)), m ≤ 1 ∧ j = .int .i64 m ∧ Hid (wr.ownsRow base 3 1 (.slice (some ⟨gL, 0, none⟩) 2 Lc) 2 (ivs [2, 4])) ∧
                Hid (ExM base wr p mA mN mS mB b gc cap (.slice A 0 c) al bl 4 3 rest) ∧ Hid (TrM base wr pt gv gm 5 lv' vals2 mk2 [2, 4]) ∧ Hid (Below base W wr) ∧ Hid (m = 0 → bl = [(4, v1), (3, .slice none 0 0)] ∧ wr.ownsRow base 3 1 (.slice (some ⟨gI, 0, none⟩) 1 cI) 1 (ivs [0])) ∧ Hid (m = 1 → mget bl 5 = none)) (fun j _ => 1 - (intOf j).toNat)
              case atStart => exact ⟨0, _, by omega, rfl, hL8, hX8, hT8, hb8, hide (fun _ => ⟨rfl, hI8.out⟩), hide (fun e => absurd e (by decide))⟩
              case round =>
                obtain ⟨m, bl, hm, rfl, hLr, hXr, hTr, hbr, hm0, hm1⟩ := hrel
                clear hL8 hX8 hT8 hb8 hI8
                rcases (show m = 0 ∨ m = 1 by omega) with rfl | rfl
                · obtain ⟨rfl, hI⟩ := hm0.out rfl
                  have cI0 : wr.cell? ⟨gI, 0, none⟩ = some (.int .i64 0) := own_cell hI 0 (by decide)
                  have HK := hide (look_ex hXr.out hTr.out)
                  have k2 : wr.cell? ⟨p, 2, none⟩ = some (.map (some mA)) := hXr.out.box.cell 2
                  have k6 : wr.cell? ⟨p, 6, none⟩ = some (.map (some mB)) := hXr.out.box.cell 6
                  have hga : ((mget al 0).getD (.pointer none)) = .pointer (some ⟨b, 0, none⟩) := by rw [hXr.out.get]; rfl
                  have hget : (mget [((4 : Int), v1), (3, .slice none 0 0)] 3).getD (.slice none 0 0) = .slice none 0 0 := rfl
                  have pB := hXr.out.pB
                  have hmap := hide hXr.out.by_
                  clear hI
                  go_wp2_with (first | (at_lookup; refine wpList_lookupO (keyLaw_int Try.underlying3) mapAU zero_pw rfl _ _ rfl hXr.out.all.toO 0 (by rfl) (by rfl) ?_; rw [hga]) | (go_at_call 119; refine HK.out.mono ?_; rintro e w7 ⟨rfl, rfl⟩))
                  refine wp_region_slots [165, 166, 167, 168, 169, 170, 171, 172, 173, 174, 175, 176, 177, 178] (fun D g wz => g 0 = .pointer (some ⟨p, 0, none⟩) ∧ g 16 = .int .i64 3 ∧ g 19 = .int .i64 0 ∧ Fr (fun q => q = mB) wr wz ∧ (¬ D 14 → Below wr.heap.size wr wz) ∧ (D 14 → D 13) ∧ (D 13 → D 10) ∧ (D 13 → D 12) ∧ (D 0 → g 165 = .pointer (some ⟨p, 0, none⟩)) ∧ (D 1 → g 166 = .pointer (some ⟨p, 0, none⟩)) ∧ (D 2 → g 167 = .pointer (some ⟨p, 6, none⟩)) ∧ (D 3 → g 168 = .map (some mB)) ∧ (D 4 → g 169 = .int .i64 3) ∧ (D 5 → g 170 = .pointer (some ⟨p, 0, none⟩)) ∧ (D 6 → g 171 = .pointer (some ⟨p, 0, none⟩)) ∧ (D 7 → g 172 = .pointer (some ⟨p, 6, none⟩)) ∧ (D 8 → g 173 = .map (some mB)) ∧ (D 9 → g 174 = .int .i64 3) ∧ (D 10 → g 175 = .slice none 0 0) ∧ (D 11 → g 176 = .int .i64 0) ∧ (D 12 → ∃ gb, g 177 = .slice (some ⟨gb, 0, none⟩) 1 1 ∧ Blk wz gb 3 #[.int .i64 0]) ∧ (D 13 → ∃ v2 : Sl, g 178 = v2.val ∧ v2.n = 1 ∧ wz.ownsRow wr.heap.size 3 1 v2.val 1 (ivs [0])) ∧ (D 14 → ∃ v2 : Sl, v2.n = 1 ∧ wz.ownsRow wr.heap.size 3 1 v2.val 1 (ivs [0]) ∧ MapS wz Lt.encI mB (mput [((4 : Int), v1), (3, .slice none 0 0)] 3 v2.val))) (by kernel_rfl) (by kernel_rfl) 209 rfl (by kernel_rfl) ?h0 ?hstep ?hdone
                  case h0 => exact ⟨rfl, rfl, rfl, Fr.of_below ((Dr.refl wr).drew.below _), (fun _ => (Dr.refl wr).drew.below _), nt0, nt0, nt0, nt0, nt0, nt0, nt0, nt0, nt0, nt0, nt0, nt0, nt0, nt0, nt0, nt0, nt0, nt0⟩
                  case hstep =>
                    intro D g wz i hi' hn hd' hI2
                    obtain ⟨r0, r16, r19, hfz, lw, c14, c13, e13, f0, f1, f2, f3, f4, f5, f6, f7, f8, f9, f10, f11, f12, f13, f14⟩ := hI2
                    have hi' : i < 15 := hi'
                    rcases (show i = 0 ∨ i = 1 ∨ i = 2 ∨ i = 3 ∨ i = 4 ∨ i = 5 ∨ i = 6 ∨ i = 7 ∨ i = 8 ∨ i = 9 ∨ i = 10 ∨ i = 11 ∨ i = 12 ∨ i = 13 ∨ i = 14 by omega) with rfl | rfl | rfl | rfl | rfl | rfl | rfl | rfl | rfl | rfl | rfl | rfl | rfl | rfl | rfl
                    · -- 0
                      refine slot_step rfl rfl (fun az hs K hK => ?_)
                      have hK : Shut _ := hK
                      have e0 := hs.get 0
                      rw [r0] at e0
                      go_simp
                      exact hK.out _ _ ⟨r0, r16, r19, hfz, (fun h => lw (fun e => h (Or.inr e))), (fun h => h.elim (fun e => absurd e (by decide)) (fun h => Or.inr (c14 h))), (fun h => h.elim (fun e => absurd e (by decide)) (fun h => Or.inr (c13 h))), (fun h => h.elim (fun e => absurd e (by decide)) (fun h => Or.inr (e13 h))), fun _ => rfl, kp f1, kp f2, kp f3, kp f4, kp f5, kp f6, kp f7, kp f8, kp f9, kp f10, kp f11, kp f12, kp f13, kp f14⟩
                    · -- 1
                      have d0 := f0 (hd' 0 (by kernel_rfl))
                      refine slot_step rfl rfl (fun az hs K hK => ?_)
                      have hK : Shut _ := hK
                      have e165 := hs.get 165
                      rw [d0] at e165
                      go_simp
                      exact hK.out _ _ ⟨r0, r16, r19, hfz, (fun h => lw (fun e => h (Or.inr e))), (fun h => h.elim (fun e => absurd e (by decide)) (fun h => Or.inr (c14 h))), (fun h => h.elim (fun e => absurd e (by decide)) (fun h => Or.inr (c13 h))), (fun h => h.elim (fun e => absurd e (by decide)) (fun h => Or.inr (e13 h))), kp f0, fun _ => rfl, kp f2, kp f3, kp f4, kp f5, kp f6, kp f7, kp f8, kp f9, kp f10, kp f11, kp f12, kp f13, kp f14⟩
                    · -- 2
                      have d1 := f1 (hd' 1 (by kernel_rfl))
                      refine slot_step rfl rfl (fun az hs K hK => ?_)
                      have hK : Shut _ := hK
                      have e166 := hs.get 166
                      rw [d1] at e166
                      go_simp
                      exact hK.out _ _ ⟨r0, r16, r19, hfz, (fun h => lw (fun e => h (Or.inr e))), (fun h => h.elim (fun e => absurd e (by decide)) (fun h => Or.inr (c14 h))), (fun h => h.elim (fun e => absurd e (by decide)) (fun h => Or.inr (c13 h))), (fun h => h.elim (fun e => absurd e (by decide)) (fun h => Or.inr (e13 h))), kp f0, kp f1, fun _ => rfl, kp f3, kp f4, kp f5, kp f6, kp f7, kp f8, kp f9, kp f10, kp f11, kp f12, kp f13, kp f14⟩
                    · -- 3
                      have d2 := f2 (hd' 2 (by kernel_rfl))
                      refine slot_step rfl rfl (fun az hs K hK => ?_)
                      have hK : Shut _ := hK
                      have cz := hfz.cell k6 pB
                      have e167 := hs.get 167
                      rw [d2] at e167
                      go_simp
                      exact hK.out _ _ ⟨r0, r16, r19, hfz, (fun h => lw (fun e => h (Or.inr e))), (fun h => h.elim (fun e => absurd e (by decide)) (fun h => Or.inr (c14 h))), (fun h => h.elim (fun e => absurd e (by decide)) (fun h => Or.inr (c13 h))), (fun h => h.elim (fun e => absurd e (by decide)) (fun h => Or.inr (e13 h))), kp f0, kp f1, kp f2, fun _ => rfl, kp f4, kp f5, kp f6, kp f7, kp f8, kp f9, kp f10, kp f11, kp f12, kp f13, kp f14⟩
                    · -- 4
                      refine slot_step rfl rfl (fun az hs K hK => ?_)
                      have hK : Shut _ := hK
                      have e16 := hs.get 16
                      rw [r16] at e16
                      go_simp
                      exact hK.out _ _ ⟨r0, r16, r19, hfz, (fun h => lw (fun e => h (Or.inr e))), (fun h => h.elim (fun e => absurd e (by decide)) (fun h => Or.inr (c14 h))), (fun h => h.elim (fun e => absurd e (by decide)) (fun h => Or.inr (c13 h))), (fun h => h.elim (fun e => absurd e (by decide)) (fun h => Or.inr (e13 h))), kp f0, kp f1, kp f2, kp f3, fun _ => rfl, kp f5, kp f6, kp f7, kp f8, kp f9, kp f10, kp f11, kp f12, kp f13, kp f14⟩
                    · -- 5
                      refine slot_step rfl rfl (fun az hs K hK => ?_)
                      have hK : Shut _ := hK
                      have e0 := hs.get 0
                      rw [r0] at e0
                      go_simp
                      exact hK.out _ _ ⟨r0, r16, r19, hfz, (fun h => lw (fun e => h (Or.inr e))), (fun h => h.elim (fun e => absurd e (by decide)) (fun h => Or.inr (c14 h))), (fun h => h.elim (fun e => absurd e (by decide)) (fun h => Or.inr (c13 h))), (fun h => h.elim (fun e => absurd e (by decide)) (fun h => Or.inr (e13 h))), kp f0, kp f1, kp f2, kp f3, kp f4, fun _ => rfl, kp f6, kp f7, kp f8, kp f9, kp f10, kp f11, kp f12, kp f13, kp f14⟩
                    · -- 6
                      have d5 := f5 (hd' 5 (by kernel_rfl))
                      refine slot_step rfl rfl (fun az hs K hK => ?_)
                      have hK : Shut _ := hK
                      have e170 := hs.get 170
                      rw [d5] at e170
                      go_simp
                      exact hK.out _ _ ⟨r0, r16, r19, hfz, (fun h => lw (fun e => h (Or.inr e))), (fun h => h.elim (fun e => absurd e (by decide)) (fun h => Or.inr (c14 h))), (fun h => h.elim (fun e => absurd e (by decide)) (fun h => Or.inr (c13 h))), (fun h => h.elim (fun e => absurd e (by decide)) (fun h => Or.inr (e13 h))), kp f0, kp f1, kp f2, kp f3, kp f4, kp f5, fun _ => rfl, kp f7, kp f8, kp f9, kp f10, kp f11, kp f12, kp f13, kp f14⟩
                    · -- 7
                      have d6 := f6 (hd' 6 (by kernel_rfl))
                      refine slot_step rfl rfl (fun az hs K hK => ?_)
                      have hK : Shut _ := hK
                      have e171 := hs.get 171
                      rw [d6] at e171
                      go_simp
                      exact hK.out _ _ ⟨r0, r16, r19, hfz, (fun h => lw (fun e => h (Or.inr e))), (fun h => h.elim (fun e => absurd e (by decide)) (fun h => Or.inr (c14 h))), (fun h => h.elim (fun e => absurd e (by decide)) (fun h => Or.inr (c13 h))), (fun h => h.elim (fun e => absurd e (by decide)) (fun h => Or.inr (e13 h))), kp f0, kp f1, kp f2, kp f3, kp f4, kp f5, kp f6, fun _ => rfl, kp f8, kp f9, kp f10, kp f11, kp f12, kp f13, kp f14⟩
                    · -- 8
                      have d7 := f7 (hd' 7 (by kernel_rfl))
                      refine slot_step rfl rfl (fun az hs K hK => ?_)
                      have hK : Shut _ := hK
                      have cz := hfz.cell k6 pB
                      have e172 := hs.get 172
                      rw [d7] at e172
                      go_simp
                      exact hK.out _ _ ⟨r0, r16, r19, hfz, (fun h => lw (fun e => h (Or.inr e))), (fun h => h.elim (fun e => absurd e (by decide)) (fun h => Or.inr (c14 h))), (fun h => h.elim (fun e => absurd e (by decide)) (fun h => Or.inr (c13 h))), (fun h => h.elim (fun e => absurd e (by decide)) (fun h => Or.inr (e13 h))), kp f0, kp f1, kp f2, kp f3, kp f4, kp f5, kp f6, kp f7, fun _ => rfl, kp f9, kp f10, kp f11, kp f12, kp f13, kp f14⟩
                    · -- 9
                      refine slot_step rfl rfl (fun az hs K hK => ?_)
                      have hK : Shut _ := hK
                      have e16 := hs.get 16
                      rw [r16] at e16
                      go_simp
                      exact hK.out _ _ ⟨r0, r16, r19, hfz, (fun h => lw (fun e => h (Or.inr e))), (fun h => h.elim (fun e => absurd e (by decide)) (fun h => Or.inr (c14 h))), (fun h => h.elim (fun e => absurd e (by decide)) (fun h => Or.inr (c13 h))), (fun h => h.elim (fun e => absurd e (by decide)) (fun h => Or.inr (e13 h))), kp f0, kp f1, kp f2, kp f3, kp f4, kp f5, kp f6, kp f7, kp f8, fun _ => rfl, kp f10, kp f11, kp f12, kp f13, kp f14⟩
                    · -- 10
                      have d8 := f8 (hd' 8 (by kernel_rfl))
                      have d9 := f9 (hd' 9 (by kernel_rfl))
                      refine slot_step rfl rfl (fun az hs K hK => ?_)
                      have hK : Shut _ := hK
                      have hmz := (hmap.out.below (lw (fun h => hn (c13 (c14 h)))) hmap.out.lt).toO
                      have e173 := hs.get 173
                      rw [d8] at e173
                      have e174 := hs.get 174
                      rw [d9] at e174
                      refine oper_lookupO (keyLaw_int Try.underlying3) mapNU zero_sl (.tmp 173) (.tmp 174) rfl hmz 3 (hs.eval d8) (hs.eval d9) ?_
                      exact hK.out ((mget [((4 : Int), v1), (3, .slice none 0 0)] 3).getD (.slice none 0 0)) _ ⟨r0, r16, r19, hfz, (fun h => lw (fun e => h (Or.inr e))), (fun h => h.elim (fun e => absurd e (by decide)) (fun h => Or.inr (c14 h))), (fun h => h.elim (fun e => absurd e (by decide)) (fun h => Or.inr (c13 h))), (fun h => h.elim (fun e => absurd e (by decide)) (fun h => Or.inr (e13 h))), kp f0, kp f1, kp f2, kp f3, kp f4, kp f5, kp f6, kp f7, kp f8, kp f9, fun _ => hget, kp f11, kp f12, kp f13, kp f14⟩
                    · -- 11
                      refine slot_step rfl rfl (fun az hs K hK => ?_)
                      have hK : Shut _ := hK
                      have e19 := hs.get 19
                      rw [r19] at e19
                      go_simp
                      exact hK.out _ _ ⟨r0, r16, r19, hfz, (fun h => lw (fun e => h (Or.inr e))), (fun h => h.elim (fun e => absurd e (by decide)) (fun h => Or.inr (c14 h))), (fun h => h.elim (fun e => absurd e (by decide)) (fun h => Or.inr (c13 h))), (fun h => h.elim (fun e => absurd e (by decide)) (fun h => Or.inr (e13 h))), kp f0, kp f1, kp f2, kp f3, kp f4, kp f5, kp f6, kp f7, kp f8, kp f9, kp f10, fun _ => rfl, kp f12, kp f13, kp f14⟩
                    · -- 12
                      have d11 := f11 (hd' 11 (by kernel_rfl))
                      refine slot_step rfl rfl (fun az hs K hK => ?_)
                      have hK : Shut _ := hK
                      have hbw := (Below.refl wz.heap.size wz).alloc (Nat.le_refl _) (.cells #[.int .i64 0] 3)
                      have hnd : ¬ D 14 := fun h => hn (e13 (c14 h))
                      have e176 := hs.get 176
                      rw [d11] at e176
                      refine oper_lit1 (.tmp 176) rfl 0 (hs.eval d11) ?_
                      exact hK.out (.slice (some ⟨wz.heap.size, 0, none⟩) 1 1) (wz.alloc (.cells #[.int .i64 0] 3)) ⟨r0, r16, r19, hfz.trans (Fr.of_below hbw), (fun h => (lw (fun e => h (Or.inr e))).trans (hbw.mono (lw (fun e => h (Or.inr e))).size)), (fun h => h.elim (fun e => absurd e (by decide)) (fun h => Or.inr (c14 h))), (fun h => h.elim (fun e => absurd e (by decide)) (fun h => Or.inr (c13 h))), (fun h => h.elim (fun e => absurd e (by decide)) (fun h => Or.inr (e13 h))), kp f0, kp f1, kp f2, kp f3, kp f4, kp f5, kp f6, kp f7, kp f8, kp f9, kp f10, kp f11, fun _ => ⟨wz.heap.size, rfl, Blk.new wz _ _⟩, fun h => h.elim (fun e => absurd e (by decide)) (fun h => absurd (e13 h) hn), fun h => h.elim (fun e => absurd e (by decide)) (fun h => absurd (e13 (c14 h)) hn)⟩
                    · -- 13
                      have d10 := f10 (hd' 10 (by kernel_rfl))
                      have d12 := f12 (hd' 12 (by kernel_rfl))
                      refine slot_step rfl rfl (fun az hs K hK => ?_)
                      have hK : Shut _ := hK
                      have hnd : ¬ D 14 := fun h => hn (c14 h)
                      obtain ⟨gb, eg, hbk⟩ := d12
                      obtain ⟨inf, hi0, hiz, his, hib⟩ := info_parts info_i
                      refine wp_append_own wz (.tmp 175) (.tmp 177) 40 rfl wr.heap.size 3 inf _ 1 8 Try.underlying40 hi0 hiz his hib rfl (by decide) (.slice none 0 0) 0 [] (hs.eval d10) (World.ownsRow_nil _ _ _ _) ⟨gb, 0, none⟩ 1 1 [.int .i64 0] (hs.eval eg) rfl (lit_cell1 hbk) (by intro u hu; rw [List.mem_singleton] at hu; subst hu; rfl) (by unfold maxLen; omega) (by omega) hfz.size ?_
                      intro v2 w2 hown2 hgr _
                      obtain ⟨A2, c2, rfl, _, _, _⟩ := Rd.of_own hown2
                      have hbw := (Fr.of_grown (S := fun _ => False) hgr (fun k e => by cases e)).below (Nat.le_refl _) (fun k e => e.elim)
                      exact hK.out _ _ ⟨r0, r16, r19, hfz.trans (Fr.of_below hbw), (fun h => (lw (fun e => h (Or.inr e))).trans (hbw.mono (lw (fun e => h (Or.inr e))).size)), (fun h => h.elim (fun e => absurd e (by decide)) (fun h => Or.inr (c14 h))), (fun _ => Or.inr (hd' 10 (by kernel_rfl))), (fun _ => Or.inr (hd' 12 (by kernel_rfl))), kp f0, kp f1, kp f2, kp f3, kp f4, kp f5, kp f6, kp f7, kp f8, kp f9, kp f10, kp f11, fun h => h.elim (fun e => absurd e (by decide)) (fun h => let ⟨gb, e1, e2⟩ := f12 h; ⟨gb, e1, e2.below hbw e2.lt⟩), fun _ => ⟨⟨A2, 1, c2⟩, rfl, rfl, hown2⟩, fun h => h.elim (fun e => absurd e (by decide)) (fun h => absurd (c14 h) hn)⟩
                    · -- 14
                      have d3 := f3 (hd' 3 (by kernel_rfl))
                      have d4 := f4 (hd' 4 (by kernel_rfl))
                      have d13 := f13 (hd' 13 (by kernel_rfl))
                      refine slot_step rfl rfl (fun az hs K hK => ?_)
                      have hK : Shut _ := hK
                      obtain ⟨v2, e13v, ev2, hown2⟩ := d13
                      have hmz := hmap.out.below (lw hn) hmap.out.lt
                      have e168 := hs.get 168
                      rw [d3] at e168
                      have e169 := hs.get 169
                      rw [d4] at e169
                      refine oper_updateS (keyLaw_int Try.underlying3) mapNU (.tmp 168) (.tmp 169) (.tmp 178) rfl hmz 3 v2.val (hs.eval d3) (hs.eval d4) (hs.eval e13v) ?_
                      intro wy hm2 hgr hsz2
                      have hf2 := (Fr.of_grown hgr (fun q e => .inl (by cases e; rfl)) : Fr (fun q => q = mB) wz wy)
                      exact hK.out undef _ ⟨r0, r16, r19, hfz.trans hf2, (fun h => (h (by simp)).elim), (fun _ => Or.inr (hd' 13 (by kernel_rfl))), (fun h => h.elim (fun e => absurd e (by decide)) (fun h => Or.inr (c13 h))), (fun h => h.elim (fun e => absurd e (by decide)) (fun h => Or.inr (e13 h))), kp f0, kp f1, kp f2, kp f3, kp f4, kp f5, kp f6, kp f7, kp f8, kp f9, kp f10, kp f11, fun h => h.elim (fun e => absurd e (by decide)) (fun h => let ⟨gb, e1, e2⟩ := f12 h; ⟨gb, e1, hf2.blk e2 (map_blk hmz e2)⟩), fun h => h.elim (fun e => absurd e (by decide)) (fun h => let ⟨v2, e1, e2, e3⟩ := f13 h; ⟨v2, e1, e2, e3.kept hgr (.inr (fun e => own_map_ne e3 hmz e.symm))⟩), fun _ => ⟨v2, ev2, hown2.kept hgr (.inr (fun e => own_map_ne hown2 hmz e.symm)), hm2⟩⟩
                  case hdone =>
                    rintro D g wz hD ⟨r0, r16, r19, hfz, lw, c14, c13, e13, f0, f1, f2, f3, f4, f5, f6, f7, f8, f9, f10, f11, f12, f13, f14⟩
                    simp only [setAll, List.foldl_cons, List.foldl_nil, List.setIfInBounds_toArray, List.set_cons_succ, List.set_cons_zero]
                    have hmA := f14 (hD 14)
                    clear f0 f1 f2 f3 f4 f5 f6 f7 f8 f9 f10 f11 f12 f13 f14 hD r0 r16 r19 lw c14 c13 e13
                    obtain ⟨v3, _, _, hm3⟩ := hmA
                    have hX9 := hide (hXr.out.put hfz hm3)
                    have hT9 := hide (hTr.out.map hXr.out.by_ hfz)
                    have hL9 := hide (hfz.own hLr.out (fun g hg e => own_map_ne hLr.out hXr.out.by_ (by rw [hg, e])))
                    have hb9 := hide (hbr.out.trans (hfz.below (Nat.le_trans hbase hbr.out.size) (fun g e => by rw [e]; exact hXr.out.lo.2.2.2.1)))
                    clear hXr hTr hLr hbr hfz hm3 hmap hm0 hm1 k2 k6 cI0 HK
                    go_wp2
                    go_roundw
                    case rel => exact ⟨1, _, by omega, by go_num, hL9, hX9, hT9, hb9, hide (fun e => absurd e (by decide)), hide (fun _ => rfl)⟩
                    case measure => simp [intOf]
                · have h5 := hm1.out rfl
                  go_wp2
                  go_roundw
                  case rel => exact ⟨1, _, by omega, by go_num, rfl, hLr, hXr, hTr, hbr, hide (fun e => absurd e (by decide)), hide (fun _ => h5)⟩
                  case measure => simp [intOf]
            · have cL : wr.cell? ⟨gL, 1, none⟩ = some (.int .i64 4) := own_cell hLr.out 1 (by decide)
              have k6 : wr.cell? ⟨p, 6, none⟩ = some (.map (some mB)) := hXr.out.box.cell 6
              have h5 := hk1.out rfl
              have hg3 : (mget bl 5).getD (.slice none 0 0) = .slice none 0 0 := by rw [h5]; rfl
              have hx3 : bits .xor .i64 4 1 = 5 := by kernel_rfl
              go_wp2_with (first | (at_lookup; refine wpList_lookupO (keyLaw_int Try.underlying3) mapNU zero_sl rfl _ _ rfl hXr.out.by_.toO 5 (by rfl) (by rfl) ?_; rw [hg3]) | (go_at_call 62; refine HN.out.mono ?_; rintro e w7 ⟨rfl, rfl⟩) | (at_mapUpdate; refine wpList_updateS (keyLaw_int Try.underlying3) mapNU rfl _ _ _ rfl hXr.out.by_ 5 (.slice none 0 0) (by rfl) (by rfl) (by rfl) ?_; intro w8 hm8 hg8 hz8; have hf8 := (Fr.of_grown hg8 (fun g e => .inl (by cases e; rfl)) : Fr (fun g => g = mB) wr w8); replace hm8 := hide hm8; replace hf8 := hide hf8; clear hz8 hg8))
              have hX8 := hide (hXr.out.put hf8.out hm8.out)
              have hT8 := hide (hTr.out.map hXr.out.by_ hf8.out)
              have hL8 := hide (hf8.out.own hLr.out (fun g hg e => own_map_ne hLr.out hXr.out.by_ (by rw [hg, e])))
              have hb8 := hide (hbr.out.trans (hf8.out.below (Nat.le_trans hbase hbr.out.size) (fun g e => by rw [e]; exact hXr.out.lo.2.2.2.1)))
              clear hXr hTr hLr hbr hf8 hm8 k6 cL HN hk0 hk1
              go_loopw [144] (fun j wr => j = .int .i64 0 ∧ wr = w8) (fun _ _ => 0)
              case atStart => exact ⟨rfl, rfl⟩
              case round =>
                obtain ⟨rfl, hw⟩ := hrel
                subst wr
                go_wp2
                go_roundw
                case rel => exact ⟨2, _, by omega, by go_num, rfl, hL8, hX8, hT8, hb8, hide (fun e => absurd e (by decide)), hide (fun e => absurd e (by decide))⟩
                case measure => simp [intOf]
          · have hk2 : k = 2 := by omega
            subst hk2
            go_wp2_with (go_at_call 62; refine HN.out.mono ?_; rintro e w7 ⟨rfl, rfl⟩)
            go_ret3
            exact ⟨rfl, lv', hTr.out, hbr.out⟩

end Go.Proofs.Ytcjoohaagdihlaa.Watch
end
