/- The contract of what tells where variables are used. -/
import Derived.Test.YtcjoohaagdihlaaDoorFault6
import Derived.Outline
namespace Go.Proofs.YtcjoohaagdihlaaDoor.Fault
open Go.RowKit Go.Lt Go.Proofs.YtcjoohaagdihlaaDoor.Lit Go.Instr
set_option linter.unusedVariables false
set_option linter.unusedSimpArgs false

theorem blk_map_ne {w : World} {g B : Nat} {t : TypeId} {cs : Array Value} {κ : Type} {enc : κ → Value} {l : List (κ × Value)} (h : Blk w g t cs) (hm : MapO w enc B l) : g ≠ B := by
  rintro rfl
  obtain ⟨es, c, h1, _⟩ := hm
  unfold Blk at h
  rw [h] at h1
  cases h1
def UsesIs (l : List Nd) (outs : List Int) (w : World) (e : Ending) (w' : World) : Prop :=
  ∃ B1 B2 m1 m2, e = .returned (.tuple #[.map (some B1), .map (some B2)]) ∧ B1 ≠ B2 ∧ w.heap.size ≤ B1 ∧ w.heap.size ≤ B2 ∧ MapO w' encI B1 m1 ∧ MapO w' encI B2 m2 ∧ OneIs (occs l l.length) m1 ∧ OftIs (occs l l.length) outs m2 ∧ Below w.heap.size w w'

set_option maxHeartbeats 4000000 in
theorem fault_uses (A C : Option Addr) (n m c cc : Nat) (l : List Nd) (outs : List Int) (w : World) (hn : n ≤ 1000) (hm : m ≤ 1000) (hr : RdN w A n l) (hro : Rd w C m (ivs outs)) (hg : GoodNet l) (ho : GoodOuts l outs) :
    Calls Tryd.prog 90 #[.slice A n c, .slice C m cc] w (UsesIs l outs w) := by
  have hnI : (n : Int) ≤ 1000 := by omega
  have hl := hide hr.1
  have HN := hide hn
  have HM := hide hm
  have HG := hide hg
  have HO := hide ho
  clear hn hm hg ho
  have hmm := @run_makeMap Tryd.prog
  go_enter Tryd.func90, Tryd.ntmps90
  go_wp2
  go_loopw [18] (fun i wr => ∃ (k : Nat) (m1 m2 : List (Int × Value)), k ≤ n ∧ i = .int .i64 k ∧ MapO wr encI w.heap.size m1 ∧ MapO wr encI (w.heap.size + 1) m2 ∧ OneIs (occs l k) m1 ∧ OftIs (occs l k) [] m2 ∧ Below w.heap.size w wr) (fun i _ => n - (intOf i).toNat)
  case atStart =>
    refine ⟨0, [], [], Nat.zero_le _, rfl, (MapO.made w encI).alloc _, ?_, one_nil, oft_nil, ((Below.refl _ _).alloc (Nat.le_refl _) _).alloc (by simp) _⟩
    have := MapO.made (w.alloc (.map #[] 0)) encI
    simpa using this
  case round =>
    obtain ⟨k, m1, m2, hk, rfl, hM1, hM2, h1, h2, hb⟩ := hrel
    have hkI : (k : Int) ≤ 1000 := by omega
    by_cases hlt : k < n
    · obtain ⟨ad, x, rfl, hB, hx, hc, hc2, hca, hcb⟩ := (hr.below hb (Nat.le_refl _)).get hlt
      have HS := hide (occs_succ l k x hx)
      have hgx := hide (HG.out k x hx)
      have hkk := hide (show k < 1000 by have := HN.out; omega)
      obtain ⟨a, b⟩ := x
      simp only at hc hc2 hca hcb
      clear hx
      have h1 := hide h1
      have h2 := hide h2
      by_cases ha : a < 0
      · have hno := hide (show occNode k ⟨a, b⟩ = [] by unfold occNode; rw [if_pos ha])
        go_wp2
        go_roundw
        case rel => exact ⟨k + 1, m1, m2, hlt, by go_num, hM1.alloc _, hM2.alloc _, by rw [HS.out, hno.out, List.append_nil]; exact h1.out, by rw [HS.out, hno.out, List.append_nil]; exact h2.out, hb.alloc hb.size _⟩
        case measure => simp [intOf]; omega
      · obtain ⟨ha1, hb0, hb1⟩ := hgx.out (by simp only; omega)
        simp only at ha1 hb0 hb1
        have ha0 : 0 ≤ a := by omega
        have hnode := hide (show occNode k ⟨a, b⟩ = [⟨a / 2, ⟨(k : Int) + 1, 1, false⟩, a⟩, ⟨b / 2, ⟨(k : Int) + 1, 2, false⟩, b⟩] by unfold occNode; rw [if_neg ha])
        obtain ⟨wo, rfl⟩ : ∃ wo : World, wo = wr := ⟨_, rfl⟩
        go_wp2
        go_loopw [32] (fun j wr => ∃ (q : Nat) (m1 m2 : List (Int × Value)), q ≤ 2 ∧ j = .int .i64 q ∧ MapO wr encI w.heap.size m1 ∧ MapO wr encI (w.heap.size + 1) m2 ∧ Hid (OneIs (occs l k ++ (occNode k ⟨a, b⟩).take q) m1) ∧ Hid (OftIs (occs l k ++ (occNode k ⟨a, b⟩).take q) [] m2) ∧ Below w.heap.size w wr ∧ Blk wr (wo.heap.size + 1) 3 #[.int .i64 a, .int .i64 b]) (fun j _ => 2 - (intOf j).toNat)
        case atStart =>
          refine ⟨0, m1, m2, Nat.zero_le _, rfl, (hM1.alloc _).alloc _, (hM2.alloc _).alloc _, ?_, ?_, (hb.alloc hb.size _).alloc (by have := hb.size; simp; omega) _, ?_⟩
          · rw [List.take_zero, List.append_nil]; exact h1
          · rw [List.take_zero, List.append_nil]; exact h2
          · have := Blk.new (wo.alloc (.cells #[.int .i64 a, .int .i64 b] 111)) 3 #[.int .i64 a, .int .i64 b]
            simpa using this
        case round =>
          obtain ⟨q, m1, m2, hq, rfl, hM1, hM2, h1, h2, hb, hblk⟩ := hrel
          by_cases hltq : q < 2
          · obtain ⟨y, hy, hcy, hyb⟩ : ∃ y : Int, Hid ((occNode k ⟨a, b⟩)[q]? = some ⟨y / 2, ⟨(k : Int) + 1, (q : Int) + 1, false⟩, y⟩) ∧ wr.cell? ⟨wo.heap.size + 1, q, none⟩ = some (.int .i64 y) ∧ (0 ≤ y ∧ y ≤ 2 * (k : Int) + 1) := by
              rw [hnode.out, hblk.cell]
              rcases (show q = 0 ∨ q = 1 by omega) with rfl | rfl
              · exact ⟨a, rfl, rfl, ha0, ha1⟩
              · exact ⟨b, rfl, rfl, hb0, hb1⟩
            obtain ⟨hy0, hy1⟩ := hyb
            have hqI : (q : Int) < 2 := by omega
            have hT := hide (show (occNode k ⟨a, b⟩).take (q + 1) = (occNode k ⟨a, b⟩).take q ++ [⟨y / 2, ⟨(k : Int) + 1, (q : Int) + 1, false⟩, y⟩] by rw [List.take_add_one, hy.out]; rfl)
            obtain ⟨N, hN⟩ : ∃ N : Nat, N = countO (occs l k ++ (occNode k ⟨a, b⟩).take q) (y / 2) + 2 * cntOut [] (y / 2) := ⟨_, rfl⟩
            have hNb : (N : Int) ≤ 3000 := by
              have e1 := countO_le (occs l k ++ (occNode k ⟨a, b⟩).take q) (y / 2)
              have e2 := occs_len l k
              have e3 := hkk.out
              have e4 : cntOut [] (y / 2) = 0 := rfl
              have e5 : ((occNode k ⟨a, b⟩).take q).length ≤ 2 := by rw [List.length_take, hnode.out]; exact Nat.min_le_right _ _
              rw [List.length_append] at e1
              omega
            have hget := hide (show (mget m2 (y / 2)).getD (.int .i64 0) = .int .i64 (N : Int) by rw [hN]; exact h2.out (y / 2))
            have hS1 := hide (one_step h1.out ⟨y / 2, ⟨(k : Int) + 1, (q : Int) + 1, false⟩, y⟩)
            have hS2 := hide (show OftIs (occs l k ++ (occNode k ⟨a, b⟩).take q ++ [⟨y / 2, ⟨(k : Int) + 1, (q : Int) + 1, false⟩, y⟩]) [] (mput m2 (y / 2) (.int .i64 ((N : Int) + 1))) by rw [hN]; exact oft_step h2.out ⟨y / 2, ⟨(k : Int) + 1, (q : Int) + 1, false⟩, y⟩)
            clear hN h1 h2 hy
            have hne := hide (blk_map_ne hblk hM1)
            have hne2 := hide (blk_map_ne hblk hM2)
            go_wp2_with (first | (at_lookup; refine wpList_lookupO (keyLaw_int Tryd.underlying3) Tryd.underlying113 zero_int rfl _ _ rfl hM2a (y / 2) (by rfl) (by rfl) ?_; rw [hget.out]) | (at_mapUpdate; first | (refine wpList_updateO (keyLaw_int Tryd.underlying3) Tryd.underlying112 rfl _ _ _ rfl hM1 (y / 2) (encU ⟨y / 2, ⟨(k : Int) + 1, (q : Int) + 1, false⟩, y⟩) (by rfl) (by rfl) (by rfl) ?_; intro w3 hM1a hg1; have hM2a := hM2.grown hg1 (by simp)) | (refine wpList_updateO (keyLaw_int Tryd.underlying3) Tryd.underlying113 rfl _ _ _ rfl hM2a (y / 2) (.int .i64 ((N : Int) + 1)) (by rfl) (by rfl) (by rfl) ?_; intro w4 hM2b hg2)))
            have hb3 := hb.grown hg1 hb.size (fun i e => by cases e; exact Nat.le_refl _)
            have hb4 := hide (hb3.grown hg2 hb3.size (fun i e => by cases e; omega))
            clear hb3
            have hM1b := hide (hM1a.grown hg2 (by simp))
            have hblk4 := hide ((hblk.grown hg1 (fun e => hne.out (Option.some.inj e))).grown hg2 (fun e => hne2.out (Option.some.inj e)))
            clear hg1 hg2 hM1a hM2a hM1 hM2
            go_roundw
            case rel => exact ⟨q + 1, _, _, by omega, by go_num, hM1b.out, hM2b, by rw [hT.out, ← List.append_assoc]; exact hS1, by rw [hT.out, ← List.append_assoc]; exact hS2, hb4.out, hblk4.out⟩
            case measure => simp [intOf]; omega
          · have hq2 : q = 2 := by omega
            subst hq2
            have hfull : (occNode k ⟨a, b⟩).take 2 = occNode k ⟨a, b⟩ := by rw [hnode.out]; rfl
            rw [hfull, ← HS.out] at h1 h2
            go_wp2
            go_roundw
            case rel => exact ⟨k + 1, m1, m2, hlt, by go_num, hM1, hM2, h1.out, h2.out, hb⟩
            case measure => simp [intOf]; omega
    · have hkn : n = k := by omega
      subst hkn
      have hfull := hl.out
      have h1 := hide h1
      have h2 := hide h2
      go_wp2
      go_loopw [56] (fun j wr => ∃ (q : Nat) (m2 : List (Int × Value)), q ≤ m ∧ j = .int .i64 q ∧ MapO wr encI w.heap.size m1 ∧ MapO wr encI (w.heap.size + 1) m2 ∧ Hid (OftIs (occs l n) (outs.take q) m2) ∧ Below w.heap.size w wr) (fun j _ => m - (intOf j).toNat)
      case atStart => exact ⟨0, m2, Nat.zero_le _, rfl, hM1, hM2, h2, hb⟩
      case round =>
        obtain ⟨q, m2, hq, rfl, hM1, hM2, h2, hb⟩ := hrel
        have hqI : (q : Int) ≤ 1000 := by have := HM.out; omega
        by_cases hltq : q < m
        · obtain ⟨ad, y, rfl, hB, hy, hc⟩ := (hro.below hb (Nat.le_refl _)).get hltq
          obtain ⟨hy0, hy1⟩ := HO.out y (List.mem_of_getElem? hy)
          have hyb : y ≤ 3000 := by have := HN.out; omega
          have hT := hide (show outs.take (q + 1) = outs.take q ++ [y] by rw [List.take_add_one, hy]; rfl)
          obtain ⟨N, hN⟩ : ∃ N : Nat, N = countO (occs l n) (y / 2) + 2 * cntOut (outs.take q) (y / 2) := ⟨_, rfl⟩
          have hNb : (N : Int) ≤ 9000 := by
            have e1 := countO_le (occs l n) (y / 2)
            have e2 := occs_len l n
            have e3 := HN.out
            have e4 := cntOut_le (outs.take q) (y / 2)
            have e5 := HM.out
            rw [List.length_take] at e4
            omega
          have hget := hide (show (mget m2 (y / 2)).getD (.int .i64 0) = .int .i64 (N : Int) by rw [hN]; exact h2.out (y / 2))
          have hS2 := hide (show OftIs (occs l n) (outs.take q ++ [y]) (mput m2 (y / 2) (.int .i64 ((N : Int) + 2))) by rw [hN]; exact oft_out h2.out y)
          clear hN h2 hy hy1
          go_wp2_with (first | (at_lookup; refine wpList_lookupO (keyLaw_int Tryd.underlying3) Tryd.underlying113 zero_int rfl _ _ rfl hM2 (y / 2) (by rfl) (by rfl) ?_; rw [hget.out]) | (at_mapUpdate; refine wpList_updateO (keyLaw_int Tryd.underlying3) Tryd.underlying113 rfl _ _ _ rfl hM2 (y / 2) (.int .i64 ((N : Int) + 2)) (by rfl) (by rfl) (by rfl) ?_; intro w4 hM2b hg2))
          have hb4 := hide (hb.grown hg2 hb.size (fun i e => by cases e; omega))
          have hM1b := hide (hM1.grown hg2 (by simp))
          clear hg2
          go_roundw
          case rel => exact ⟨q + 1, _, hltq, by go_num, hM1b.out, hM2b, by rw [hT.out]; exact hS2, hb4.out⟩
          case measure => simp [intOf]; omega
        · have hqm : m = q := by omega
          subst hqm
          have hof : outs.take m = outs := by rw [← hro.len, List.take_length]
          rw [hof] at h2
          have hr1 := h1.out
          have hr2 := h2.out
          have HR := hide (show UsesIs l outs w (.returned (.tuple #[.map (some w.heap.size), .map (some (w.heap.size + 1))])) wr from
            ⟨_, _, m1, m2, rfl, by omega, Nat.le_refl _, by omega, hM1, hM2, by rw [hfull]; exact hr1, by rw [hfull]; exact hr2, hb⟩)
          clear hr1 hr2 hof
          go_wp2
          go_ret2
          exact HR.out
end Go.Proofs.YtcjoohaagdihlaaDoor.Fault
