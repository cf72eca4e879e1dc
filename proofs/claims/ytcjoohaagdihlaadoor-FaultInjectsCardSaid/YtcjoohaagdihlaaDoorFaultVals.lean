/- Contracts on the values of a net's variables. -/
import Derived.Test.YtcjoohaagdihlaaDoorFaultInj1
namespace Go.Proofs.YtcjoohaagdihlaaDoor.Fault
open Go.RowKit Go.Lt Go.Proofs.YtcjoohaagdihlaaDoor.Lit Go.Instr
set_option linter.unusedVariables false
set_option linter.unusedSimpArgs false

theorem info_b : (Tryd.prog.info? 4).map (fun i => (i.zero, i.size, i.bytes)) = some (some (.bool false), 1, 1) := by kernel_rfl
theorem bvs_app (a b : List Bool) : bvs (a ++ b) = bvs a ++ bvs b := by unfold bvs; rw [List.map_append]
theorem bvs_len (l : List Bool) : (bvs l).length = l.length := by simp [bvs]
theorem ref_Of (A : Option Addr) (n c : Nat) (l : List Bool) (y : Int) (w : World) (h0 : 0 ≤ y) (h1 : y ≤ 3000) (h2 : y / 2 < n) (hr : Rd w A n (bvs l)) :
    Calls Tryd.prog 94 #[.slice A n c, .int .i64 y] w fun e w' => e = .returned (.bool (ofL l y)) ∧ w = w' := by
  obtain ⟨k, hk⟩ := Int.eq_ofNat_of_zero_le (show 0 ≤ y / 2 by omega)
  have hkn : k < n := by omega
  obtain ⟨ad, b, rfl, hB, hx, hc⟩ := hr.get hkn
  have hkI : (k : Int) < n := by omega
  obtain ⟨O, hO⟩ : ∃ O, (y % 2 == 1) = O := ⟨_, rfl⟩
  have hR := hide (show ofL l y = (b != O) by
    unfold ofL
    rw [hk, Int.toNat_natCast, hx, ← hO]
    rfl)
  clear hx h2
  cases b <;> cases O
  all_goals
    go_enter Tryd.func94, Tryd.ntmps94
    go_wp2
    go_ret
    exact ⟨ret_bool hR.out.symm, rfl⟩
theorem of_to {A : Option Addr} {n c : Nat} {l : List Bool} {y : Int} {b : Bool} (h : ofL l y = b) (w : World) (h0 : 0 ≤ y) (h1 : y ≤ 3000) (h2 : y / 2 < n) (hr : Rd w A n (bvs l)) :
    Calls Tryd.prog 94 #[.slice A n c, .int .i64 y] w fun e w' => e = .returned (.bool b) ∧ w = w' := by subst h; exact ref_Of A n c l y w h0 h1 h2 hr
def ValsIs (l : List Nd) (ins : List Bool) (w : World) (e : Ending) (w' : World) : Prop :=
  ∃ v, e = .returned v ∧ w'.ownsRow w.heap.size 4 1 v (l.length + 1) (bvs (valsN l ins)) ∧ Below w.heap.size w w'
theorem runV_take (ins : List Bool) {l : List Nd} {k : Nat} {x : Nd} (h : l[k]? = some x) : runV ins (l.take (k + 1)) = stepV ins (runV ins (l.take k)) x := by
  rw [List.take_add_one, h]; exact runV_snoc _ _ _
theorem runV_cnt (ins : List Bool) (l : List Nd) : ∀ k, (runV ins (l.take k)).2 ≤ k := by
  intro k
  induction k with
  | zero => simp [runV]
  | succ k ih =>
    by_cases hk : k < l.length
    · rw [runV_take ins (List.getElem?_eq_getElem hk)]
      unfold stepV
      split
      · simp only; omega
      · simp only; omega
    · rw [List.take_of_length_le (by omega)]; rw [List.take_of_length_le (by omega)] at ih; omega

set_option maxHeartbeats 4000000 in
theorem ref_Values (A I : Option Addr) (n ni c ci : Nat) (l : List Nd) (ins : List Bool) (w : World) (hn : n ≤ 1000) (hni : ni ≤ maxLen) (hg : GoodNet l) (hr : RdN w A n l) (hri : Rd w I ni (bvs ins)) :
    Calls Tryd.prog 93 #[.slice A n c, .slice I ni ci] w (ValsIs l ins w) := by
  have hnI : (n : Int) ≤ 1000 := by omega
  have hl := hide hr.1
  have hli := hide hri.len
  have HG := hide hg
  have HC := hide (runV_cnt ins l)
  clear hg hni
  go_enter Tryd.func93, Tryd.ntmps93
  go_wp2
  go_loopw [5, 6, 7] (fun u k i wr => ∃ j q : Nat, j ≤ n ∧ i = .int .i64 j ∧ k = .int .i64 q ∧ Hid (q = (runV ins (l.take j)).2) ∧ wr.ownsRow w.heap.size 4 1 u (j + 1) (bvs (runV ins (l.take j)).1) ∧ Below w.heap.size w wr) (fun _ _ i _ => n - (intOf i).toNat)
  case atStart =>
    refine ⟨0, 0, Nat.zero_le _, rfl, rfl, hide rfl, ?_, (Below.refl _ _).alloc (Nat.le_refl _) _⟩
    exact ⟨rfl, .inr ⟨w.heap.size, 1, #[.bool false], rfl, Nat.le_refl _, heap_alloc_new w _, Nat.le_refl _, by unfold maxLen; omega, rfl, rfl⟩⟩
  case round =>
    obtain ⟨j, q, hj, rfl, rfl, hq, hown, hb⟩ := hrel
    have hjI : (j : Int) ≤ 1000 := by omega
    have hqI : (q : Int) ≤ 1000 := by have := HC.out j; have := hq.out; omega
    obtain ⟨U, cU, rfl, _, _, hrv⟩ := Rd.of_own hown
    by_cases hlt : j < n
    · obtain ⟨ad, x, rfl, hB, hx, hc, hc2, _, _⟩ := (hr.below hb (Nat.le_refl _)).get hlt
      have HT := hide (runV_take ins hx)
      have HOk := hide (fun h => HG.out j x hx h)
      obtain ⟨S, hS⟩ : ∃ S, (runV ins (l.take j)).1 = S := ⟨_, rfl⟩
      rw [hS] at hown hrv
      obtain ⟨a, b⟩ := x
      simp only at hc hc2
      have h63 := hide (show j + 1 + 1 ≤ maxLen by unfold maxLen; omega)
      have hby := hide (show (j + 1 + 1) * 1 ≤ 140737488355328 by omega)
      clear hx
      by_cases ha : a < 0
      · have d1 : decide (a < 0) = true := by rw [decide_eq_true_iff]; exact ha
        obtain ⟨t, ht⟩ : ∃ t, (ins[q]?).getD false = t := ⟨_, rfl⟩
        have HN1 := hide (show (runV ins (l.take (j + 1))).1 = S ++ [t] by rw [HT.out]; unfold stepV; rw [if_pos ha, ← hq.out, hS, ht])
        have HN2 := hide (show q + 1 = (runV ins (l.take (j + 1))).2 by rw [HT.out]; unfold stepV; rw [if_pos ha, ← hq.out])
        clear HT HOk ha hS hq
        by_cases hqn : q < ni
        · obtain ⟨ad2, t', rfl, hB2, hx2, hct⟩ := (hri.below hb (Nat.le_refl _)).get hqn
          rw [hx2] at ht
          have ht : t' = t := ht
          subst ht
          have dq : decide ((q : Int) < ni) = true := by rw [decide_eq_true_iff]; omega
          have hqI2 : (q : Int) < ni := by omega
          clear hx2
          cases t'
          all_goals
            go_wp2_with (at_builtin; refine wpList_pushG rfl _ _ _ rfl Tryd.underlying30 info_b rfl (by decide) rfl (by first | rfl | simp [go_sem]) hown hb (Nat.le_refl _) rfl (by simp [Value.oneCell']) h63.out hby.out ?_; intro v6 w6 hown6 hb6 hgr6)
            go_roundw
            case rel => exact ⟨j + 1, q + 1, hlt, by go_num, by go_num, HN2, by rw [HN1.out, bvs_app]; exact hown6, hb6⟩
            case measure => simp [intOf]; omega
        · have ht : t = false := by
            rw [← ht, List.getElem?_eq_none (by have := hli.out; omega)]; rfl
          subst ht
          have dq : decide ((q : Int) < ni) = false := by rw [decide_eq_false_iff_not]; omega
          go_wp2_with (at_builtin; refine wpList_pushG rfl _ _ _ rfl Tryd.underlying30 info_b rfl (by decide) rfl (by first | rfl | simp [go_sem]) hown hb (Nat.le_refl _) rfl (by simp [Value.oneCell']) h63.out hby.out ?_; intro v6 w6 hown6 hb6 hgr6)
          go_roundw
          case rel => exact ⟨j + 1, q + 1, hlt, by go_num, by go_num, HN2, by rw [HN1.out, bvs_app]; exact hown6, hb6⟩
          case measure => simp [intOf]; omega
      · have d1 : decide (a < 0) = false := by rw [decide_eq_false_iff_not]; exact ha
        obtain ⟨g1, g2, g3⟩ := HOk.out (by simp only; omega)
        obtain ⟨ta, hta⟩ : ∃ ta, ofL S a = ta := ⟨_, rfl⟩
        obtain ⟨tb, htb⟩ : ∃ tb, ofL S b = tb := ⟨_, rfl⟩
        have HN1 := hide (show (runV ins (l.take (j + 1))).1 = S ++ [ta && tb] by rw [HT.out]; unfold stepV; rw [if_neg ha, hS, hta, htb])
        have HN2 := hide (show q = (runV ins (l.take (j + 1))).2 by rw [HT.out]; unfold stepV; rw [if_neg ha]; exact hq.out)
        try simp only at g1 g2 g3
        have HA := hide (of_to (A := U) (n := j + 1) (c := cU) hta wr (by omega) (by omega) (by omega) hrv)
        have HB := hide (of_to (A := U) (n := j + 1) (c := cU) htb wr (by omega) (by omega) (by omega) hrv)
        clear HT HOk ha hS hq hta htb g1 g2 g3 hrv
        go_wp2_with fail
        refine HA.out.mono ?_
        rintro e w2 ⟨rfl, rfl⟩
        cases ta
        · go_wp2_with (at_builtin; refine wpList_pushG rfl _ _ _ rfl Tryd.underlying30 info_b rfl (by decide) rfl (by first | rfl | simp [go_sem]) hown hb (Nat.le_refl _) rfl (by simp [Value.oneCell']) h63.out hby.out ?_; intro v6 w6 hown6 hb6 hgr6)
          go_roundw
          case rel => exact ⟨j + 1, q, hlt, by go_num, rfl, HN2, by rw [HN1.out, bvs_app]; exact hown6, hb6⟩
          case measure => simp [intOf]; omega
        · go_wp2_with fail
          refine HB.out.mono ?_
          rintro e w2 ⟨rfl, rfl⟩
          cases tb
          all_goals
            go_wp2_with (at_builtin; refine wpList_pushG rfl _ _ _ rfl Tryd.underlying30 info_b rfl (by decide) rfl (by first | rfl | simp [go_sem]) hown hb (Nat.le_refl _) rfl (by simp [Value.oneCell']) h63.out hby.out ?_; intro v6 w6 hown6 hb6 hgr6)
            go_roundw
            case rel => exact ⟨j + 1, q, hlt, by go_num, rfl, HN2, by rw [HN1.out, bvs_app]; exact hown6, hb6⟩
            case measure => simp [intOf]; omega
    · have hjn : j = n := by omega
      subst hjn
      rw [List.take_of_length_le (by rw [hl.out]; exact Nat.le_refl _)] at hown
      go_wp2
      go_ret
      exact ⟨_, rfl, by rw [hl.out]; exact hown, hb⟩
end Go.Proofs.YtcjoohaagdihlaaDoor.Fault
