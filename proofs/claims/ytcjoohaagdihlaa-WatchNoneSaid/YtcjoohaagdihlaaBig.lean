/- Numbers in order, of any length that there may be: the program's slices.Clone, lit.Sorted, lit.Tied, cube.Norm. -/
import Derived.Test.YtcjoohaagdihlaaNorm2
namespace Go.Proofs.Ytcjoohaagdihlaa.Sorted
open Go.RowKit Go.Lt Go.Proofs.Ytcjoohaagdihlaa.Lit
set_option linter.unusedVariables false
set_option linter.unusedSimpArgs false

set_option maxHeartbeats 1000000 in
theorem slices_CloneB (A : Option Addr) (n c : Nat) (l : List Int) (w : World) (hn : n ≤ 17592186044416) (hr : Rd w A n (ivs l)) :
    Calls Try.prog 108 #[.slice A n c] w fun e w' => ∃ v, e = .returned v ∧ w'.ownsRow w.heap.size 3 1 v n (ivs l) ∧ Below w.heap.size w w' := by
  have q22 : ∀ (w : World) (a : Option Addr) (n c n' c' : Nat), (binOp .eql 40 (.slice a n c) (.slice none n' c')).run Try.prog w = .ok (.bool a.isNone) w := fun w a n c n' c' => Lib.run_eql_slice_nil w _ _ a n c n' c' Try.underlying40
  have hl := hide hr.len
  have HN := hide hn
  clear hn
  rcases A with _ | ad
  · have h0 := hr.none
    subst h0
    have hl0 : l = [] := List.eq_nil_of_length_eq_zero hl.out
    subst hl0
    clear hl
    go_enter Try.func108, Try.ntmps108
    go_wp2
    go_ret
    exact ⟨_, rfl, World.ownsRow_nil _ _ _ _, Below.refl _ _⟩
  · go_enter Try.func108, Try.ntmps108
    go_wp2_with (at_builtin; refine wpList_append_rd rfl _ _ _ rfl Try.underlying40 info_i rfl rfl rfl (World.ownsRow_lit w #[] 0 (Nat.le_refl _) (by unfold maxLen; omega) rfl) ((Below.refl w.heap.size w).alloc (Nat.le_refl _) _) (by simp) (hr.below ((Below.refl w.heap.size w).alloc (Nat.le_refl _) _) (Nat.le_refl _)) ivs_one (by have := HN.out; unfold maxLen; omega) (by have := HN.out; omega) ?_; intro v4 w4 hown4 hb4)
    go_ret
    exact ⟨_, rfl, by simpa using hown4, hb4⟩

theorem lit_SortedB (A : Option Addr) (n c : Nat) (l : List Int) (w : World) (hn : n ≤ 17592186044416) (hr : Rd w A n (ivs l)) :
    Calls Try.prog 87 #[.slice A n c] w fun e w' => ∃ v, e = .returned v ∧ w'.ownsRow w.heap.size 3 1 v (srt l).length (ivs (srt l)) ∧ Below w.heap.size w w' := by
  have hl := hide hr.len
  go_enter Try.func87, Try.ntmps87
  go_wp2_with fail
  refine (slices_CloneB _ _ _ l _ hn hr).mono ?_
  rintro e w1 ⟨v, rfl, hown, hb⟩
  rcases hown.2 with ⟨rfl, hx⟩ | ⟨g, cap, cur, rfl, hbg, hg, hnc, hcm, hcs, htake⟩
  · have hl0 : l = [] := List.eq_nil_of_length_eq_zero (by have := hl.out; omega)
    subst hl0
    have hn0 : n = 0 := hl.out.symm
    subst hn0
    clear hown hx hl
    go_wp2_with fail
    refine (Try.slices_Sort_int_none _ _ _).mono ?_
    rintro e w2 ⟨rfl, rfl⟩
    go_wp2_with fail
    refine (Try.slices_Compact_int_empty _ _ _).mono ?_
    rintro e w3 ⟨rfl, rfl⟩
    go_wp2
    go_ret
    exact ⟨_, rfl, World.ownsRow_nil _ _ _ _, hb⟩
  · have hn' : n = l.length := hl.out.symm
    subst hn'
    have hg' : g < w1.heap.size := (Array.getElem?_eq_some_iff.1 hg).1
    have htake' : cur.toList.take l.length = l.map (Value.int .i64) := by rw [Nat.mul_one] at htake; exact htake
    have hH := Go.holds_of_blockI hg htake'
    clear hown hl
    go_wp2_with fail
    refine (Try.slices_Sort_int g 0 cap l _ hH hg' (by omega)).mono ?_
    rintro e w2 ⟨rfl, q, os, hw2⟩
    obtain ⟨sl, hsl⟩ : ∃ sl, sl = l.mergeSort fun x y => decide (x ≤ y) := ⟨_, rfl⟩
    have hs : Lib.compact sl = srt l := by rw [hsl]; exact compact_sort l
    have hlen : sl.length = l.length := by rw [hsl]; exact List.length_mergeSort _
    rw [← hsl] at hw2
    obtain ⟨cur2, hg2, ht2, hz2⟩ : ∃ cur2, w2.heap[g]? = some (.cells cur2 3 (0, 0)) ∧ cur2.toList.take sl.length = sl.map (Value.int .i64) ∧ cur2.size = cur.size := by
      rw [hw2]
      exact ⟨_, Go.heap_sortedI _ hg, Go.take_putCellsI cur sl (by omega), by simp [Sort.putCells]⟩
    have hgr2 : w1.grownBy w2 (some g) := by rw [hw2]; exact Go.grownBy_sortedI _
    have hb2 : Below w.heap.size w w2 := hb.grown hgr2 hb.size (fun k hk => by cases hk; exact hbg)
    have hC := Try.slices_Compact_int g 0 cap sl w2 (Go.holds_of_blockI hg2 ht2) (by omega) (by omega)
    rw [hlen] at hC
    rw [hs] at hC
    have hk : (srt l).length ≤ l.length := srt_len l
    have hG := hide (show ∀ (w3 : World) (q : Nat), w3 = Sort.putRow (Value.int .i64) (Sort.ahead w2 q) g 0 (srt l ++ List.replicate (l.length - (srt l).length) 0).toArray →
        w3.ownsRow w.heap.size 3 1 (.slice (some ⟨g, 0, none⟩) (srt l).length cap) (srt l).length (ivs (srt l)) ∧ Below w.heap.size w w3 by
      intro w3 q3 e3
      have hlz : (srt l ++ List.replicate (l.length - (srt l).length) 0).length = l.length := by rw [List.length_append, List.length_replicate]; omega
      obtain ⟨cur3, hg3, ht3, hz3⟩ : ∃ cur3, w3.heap[g]? = some (.cells cur3 3 (0, 0)) ∧ cur3.toList.take l.length = (srt l ++ List.replicate (l.length - (srt l).length) 0).map (Value.int .i64) ∧ cur3.size = cur2.size := by
        have h1 := Go.heap_sortedI (n := q3) (os := #[]) (srt l ++ List.replicate (l.length - (srt l).length) 0).toArray hg2
        rw [Sort.grow_empty, ← e3] at h1
        refine ⟨_, h1, ?_, by simp [Sort.putCells]⟩
        have h2 := Go.take_putCellsI cur2 (srt l ++ List.replicate (l.length - (srt l).length) 0) (by omega)
        rw [hlz] at h2
        exact h2
      have hgr3 : w2.grownBy w3 (some g) := by
        have h1 := Go.grownBy_sortedI (w := w2) (g := g) (n := q3) (os := #[]) (srt l ++ List.replicate (l.length - (srt l).length) 0).toArray
        rw [Sort.grow_empty, ← e3] at h1
        exact h1
      refine ⟨⟨by rw [ivs_len, Nat.mul_one], .inr ⟨g, cap, cur3, rfl, hbg, hg3, by omega, hcm, by omega, ?_⟩⟩, hb2.grown hgr3 hb2.size (fun k hk => by cases hk; exact hbg)⟩
      have h4 : (cur3.toList.take l.length).take (srt l).length = ((srt l ++ List.replicate (l.length - (srt l).length) 0).map (Value.int .i64)).take (srt l).length := by rw [ht3]
      rw [List.take_take, Nat.min_eq_left hk, ← List.map_take, List.take_left] at h4
      rw [Nat.mul_one]
      exact h4)
    clear hw2 hsl hs hlen hH hg hg' htake htake' hcs hg2 ht2 hz2 hgr2 hb2 hb hnc hr hk hn hcm hbg
    go_wp2_with fail
    refine hC.mono ?_
    rintro e w3 ⟨rfl, q3, e3⟩
    have hG := hide (hG.out w3 q3 e3)
    clear hC e3
    go_wp2
    go_ret
    exact ⟨_, rfl, hG.out.1, hG.out.2⟩
set_option maxHeartbeats 1600000 in
theorem lit_Tied0B (A : Option Addr) (n c : Nat) (l : List Int) (w : World) (hn : n ≤ 17592186044416) (hr : Rd w A n (ivs l)) :
    Calls Try.prog 133 #[.slice A n c] w fun e w' => e = .returned (.bool (tiedB (srt l))) ∧ Below w.heap.size w w' := by
  have hl := hide hr.len
  have HR := hide (srt_rise l)
  have HL := hide (srt_len l)
  go_enter Try.func133, Try.ntmps133
  go_wp2_with fail
  refine (lit_SortedB _ _ _ l _ hn hr).mono ?_
  rintro e w1 ⟨v, rfl, hown, hb⟩
  obtain ⟨A1, c1, rfl, _, _, hr1⟩ := Rd.of_own hown
  clear hown
  have hm : (srt l).length ≤ 17592186044416 := by have := HL.out; have := hl.out; omega
  have hmI : ((srt l).length : Int) ≤ 17592186044416 := by omega
  clear HL hl hr hn
  obtain ⟨s, hs⟩ : ∃ s, srt l = s := ⟨_, rfl⟩
  rw [hs] at hm hmI hr1 HR
  rw [hs]
  have HS := hide hs
  clear hs
  have hm' : s.length = (ivs s).length := by simp [ivs]
  obtain ⟨m, hms⟩ : ∃ m, s.length = m := ⟨_, rfl⟩
  rw [hms] at hm hmI hr1
  rw [hms]
  have hms' := hide hms
  clear hm' hms
  go_wp2
  go_loopw [4] (fun i wr => ∃ k q : Nat, Hid (k = q + 1) ∧ (q < m ∨ q = 0) ∧ i = .int .i64 k ∧ Dr w1 wr ∧ Hid (∀ j : Nat, j < q → ¬ Adj s j)) (fun i _ => m + 1 - (intOf i).toNat)
  case atStart => exact ⟨1, 0, rfl, .inr rfl, rfl, Dr.refl _, fun j hj => absurd hj (Nat.not_lt_zero _)⟩
  case round =>
    obtain ⟨k, q, hkq, hq, rfl, hd, hno⟩ := hrel
    have hqI : (q : Int) ≤ 17592186044416 := by omega
    have hkI : (k : Int) ≤ 17592186044417 := by have := hkq.out; omega
    by_cases hlt : k < m
    · obtain ⟨ad, x, rfl, hB, hx, hc⟩ := (Dr.rd hd hr1).get hlt
      obtain ⟨ad', y, hA', hB', hy, hc'⟩ := (Dr.rd hd hr1).get (show q < m by have := hkq.out; omega)
      injection hA' with hA'
      subst hA'
      have hi2 : IntKind.i64.wrap ((k : Int) - 1) = (q : Int) := by rw [show (k : Int) - 1 = q by have := hkq.out; omega]; exact IntWalk.i64_in _ (by omega)
      have hi3 : q < m := by have := hkq.out; omega
      have hx : s[q + 1]? = some x := by rw [← hkq.out]; exact hx
      have hstep := hide (fun h : ¬ Adj s q => (show ∀ j : Nat, j < q + 1 → ¬ Adj s j from fun j hj => by
        by_cases h1 : j < q
        · exact hno.out j h1
        · have : j = q := by omega
          subst this; exact h))
      cases hneg : litNeg x
      · have hN := hide (adj_no hy hx (fun h => by rw [hneg] at h; cases h))
        have hneg' := hide (neg_is hneg)
        clear hx hy hneg
        have hneg := hneg'
        clear hneg'
        go_wp2
        go_quiet ((go_at_call 153; exact quiet_eq (hneg.out _)))
        go_wp2
        go_roundw
        case rel => exact ⟨k + 1, k, rfl, .inl hlt, by go_num, hd.more _, by rw [hkq.out]; exact hstep.out hN.out⟩
        case measure => simp [intOf]; omega
      · obtain ⟨⟨hx0, hx1⟩, hx2⟩ := neg_iff.1 hneg
        have hi4 : IntKind.i64.wrap (x - 1) = x - 1 := IntWalk.i64_in _ (by omega)
        by_cases he : y = x - 1
        · have hY := hide (adj_tied ⟨y, x, hy, hx, hneg, he⟩)
          have hneg' := hide (neg_is hneg)
          clear hneg
          have hneg := hneg'
          clear hneg'
          have hb1 : (y == x - 1) = true := by simp [he]
          clear hx hy he hx2 hx0 hx1
          go_wp2
          go_quiet ((go_at_call 153; exact quiet_eq (hneg.out _)))
          go_wp2
          go_ret
          exact ⟨ret_bool (hY.out.symm.trans (by rw [HS.out])), hb.trans ((hd.more _).below _)⟩
        · have hN := hide (adj_no hy hx (fun _ => he))
          have hneg' := hide (neg_is hneg)
          clear hneg
          have hneg := hneg'
          clear hneg'
          have hb1 : (y == x - 1) = false := by simp [he]
          clear hx hy he hx2 hx0 hx1
          go_wp2
          go_quiet ((go_at_call 153; exact quiet_eq (hneg.out _)))
          go_wp2
          go_roundw
          case rel => exact ⟨k + 1, k, rfl, .inl hlt, by go_num, hd.more _, by rw [hkq.out]; exact hstep.out hN.out⟩
          case measure => simp [intOf]; omega
    · have HF := hide (tied_no HR.out (fun j hj => hno.out j (by have := hms'.out; have := hkq.out; omega)))
      clear hno
      go_wp2
      go_ret
      exact ⟨ret_bool (HF.out.symm.trans (by rw [HS.out])), hb.trans (hd.below _)⟩
theorem lit_TiedB (A : Option Addr) (n c : Nat) (l : List Int) (w : World) (hn : n ≤ 17592186044416) (hr : Rd w A n (ivs l)) :
    Calls Try.prog 133 #[.slice A n c] w fun e w' => e = .returned (.bool (tiedB l)) ∧ Below w.heap.size w w' :=
  (lit_Tied0B A n c l w hn hr).mono fun e w' ⟨he, hb⟩ => ⟨he.trans (by rw [tiedB_srt]), hb⟩
theorem tied_isB {A : Option Addr} {n c : Nat} {l : List Int} {w : World} {b : Bool} (hn : n ≤ 17592186044416) (hr : Rd w A n (ivs l)) (h : tiedB l = b) :
    Calls Try.prog 133 #[.slice A n c] w fun e w' => e = .returned (.bool b) ∧ Below w.heap.size w w' := by
  subst h; exact lit_TiedB A n c l w hn hr

set_option maxHeartbeats 1600000 in
theorem cube_NormB (A : Option Addr) (n c : Nat) (l : List Int) (w : World) (hn : n ≤ 17592186044416) (hr : Rd w A n (ivs l)) :
    Calls Try.prog 100 #[.slice A n c] w (NormIs l w) := by
  have hl := hide hr.len
  have HL := hide (srt_len l)
  have HE := hide (fun x y hx hy => norm_ends (c := l) x y hx hy)
  have H0 := hide (norm_nil (c := l))
  go_enter Try.func100, Try.ntmps100
  go_wp2_with fail
  refine (lit_SortedB _ _ _ l _ hn hr).mono ?_
  rintro e w1 ⟨v, rfl, hown, hb⟩
  have hown' := hide hown
  obtain ⟨A1, c1, rfl, _, _, hr1⟩ := Rd.of_own hown
  clear hown
  have hm : (srt l).length ≤ 17592186044416 := by have := HL.out; have := hl.out; omega
  clear HL hl hr hn
  obtain ⟨s, hs⟩ : ∃ s, srt l = s := ⟨_, rfl⟩
  rw [hs] at hm hr1 HE H0
  rw [hs]
  have hown : Hid (w1.ownsRow w.heap.size 3 1 (.slice A1 s.length c1) s.length (ivs s)) := by rw [← hs]; exact hown'
  have HS := hide hs
  clear hs hown'
  cases s with
  | nil =>
    have HT := hide (H0.out rfl)
    have htn := hide (show tiedB [] = false from rfl)
    clear H0 HE
    go_wp2_with fail
    refine (tied_isB (by simp) (Rd.nil _ _) htn.out).mono ?_
    rintro e w2 ⟨rfl, hb2⟩
    go_wp2
    go_ret2
    refine .inl ⟨HT.out, _, rfl, ?_, hb.trans (hb2.mono hb.size)⟩
    rw [HS.out]
    exact own_keep hown.out hb2
  | cons x r =>
    obtain ⟨m, hms⟩ : ∃ m, r.length = m := ⟨_, rfl⟩
    have hlen : (x :: r).length = m + 1 := by rw [List.length_cons, hms]
    rw [hlen] at hm hr1
    rw [hlen]
    have hmI : (m : Int) ≤ 17592186044416 := by omega
    obtain ⟨ad, x', rfl, hB, hx, hc⟩ := hr1.get (show 0 < m + 1 by omega)
    obtain ⟨ad', y, hA', hB', hy, hc'⟩ := hr1.get (show m < m + 1 by omega)
    injection hA' with hA'
    subst hA'
    have hxx : x = x' := by simpa using hx
    subst hxx
    have HN := hide (HE.out x y rfl (by rw [hlen]; exact hy))
    have hlen' := hide hlen
    clear hms hlen hx hy H0 HE
    have hc0 : w1.cell? ad = some (.int .i64 x) := by simpa [Addr.add] using hc
    clear hc
    by_cases hx0 : x < 0
    · have hF := hide (show normB l = false by rw [HN.out]; simp [show ¬ 0 ≤ x by omega])
      go_wp2
      go_ret2
      exact .inr ⟨hF.out, rfl, hb⟩
    · have hx0' : 0 ≤ x := by omega
      by_cases hy1 : 4001 < y
      · have hF := hide (show normB l = false by rw [HN.out]; simp [show ¬ y ≤ 4001 by omega])
        have f1 : True → decide (4001 < y) = true := fun _ => by rw [decide_eq_true_iff]; exact hy1
        clear hy1
        go_wp2
        go_ret2
        exact .inr ⟨hF.out, rfl, hb⟩
      · have f1 : True → decide (4001 < y) = false := fun _ => by rw [decide_eq_false_iff_not]; exact hy1
        have hT := hide (show normB l = !tiedB (x :: r) by rw [HN.out]; simp [hx0', show y ≤ 4001 by omega])
        clear hy1
        cases ht : tiedB (x :: r)
        · have hF := hide (show normB l = true by rw [hT.out, ht]; rfl)
          have ht' := hide ht
          clear ht
          go_wp2_with fail
          refine (tied_isB (by omega) hr1 ht'.out).mono ?_
          rintro e w2 ⟨rfl, hb2⟩
          go_wp2
          go_ret2
          refine .inl ⟨hF.out, _, rfl, ?_, hb.trans (hb2.mono hb.size)⟩
          rw [HS.out, hlen'.out]
          have h1 := own_keep hown.out hb2
          rw [hlen'.out] at h1
          exact h1
        · have hF := hide (show normB l = false by rw [hT.out, ht]; rfl)
          have ht' := hide ht
          clear ht
          go_wp2_with fail
          refine (tied_isB (by omega) hr1 ht'.out).mono ?_
          rintro e w2 ⟨rfl, hb2⟩
          go_wp2
          go_ret2
          exact .inr ⟨hF.out, rfl, hb.trans (hb2.mono hb.size)⟩
end Go.Proofs.Ytcjoohaagdihlaa.Sorted
