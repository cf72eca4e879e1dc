/- Texts behind a row, one behind the other: Tied2, Norm2, Big, Clause1. -/
import Derived.Test.YtcjoohaagdihlaaWS14
import Derived.Test.YtcjoohaagdihlaaWS8
import Derived.Test.YtcjoohaagdihlaaWS13
section
/- The contract of the program's lit.Tied. -/
namespace Go.Proofs.Ytcjoohaagdihlaa.Sorted
open Go.RowKit Go.Lt Go.Proofs.Ytcjoohaagdihlaa.Lit
set_option linter.unusedVariables false
set_option linter.unusedSimpArgs false

theorem adj_no {s : List Int} {q : Nat} {y x : Int} (hy : s[q]? = some y) (hx : s[q + 1]? = some x) (h : litNeg x = true → y ≠ x - 1) : ¬ Adj s q := by
  rintro ⟨y', x', hy', hx', hn, he⟩
  rw [hy] at hy'; rw [hx] at hx'
  injection hy' with hy'; injection hx' with hx'
  subst hy' hx'
  exact h hn he

theorem neg_is {x : Int} {b : Bool} (h : litNeg x = b) : ∀ W : World, Calls Try.prog 153 #[.int .i64 x] W fun e w' => e = .returned (.bool b) ∧ W = w' := by
  subst h; exact lit_Neg x
set_option maxHeartbeats 800000 in
theorem lit_Tied0 (A : Option Addr) (n c : Nat) (l : List Int) (w : World) (hn : n ≤ 1000000) (hr : Rd w A n (ivs l)) :
    Calls Try.prog 133 #[.slice A n c] w fun e w' => e = .returned (.bool (tiedB (srt l))) ∧ Below w.heap.size w w' := by
  have hl := hide hr.len
  have HR := hide (srt_rise l)
  have HL := hide (srt_len l)
  go_enter Try.func133, Try.ntmps133
  go_wp2_with fail
  refine (lit_Sorted _ _ _ l _ hn hr).mono ?_
  rintro e w1 ⟨v, rfl, hown, hb⟩
  obtain ⟨A1, c1, rfl, _, _, hr1⟩ := Rd.of_own hown
  clear hown
  have hm : (srt l).length ≤ 1000000 := by have := HL.out; have := hl.out; omega
  have hmI : ((srt l).length : Int) ≤ 1000000 := by omega
  clear HL hl hr hn
  obtain ⟨s, hs⟩ : ∃ s, srt l = s := ⟨_, rfl⟩
  rw [hs] at hm hmI hr1 HR
  rw [hs]
  have HS := hide hs
  clear hs
  have hm' : s.length = (ivs s).length := by simp [ivs]
  obtain ⟨m, hms⟩ : ∃ m, s.length = m := ⟨_, rfl⟩
  rw [hms] at hm hmI hr1
  rw [hms]
  have hms' := hide hms
  clear hm' hms
  go_wp2
  go_loopw [4] (fun i wr => ∃ k q : Nat, Hid (k = q + 1) ∧ (q < m ∨ q = 0) ∧ i = .int .i64 k ∧ Dr w1 wr ∧ Hid (∀ j : Nat, j < q → ¬ Adj s j)) (fun i _ => m + 1 - (intOf i).toNat)
  case atStart => exact ⟨1, 0, rfl, .inr rfl, rfl, Dr.refl _, fun j hj => absurd hj (Nat.not_lt_zero _)⟩
  case round =>
    obtain ⟨k, q, hkq, hq, rfl, hd, hno⟩ := hrel
    have hqI : (q : Int) ≤ 1000000 := by omega
    have hkI : (k : Int) ≤ 1000001 := by have := hkq.out; omega
    by_cases hlt : k < m
    · obtain ⟨ad, x, rfl, hB, hx, hc⟩ := (Dr.rd hd hr1).get hlt
      obtain ⟨ad', y, hA', hB', hy, hc'⟩ := (Dr.rd hd hr1).get (show q < m by have := hkq.out; omega)
      injection hA' with hA'
      subst hA'
      have hi2 : IntKind.i64.wrap ((k : Int) - 1) = (q : Int) := by rw [show (k : Int) - 1 = q by have := hkq.out; omega]; exact IntWalk.i64_in _ (by omega)
      have hi3 : q < m := by have := hkq.out; omega
      have hx : s[q + 1]? = some x := by rw [← hkq.out]; exact hx
      have hstep := hide (fun h : ¬ Adj s q => (show ∀ j : Nat, j < q + 1 → ¬ Adj s j from fun j hj => by
        by_cases h1 : j < q
        · exact hno.out j h1
        · have : j = q := by omega
          subst this; exact h))
      cases hneg : litNeg x
      · have hN := hide (adj_no hy hx (fun h => by rw [hneg] at h; cases h))
        have hneg' := hide (neg_is hneg)
        clear hx hy hneg
        have hneg := hneg'
        clear hneg'
        go_wp2
        go_quiet ((go_at_call 153; exact quiet_eq (hneg.out _)))
        go_wp2
        go_roundw
        case rel => exact ⟨k + 1, k, rfl, .inl hlt, by go_num, hd.more _, by rw [hkq.out]; exact hstep.out hN.out⟩
        case measure => simp [intOf]; omega
      · obtain ⟨⟨hx0, hx1⟩, hx2⟩ := neg_iff.1 hneg
        have hi4 : IntKind.i64.wrap (x - 1) = x - 1 := IntWalk.i64_in _ (by omega)
        by_cases he : y = x - 1
        · have hY := hide (adj_tied ⟨y, x, hy, hx, hneg, he⟩)
          have hneg' := hide (neg_is hneg)
          clear hneg
          have hneg := hneg'
          clear hneg'
          have hb1 : (y == x - 1) = true := by simp [he]
          clear hx hy he hx2 hx0 hx1
          go_wp2
          go_quiet ((go_at_call 153; exact quiet_eq (hneg.out _)))
          go_wp2
          go_ret
          exact ⟨ret_bool (hY.out.symm.trans (by rw [HS.out])), hb.trans ((hd.more _).below _)⟩
        · have hN := hide (adj_no hy hx (fun _ => he))
          have hneg' := hide (neg_is hneg)
          clear hneg
          have hneg := hneg'
          clear hneg'
          have hb1 : (y == x - 1) = false := by simp [he]
          clear hx hy he hx2 hx0 hx1
          go_wp2
          go_quiet ((go_at_call 153; exact quiet_eq (hneg.out _)))
          go_wp2
          go_roundw
          case rel => exact ⟨k + 1, k, rfl, .inl hlt, by go_num, hd.more _, by rw [hkq.out]; exact hstep.out hN.out⟩
          case measure => simp [intOf]; omega
    · have HF := hide (tied_no HR.out (fun j hj => hno.out j (by have := hms'.out; have := hkq.out; omega)))
      clear hno
      go_wp2
      go_ret
      exact ⟨ret_bool (HF.out.symm.trans (by rw [HS.out])), hb.trans (hd.below _)⟩
theorem lit_Tied (A : Option Addr) (n c : Nat) (l : List Int) (w : World) (hn : n ≤ 1000000) (hr : Rd w A n (ivs l)) :
    Calls Try.prog 133 #[.slice A n c] w fun e w' => e = .returned (.bool (tiedB l)) ∧ Below w.heap.size w w' :=
  (lit_Tied0 A n c l w hn hr).mono fun e w' ⟨he, hb⟩ => ⟨he.trans (by rw [tiedB_srt]), hb⟩
end Go.Proofs.Ytcjoohaagdihlaa.Sorted
end

section
/- Contracts on cubes in order, the program's Norm and Join. -/
namespace Go.Proofs.Ytcjoohaagdihlaa.Sorted
open Go.RowKit Go.Lt Go.Proofs.Ytcjoohaagdihlaa.Lit
set_option linter.unusedVariables false
set_option linter.unusedSimpArgs false

def NormIs (l : List Int) (w : World) (e : Ending) (w' : World) : Prop :=
  (normB l = true ∧ ∃ v, e = .returned (.tuple #[v, .bool true]) ∧ w'.ownsRow w.heap.size 3 1 v (srt l).length (ivs (srt l)) ∧ Below w.heap.size w w') ∨
  (normB l = false ∧ e = .returned (.tuple #[.slice none 0 0, .bool false]) ∧ Below w.heap.size w w')
theorem tied_is {A : Option Addr} {n c : Nat} {l : List Int} {w : World} {b : Bool} (hn : n ≤ 1000000) (hr : Rd w A n (ivs l)) (h : tiedB l = b) :
    Calls Try.prog 133 #[.slice A n c] w fun e w' => e = .returned (.bool b) ∧ Below w.heap.size w w' := by
  subst h; exact lit_Tied A n c l w hn hr

set_option maxHeartbeats 800000 in
theorem cube_Norm (A : Option Addr) (n c : Nat) (l : List Int) (w : World) (hn : n ≤ 1000000) (hr : Rd w A n (ivs l)) :
    Calls Try.prog 100 #[.slice A n c] w (NormIs l w) := by
  have hl := hide hr.len
  have HL := hide (srt_len l)
  have HE := hide (fun x y hx hy => norm_ends (c := l) x y hx hy)
  have H0 := hide (norm_nil (c := l))
  go_enter Try.func100, Try.ntmps100
  go_wp2_with fail
  refine (lit_Sorted _ _ _ l _ hn hr).mono ?_
  rintro e w1 ⟨v, rfl, hown, hb⟩
  have hown' := hide hown
  obtain ⟨A1, c1, rfl, _, _, hr1⟩ := Rd.of_own hown
  clear hown
  have hm : (srt l).length ≤ 1000000 := by have := HL.out; have := hl.out; omega
  clear HL hl hr hn
  obtain ⟨s, hs⟩ : ∃ s, srt l = s := ⟨_, rfl⟩
  rw [hs] at hm hr1 HE H0
  rw [hs]
  have hown : Hid (w1.ownsRow w.heap.size 3 1 (.slice A1 s.length c1) s.length (ivs s)) := by rw [← hs]; exact hown'
  have HS := hide hs
  clear hs hown'
  cases s with
  | nil =>
    have HT := hide (H0.out rfl)
    have htn := hide (show tiedB [] = false from rfl)
    clear H0 HE
    go_wp2_with fail
    refine (tied_is (by simp) (Rd.nil _ _) htn.out).mono ?_
    rintro e w2 ⟨rfl, hb2⟩
    go_wp2
    go_ret2
    refine .inl ⟨HT.out, _, rfl, ?_, hb.trans (hb2.mono hb.size)⟩
    rw [HS.out]
    exact own_keep hown.out hb2
  | cons x r =>
    obtain ⟨m, hms⟩ : ∃ m, r.length = m := ⟨_, rfl⟩
    have hlen : (x :: r).length = m + 1 := by rw [List.length_cons, hms]
    rw [hlen] at hm hr1
    rw [hlen]
    have hmI : (m : Int) ≤ 1000000 := by omega
    obtain ⟨ad, x', rfl, hB, hx, hc⟩ := hr1.get (show 0 < m + 1 by omega)
    obtain ⟨ad', y, hA', hB', hy, hc'⟩ := hr1.get (show m < m + 1 by omega)
    injection hA' with hA'
    subst hA'
    have hxx : x = x' := by simpa using hx
    subst hxx
    have HN := hide (HE.out x y rfl (by rw [hlen]; exact hy))
    have hlen' := hide hlen
    clear hms hlen hx hy H0 HE
    have hc0 : w1.cell? ad = some (.int .i64 x) := by simpa [Addr.add] using hc
    clear hc
    by_cases hx0 : x < 0
    · have hF := hide (show normB l = false by rw [HN.out]; simp [show ¬ 0 ≤ x by omega])
      go_wp2
      go_ret2
      exact .inr ⟨hF.out, rfl, hb⟩
    · have hx0' : 0 ≤ x := by omega
      by_cases hy1 : 4001 < y
      · have hF := hide (show normB l = false by rw [HN.out]; simp [show ¬ y ≤ 4001 by omega])
        have f1 : True → decide (4001 < y) = true := fun _ => by rw [decide_eq_true_iff]; exact hy1
        clear hy1
        go_wp2
        go_ret2
        exact .inr ⟨hF.out, rfl, hb⟩
      · have f1 : True → decide (4001 < y) = false := fun _ => by rw [decide_eq_false_iff_not]; exact hy1
        have hT := hide (show normB l = !tiedB (x :: r) by rw [HN.out]; simp [hx0', show y ≤ 4001 by omega])
        clear hy1
        cases ht : tiedB (x :: r)
        · have hF := hide (show normB l = true by rw [hT.out, ht]; rfl)
          have ht' := hide ht
          clear ht
          go_wp2_with fail
          refine (tied_is (by omega) hr1 ht'.out).mono ?_
          rintro e w2 ⟨rfl, hb2⟩
          go_wp2
          go_ret2
          refine .inl ⟨hF.out, _, rfl, ?_, hb.trans (hb2.mono hb.size)⟩
          rw [HS.out, hlen'.out]
          have h1 := own_keep hown.out hb2
          rw [hlen'.out] at h1
          exact h1
        · have hF := hide (show normB l = false by rw [hT.out, ht]; rfl)
          have ht' := hide ht
          clear ht
          go_wp2_with fail
          refine (tied_is (by omega) hr1 ht'.out).mono ?_
          rintro e w2 ⟨rfl, hb2⟩
          go_wp2
          go_ret2
          exact .inr ⟨hF.out, rfl, hb.trans (hb2.mono hb.size)⟩
end Go.Proofs.Ytcjoohaagdihlaa.Sorted
end

section
/- Numbers in order, of any length that there may be: the program's slices.Clone, lit.Sorted, lit.Tied, cube.Norm. -/
namespace Go.Proofs.Ytcjoohaagdihlaa.Sorted
open Go.RowKit Go.Lt Go.Proofs.Ytcjoohaagdihlaa.Lit
set_option linter.unusedVariables false
set_option linter.unusedSimpArgs false

set_option maxHeartbeats 1000000 in
theorem slices_CloneB (A : Option Addr) (n c : Nat) (l : List Int) (w : World) (hn : n ≤ 17592186044416) (hr : Rd w A n (ivs l)) :
    Calls Try.prog 108 #[.slice A n c] w fun e w' => ∃ v, e = .returned v ∧ w'.ownsRow w.heap.size 3 1 v n (ivs l) ∧ Below w.heap.size w w' := by
  have q22 : ∀ (w : World) (a : Option Addr) (n c n' c' : Nat), (binOp .eql 40 (.slice a n c) (.slice none n' c')).run Try.prog w = .ok (.bool a.isNone) w := fun w a n c n' c' => Lib.run_eql_slice_nil w _ _ a n c n' c' Try.underlying40
  have hl := hide hr.len
  have HN := hide hn
  clear hn
  rcases A with _ | ad
  · have h0 := hr.none
    subst h0
    have hl0 : l = [] := List.eq_nil_of_length_eq_zero hl.out
    subst hl0
    clear hl
    go_enter Try.func108, Try.ntmps108
    go_wp2
    go_ret
    exact ⟨_, rfl, World.ownsRow_nil _ _ _ _, Below.refl _ _⟩
  · go_enter Try.func108, Try.ntmps108
    go_wp2_with (at_builtin; refine wpList_append_rd rfl _ _ _ rfl Try.underlying40 info_i rfl rfl rfl (World.ownsRow_lit w #[] 0 (Nat.le_refl _) (by unfold maxLen; omega) rfl) ((Below.refl w.heap.size w).alloc (Nat.le_refl _) _) (by simp) (hr.below ((Below.refl w.heap.size w).alloc (Nat.le_refl _) _) (Nat.le_refl _)) ivs_one (by have := HN.out; unfold maxLen; omega) (by have := HN.out; omega) ?_; intro v4 w4 hown4 hb4)
    go_ret
    exact ⟨_, rfl, by simpa using hown4, hb4⟩

theorem lit_SortedB (A : Option Addr) (n c : Nat) (l : List Int) (w : World) (hn : n ≤ 17592186044416) (hr : Rd w A n (ivs l)) :
    Calls Try.prog 87 #[.slice A n c] w fun e w' => ∃ v, e = .returned v ∧ w'.ownsRow w.heap.size 3 1 v (srt l).length (ivs (srt l)) ∧ Below w.heap.size w w' := by
  have hl := hide hr.len
  go_enter Try.func87, Try.ntmps87
  go_wp2_with fail
  refine (slices_CloneB _ _ _ l _ hn hr).mono ?_
  rintro e w1 ⟨v, rfl, hown, hb⟩
  rcases hown.2 with ⟨rfl, hx⟩ | ⟨g, cap, cur, rfl, hbg, hg, hnc, hcm, hcs, htake⟩
  · have hl0 : l = [] := List.eq_nil_of_length_eq_zero (by have := hl.out; omega)
    subst hl0
    have hn0 : n = 0 := hl.out.symm
    subst hn0
    clear hown hx hl
    go_wp2_with fail
    refine (Try.slices_Sort_int_none _ _ _).mono ?_
    rintro e w2 ⟨rfl, rfl⟩
    go_wp2_with fail
    refine (Try.slices_Compact_int_empty _ _ _).mono ?_
    rintro e w3 ⟨rfl, rfl⟩
    go_wp2
    go_ret
    exact ⟨_, rfl, World.ownsRow_nil _ _ _ _, hb⟩
  · have hn' : n = l.length := hl.out.symm
    subst hn'
    have hg' : g < w1.heap.size := (Array.getElem?_eq_some_iff.1 hg).1
    have htake' : cur.toList.take l.length = l.map (Value.int .i64) := by rw [Nat.mul_one] at htake; exact htake
    have hH := Go.holds_of_blockI hg htake'
    clear hown hl
    go_wp2_with fail
    refine (Try.slices_Sort_int g 0 cap l _ hH hg' (by omega)).mono ?_
    rintro e w2 ⟨rfl, q, os, hw2⟩
    obtain ⟨sl, hsl⟩ : ∃ sl, sl = l.mergeSort fun x y => decide (x ≤ y) := ⟨_, rfl⟩
    have hs : Lib.compact sl = srt l := by rw [hsl]; exact compact_sort l
    have hlen : sl.length = l.length := by rw [hsl]; exact List.length_mergeSort _
    rw [← hsl] at hw2
    obtain ⟨cur2, hg2, ht2, hz2⟩ : ∃ cur2, w2.heap[g]? = some (.cells cur2 3 (0, 0)) ∧ cur2.toList.take sl.length = sl.map (Value.int .i64) ∧ cur2.size = cur.size := by
      rw [hw2]
      exact ⟨_, Go.heap_sortedI _ hg, Go.take_putCellsI cur sl (by omega), by simp [Sort.putCells]⟩
    have hgr2 : w1.grownBy w2 (some g) := by rw [hw2]; exact Go.grownBy_sortedI _
    have hb2 : Below w.heap.size w w2 := hb.grown hgr2 hb.size (fun k hk => by cases hk; exact hbg)
    have hC := Try.slices_Compact_int g 0 cap sl w2 (Go.holds_of_blockI hg2 ht2) (by omega) (by omega)
    rw [hlen] at hC
    rw [hs] at hC
    have hk : (srt l).length ≤ l.length := srt_len l
    have hG := hide (show ∀ (w3 : World) (q : Nat), w3 = Sort.putRow (Value.int .i64) (Sort.ahead w2 q) g 0 (srt l ++ List.replicate (l.length - (srt l).length) 0).toArray →
        w3.ownsRow w.heap.size 3 1 (.slice (some ⟨g, 0, none⟩) (srt l).length cap) (srt l).length (ivs (srt l)) ∧ Below w.heap.size w w3 by
      intro w3 q3 e3
      have hlz : (srt l ++ List.replicate (l.length - (srt l).length) 0).length = l.length := by rw [List.length_append, List.length_replicate]; omega
      obtain ⟨cur3, hg3, ht3, hz3⟩ : ∃ cur3, w3.heap[g]? = some (.cells cur3 3 (0, 0)) ∧ cur3.toList.take l.length = (srt l ++ List.replicate (l.length - (srt l).length) 0).map (Value.int .i64) ∧ cur3.size = cur2.size := by
        have h1 := Go.heap_sortedI (n := q3) (os := #[]) (srt l ++ List.replicate (l.length - (srt l).length) 0).toArray hg2
        rw [Sort.grow_empty, ← e3] at h1
        refine ⟨_, h1, ?_, by simp [Sort.putCells]⟩
        have h2 := Go.take_putCellsI cur2 (srt l ++ List.replicate (l.length - (srt l).length) 0) (by omega)
        rw [hlz] at h2
        exact h2
      have hgr3 : w2.grownBy w3 (some g) := by
        have h1 := Go.grownBy_sortedI (w := w2) (g := g) (n := q3) (os := #[]) (srt l ++ List.replicate (l.length - (srt l).length) 0).toArray
        rw [Sort.grow_empty, ← e3] at h1
        exact h1
      refine ⟨⟨by rw [ivs_len, Nat.mul_one], .inr ⟨g, cap, cur3, rfl, hbg, hg3, by omega, hcm, by omega, ?_⟩⟩, hb2.grown hgr3 hb2.size (fun k hk => by cases hk; exact hbg)⟩
      have h4 : (cur3.toList.take l.length).take (srt l).length = ((srt l ++ List.replicate (l.length - (srt l).length) 0).map (Value.int .i64)).take (srt l).length := by rw [ht3]
      rw [List.take_take, Nat.min_eq_left hk, ← List.map_take, List.take_left] at h4
      rw [Nat.mul_one]
      exact h4)
    clear hw2 hsl hs hlen hH hg hg' htake htake' hcs hg2 ht2 hz2 hgr2 hb2 hb hnc hr hk hn hcm hbg
    go_wp2_with fail
    refine hC.mono ?_
    rintro e w3 ⟨rfl, q3, e3⟩
    have hG := hide (hG.out w3 q3 e3)
    clear hC e3
    go_wp2
    go_ret
    exact ⟨_, rfl, hG.out.1, hG.out.2⟩
set_option maxHeartbeats 1600000 in
theorem lit_Tied0B (A : Option Addr) (n c : Nat) (l : List Int) (w : World) (hn : n ≤ 17592186044416) (hr : Rd w A n (ivs l)) :
    Calls Try.prog 133 #[.slice A n c] w fun e w' => e = .returned (.bool (tiedB (srt l))) ∧ Below w.heap.size w w' := by
  have hl := hide hr.len
  have HR := hide (srt_rise l)
  have HL := hide (srt_len l)
  go_enter Try.func133, Try.ntmps133
  go_wp2_with fail
  refine (lit_SortedB _ _ _ l _ hn hr).mono ?_
  rintro e w1 ⟨v, rfl, hown, hb⟩
  obtain ⟨A1, c1, rfl, _, _, hr1⟩ := Rd.of_own hown
  clear hown
  have hm : (srt l).length ≤ 17592186044416 := by have := HL.out; have := hl.out; omega
  have hmI : ((srt l).length : Int) ≤ 17592186044416 := by omega
  clear HL hl hr hn
  obtain ⟨s, hs⟩ : ∃ s, srt l = s := ⟨_, rfl⟩
  rw [hs] at hm hmI hr1 HR
  rw [hs]
  have HS := hide hs
  clear hs
  have hm' : s.length = (ivs s).length := by simp [ivs]
  obtain ⟨m, hms⟩ : ∃ m, s.length = m := ⟨_, rfl⟩
  rw [hms] at hm hmI hr1
  rw [hms]
  have hms' := hide hms
  clear hm' hms
  go_wp2
  go_loopw [4] (fun i wr => ∃ k q : Nat, Hid (k = q + 1) ∧ (q < m ∨ q = 0) ∧ i = .int .i64 k ∧ Dr w1 wr ∧ Hid (∀ j : Nat, j < q → ¬ Adj s j)) (fun i _ => m + 1 - (intOf i).toNat)
  case atStart => exact ⟨1, 0, rfl, .inr rfl, rfl, Dr.refl _, fun j hj => absurd hj (Nat.not_lt_zero _)⟩
  case round =>
    obtain ⟨k, q, hkq, hq, rfl, hd, hno⟩ := hrel
    have hqI : (q : Int) ≤ 17592186044416 := by omega
    have hkI : (k : Int) ≤ 17592186044417 := by have := hkq.out; omega
    by_cases hlt : k < m
    · obtain ⟨ad, x, rfl, hB, hx, hc⟩ := (Dr.rd hd hr1).get hlt
      obtain ⟨ad', y, hA', hB', hy, hc'⟩ := (Dr.rd hd hr1).get (show q < m by have := hkq.out; omega)
      injection hA' with hA'
      subst hA'
      have hi2 : IntKind.i64.wrap ((k : Int) - 1) = (q : Int) := by rw [show (k : Int) - 1 = q by have := hkq.out; omega]; exact IntWalk.i64_in _ (by omega)
      have hi3 : q < m := by have := hkq.out; omega
      have hx : s[q + 1]? = some x := by rw [← hkq.out]; exact hx
      have hstep := hide (fun h : ¬ Adj s q => (show ∀ j : Nat, j < q + 1 → ¬ Adj s j from fun j hj => by
        by_cases h1 : j < q
        · exact hno.out j h1
        · have : j = q := by omega
          subst this; exact h))
      cases hneg : litNeg x
      · have hN := hide (adj_no hy hx (fun h => by rw [hneg] at h; cases h))
        have hneg' := hide (neg_is hneg)
        clear hx hy hneg
        have hneg := hneg'
        clear hneg'
        go_wp2
        go_quiet ((go_at_call 153; exact quiet_eq (hneg.out _)))
        go_wp2
        go_roundw
        case rel => exact ⟨k + 1, k, rfl, .inl hlt, by go_num, hd.more _, by rw [hkq.out]; exact hstep.out hN.out⟩
        case measure => simp [intOf]; omega
      · obtain ⟨⟨hx0, hx1⟩, hx2⟩ := neg_iff.1 hneg
        have hi4 : IntKind.i64.wrap (x - 1) = x - 1 := IntWalk.i64_in _ (by omega)
        by_cases he : y = x - 1
        · have hY := hide (adj_tied ⟨y, x, hy, hx, hneg, he⟩)
          have hneg' := hide (neg_is hneg)
          clear hneg
          have hneg := hneg'
          clear hneg'
          have hb1 : (y == x - 1) = true := by simp [he]
          clear hx hy he hx2 hx0 hx1
          go_wp2
          go_quiet ((go_at_call 153; exact quiet_eq (hneg.out _)))
          go_wp2
          go_ret
          exact ⟨ret_bool (hY.out.symm.trans (by rw [HS.out])), hb.trans ((hd.more _).below _)⟩
        · have hN := hide (adj_no hy hx (fun _ => he))
          have hneg' := hide (neg_is hneg)
          clear hneg
          have hneg := hneg'
          clear hneg'
          have hb1 : (y == x - 1) = false := by simp [he]
          clear hx hy he hx2 hx0 hx1
          go_wp2
          go_quiet ((go_at_call 153; exact quiet_eq (hneg.out _)))
          go_wp2
          go_roundw
          case rel => exact ⟨k + 1, k, rfl, .inl hlt, by go_num, hd.more _, by rw [hkq.out]; exact hstep.out hN.out⟩
          case measure => simp [intOf]; omega
    · have HF := hide (tied_no HR.out (fun j hj => hno.out j (by have := hms'.out; have := hkq.out; omega)))
      clear hno
      go_wp2
      go_ret
      exact ⟨ret_bool (HF.out.symm.trans (by rw [HS.out])), hb.trans (hd.below _)⟩
theorem lit_TiedB (A : Option Addr) (n c : Nat) (l : List Int) (w : World) (hn : n ≤ 17592186044416) (hr : Rd w A n (ivs l)) :
    Calls Try.prog 133 #[.slice A n c] w fun e w' => e = .returned (.bool (tiedB l)) ∧ Below w.heap.size w w' :=
  (lit_Tied0B A n c l w hn hr).mono fun e w' ⟨he, hb⟩ => ⟨he.trans (by rw [tiedB_srt]), hb⟩
theorem tied_isB {A : Option Addr} {n c : Nat} {l : List Int} {w : World} {b : Bool} (hn : n ≤ 17592186044416) (hr : Rd w A n (ivs l)) (h : tiedB l = b) :
    Calls Try.prog 133 #[.slice A n c] w fun e w' => e = .returned (.bool b) ∧ Below w.heap.size w w' := by
  subst h; exact lit_TiedB A n c l w hn hr

set_option maxHeartbeats 1600000 in
theorem cube_NormB (A : Option Addr) (n c : Nat) (l : List Int) (w : World) (hn : n ≤ 17592186044416) (hr : Rd w A n (ivs l)) :
    Calls Try.prog 100 #[.slice A n c] w (NormIs l w) := by
  have hl := hide hr.len
  have HL := hide (srt_len l)
  have HE := hide (fun x y hx hy => norm_ends (c := l) x y hx hy)
  have H0 := hide (norm_nil (c := l))
  go_enter Try.func100, Try.ntmps100
  go_wp2_with fail
  refine (lit_SortedB _ _ _ l _ hn hr).mono ?_
  rintro e w1 ⟨v, rfl, hown, hb⟩
  have hown' := hide hown
  obtain ⟨A1, c1, rfl, _, _, hr1⟩ := Rd.of_own hown
  clear hown
  have hm : (srt l).length ≤ 17592186044416 := by have := HL.out; have := hl.out; omega
  clear HL hl hr hn
  obtain ⟨s, hs⟩ : ∃ s, srt l = s := ⟨_, rfl⟩
  rw [hs] at hm hr1 HE H0
  rw [hs]
  have hown : Hid (w1.ownsRow w.heap.size 3 1 (.slice A1 s.length c1) s.length (ivs s)) := by rw [← hs]; exact hown'
  have HS := hide hs
  clear hs hown'
  cases s with
  | nil =>
    have HT := hide (H0.out rfl)
    have htn := hide (show tiedB [] = false from rfl)
    clear H0 HE
    go_wp2_with fail
    refine (tied_isB (by simp) (Rd.nil _ _) htn.out).mono ?_
    rintro e w2 ⟨rfl, hb2⟩
    go_wp2
    go_ret2
    refine .inl ⟨HT.out, _, rfl, ?_, hb.trans (hb2.mono hb.size)⟩
    rw [HS.out]
    exact own_keep hown.out hb2
  | cons x r =>
    obtain ⟨m, hms⟩ : ∃ m, r.length = m := ⟨_, rfl⟩
    have hlen : (x :: r).length = m + 1 := by rw [List.length_cons, hms]
    rw [hlen] at hm hr1
    rw [hlen]
    have hmI : (m : Int) ≤ 17592186044416 := by omega
    obtain ⟨ad, x', rfl, hB, hx, hc⟩ := hr1.get (show 0 < m + 1 by omega)
    obtain ⟨ad', y, hA', hB', hy, hc'⟩ := hr1.get (show m < m + 1 by omega)
    injection hA' with hA'
    subst hA'
    have hxx : x = x' := by simpa using hx
    subst hxx
    have HN := hide (HE.out x y rfl (by rw [hlen]; exact hy))
    have hlen' := hide hlen
    clear hms hlen hx hy H0 HE
    have hc0 : w1.cell? ad = some (.int .i64 x) := by simpa [Addr.add] using hc
    clear hc
    by_cases hx0 : x < 0
    · have hF := hide (show normB l = false by rw [HN.out]; simp [show ¬ 0 ≤ x by omega])
      go_wp2
      go_ret2
      exact .inr ⟨hF.out, rfl, hb⟩
    · have hx0' : 0 ≤ x := by omega
      by_cases hy1 : 4001 < y
      · have hF := hide (show normB l = false by rw [HN.out]; simp [show ¬ y ≤ 4001 by omega])
        have f1 : True → decide (4001 < y) = true := fun _ => by rw [decide_eq_true_iff]; exact hy1
        clear hy1
        go_wp2
        go_ret2
        exact .inr ⟨hF.out, rfl, hb⟩
      · have f1 : True → decide (4001 < y) = false := fun _ => by rw [decide_eq_false_iff_not]; exact hy1
        have hT := hide (show normB l = !tiedB (x :: r) by rw [HN.out]; simp [hx0', show y ≤ 4001 by omega])
        clear hy1
        cases ht : tiedB (x :: r)
        · have hF := hide (show normB l = true by rw [hT.out, ht]; rfl)
          have ht' := hide ht
          clear ht
          go_wp2_with fail
          refine (tied_isB (by omega) hr1 ht'.out).mono ?_
          rintro e w2 ⟨rfl, hb2⟩
          go_wp2
          go_ret2
          refine .inl ⟨hF.out, _, rfl, ?_, hb.trans (hb2.mono hb.size)⟩
          rw [HS.out, hlen'.out]
          have h1 := own_keep hown.out hb2
          rw [hlen'.out] at h1
          exact h1
        · have hF := hide (show normB l = false by rw [hT.out, ht]; rfl)
          have ht' := hide ht
          clear ht
          go_wp2_with fail
          refine (tied_isB (by omega) hr1 ht'.out).mono ?_
          rintro e w2 ⟨rfl, hb2⟩
          go_wp2
          go_ret2
          exact .inr ⟨hF.out, rfl, hb.trans (hb2.mono hb.size)⟩
end Go.Proofs.Ytcjoohaagdihlaa.Sorted
end

section
/- A clause in order, of any length that there may be: the program's clause.Norm. -/
namespace Go.Proofs.Ytcjoohaagdihlaa.Watch
open Go.RowKit Go.Lt Go.Proofs.Ytcjoohaagdihlaa.Lit Go.Proofs.Ytcjoohaagdihlaa.Sorted
set_option linter.unusedVariables false
set_option linter.unusedSimpArgs false

theorem slices_IndexB (A : Option Addr) (n c : Nat) (l : List Int) (x : Int) (w : World) (hn : n ≤ 17592186044416) (hr : Rd w A n (ivs l)) :
    Calls Try.prog 152 #[.slice A n c, .int .i64 x] w (IdxIs (hasB l x) w) := by
  go_enter Try.func152, Try.ntmps152
  go_wp2
  go_loop [8] (fun i => ∃ k : Nat, k ≤ n ∧ i = .int .i64 k ∧ Hid (∀ j : Nat, j < k → l[j]? ≠ some x)) (fun i => n - (intOf i).toNat)
  case atStart => exact ⟨0, Nat.zero_le _, rfl, fun j hj => absurd hj (Nat.not_lt_zero _)⟩
  case round =>
    obtain ⟨k, hk, rfl, hno⟩ := hrel
    by_cases hlt : k < n
    · obtain ⟨ad, y, rfl, hB, hy, hc⟩ := hr.get hlt
      by_cases he : y = x
      · have HY := hide (show decide (0 ≤ (k : Int)) = hasB l x by rw [has_yes (he ▸ hy)]; simp)
        have hb : (x == y) = true := by simp [he]
        clear he hy
        go_wp2
        go_ret
        exact ⟨k, rfl, HY.out, rfl⟩
      · have hb : (x == y) = false := by simp; exact fun h => he h.symm
        have HN := hide (show ∀ j : Nat, j < k + 1 → l[j]? ≠ some x from fun j hj => by
          by_cases h1 : j < k
          · exact hno.out j h1
          · have : j = k := by omega
            subst this
            rw [hy]
            intro h; injection h with h; exact he h)
        clear he hy
        go_wp2
        go_round
        case rel => exact ⟨k + 1, hlt, by go_num, HN.out⟩
        case measure => simp [intOf]; omega
    · have hkn : n = k := by omega
      subst hkn
      have HF := hide (show decide (0 ≤ (-1 : Int)) = hasB l x by rw [has_no (fun j hj => hno.out j (by have := hr.len; omega))]; rfl)
      go_wp2
      go_ret
      exact ⟨-1, rfl, HF.out, rfl⟩
theorem slices_ContainsB (A : Option Addr) (n c : Nat) (l : List Int) (x : Int) (w : World) (hn : n ≤ 17592186044416) (hr : Rd w A n (ivs l)) :
    Calls Try.prog 129 #[.slice A n c, .int .i64 x] w fun e w' => e = .returned (.bool (hasB l x)) ∧ w = w' := by
  go_enter Try.func129, Try.ntmps129
  go_wp2_with (go_at_call 152; refine (slices_IndexB _ _ _ l _ _ hn hr).mono ?_; rintro e w' ⟨i, rfl, hi, rfl⟩)
  go_ret
  exact ⟨rfl, rfl⟩
theorem lit_HasB (A : Option Addr) (n c : Nat) (l : List Int) (x : Int) (w : World) (hn : n ≤ 17592186044416) (hr : Rd w A n (ivs l)) :
    Calls Try.prog 92 #[.slice A n c, .int .i64 x] w fun e w' => e = .returned (.bool (hasB l x)) ∧ w = w' := by
  go_enter Try.func92, Try.ntmps92
  go_wp2_with (go_at_call 129; refine (slices_ContainsB _ _ _ l _ _ hn hr).mono ?_; rintro e w' ⟨rfl, rfl⟩)
  go_ret
  exact ⟨rfl, rfl⟩
def AnyIs (b : Bool) (w : World) (e : Ending) (w' : World) : Prop := e = .returned (.bool b) ∧ Dr w w'
def IdxAny (b : Bool) (w : World) (e : Ending) (w' : World) : Prop := ∃ i : Int, e = .returned (.int .i64 i) ∧ decide (0 ≤ i) = b ∧ Dr w w'
theorem any_hit {l : List Int} {p : Int → Bool} {k : Nat} {x : Int} (hx : l[k]? = some x) (h : p x = true) : l.any p = true := List.any_eq_true.2 ⟨x, List.mem_of_getElem? hx, h⟩
theorem any_miss {l : List Int} {p : Int → Bool} (h : ∀ k : Nat, k < l.length → ∀ x, l[k]? = some x → p x = false) : l.any p = false := by
  rw [List.any_eq_false]
  intro x hx
  obtain ⟨k, hk⟩ := List.getElem?_of_mem hx
  rw [h k (List.getElem?_eq_some_iff.1 hk).1 x hk]; simp
set_option maxRecDepth 8000 in
set_option maxHeartbeats 1000000 in
theorem idx_anyN (A : Option Addr) (n c : Nat) (l : List Int) (p : Int → Bool) (w : World) (hn : n ≤ 17592186044416) (hr : Rd w A n (ivs l))
    (hp : ∀ W, Dr w W → ∀ x ∈ l, Calls Try.prog 139 #[.int .i64 x] W (AnyIs (p x) W)) :
    Calls Try.prog 130 #[.slice A n c, .func (.func 139) #[] #[]] w (IdxAny (l.any p) w) := by
  have hnI : (n : Int) ≤ 17592186044416 := by omega
  have hl := hide hr.len
  replace hp := hide hp
  go_enter Try.func130, Try.ntmps130
  go_wp2
  go_loopw [8] (fun i wr => ∃ k : Nat, k ≤ n ∧ i = .int .i64 k ∧ Dr w wr ∧ Hid (∀ j : Nat, j < k → ∀ x, l[j]? = some x → p x = false)) (fun i _ => n - (intOf i).toNat)
  case atStart => exact ⟨0, Nat.zero_le _, rfl, Dr.refl _, fun j hj => absurd hj (Nat.not_lt_zero _)⟩
  case round =>
    obtain ⟨k, hk, rfl, hd, hno⟩ := hrel
    have hkI : (k : Int) ≤ 17592186044416 := by omega
    by_cases hlt : k < n
    · obtain ⟨ad, x, rfl, hB, hx, hc⟩ := hr.get hlt
      have hc := (hd.cell _).trans hc
      have hcall := hp.out wr hd x (List.mem_of_getElem? hx)
      have hhit := hide (fun h => any_hit (p := p) hx h)
      have hst := hide (fun (h : p x = false) => (show ∀ j : Nat, j < k + 1 → ∀ x, l[j]? = some x → p x = false from fun j hj y hy => by
        by_cases h1 : j = k
        · subst h1; rw [hx] at hy; injection hy with hy; rw [← hy]; exact h
        · exact hno.out j (by omega) y hy))
      obtain ⟨b, hb⟩ : ∃ b, p x = b := ⟨_, rfl⟩
      rw [hb] at hcall hst hhit
      clear hx hb
      cases b with
      | true =>
        have hF := hide (hhit.out rfl)
        clear hhit hst
        go_wp2_with fail
        refine hcall.mono ?_
        rintro e w2 ⟨rfl, hd2⟩
        go_wp2
        go_ret
        exact ⟨k, rfl, by rw [hF.out, decide_eq_true_iff]; omega, hd.trans hd2⟩
      | false =>
        have hS := hide (hst.out rfl)
        clear hhit hst
        go_wp2_with fail
        refine hcall.mono ?_
        rintro e w2 ⟨rfl, hd2⟩
        go_wp2
        go_roundw
        case rel => exact ⟨k + 1, hlt, by go_num, hd.trans hd2, hS⟩
        case measure => simp [intOf]; omega
    · have hkn : n = k := by omega
      subst hkn
      have hF := hide (any_miss (p := p) (fun j hj => hno.out j (by have := hl.out; omega)))
      clear hno
      go_wp2
      go_ret
      exact ⟨-1, rfl, by rw [hF.out]; decide, hd⟩
set_option maxRecDepth 8000 in
set_option maxHeartbeats 1000000 in
theorem anyN_is (A : Option Addr) (n c : Nat) (l : List Int) (p : Int → Bool) (w : World) (hn : n ≤ 17592186044416) (hr : Rd w A n (ivs l))
    (hp : ∀ W, Dr w W → ∀ x ∈ l, Calls Try.prog 139 #[.int .i64 x] W (AnyIs (p x) W)) {b : Bool} (hb : l.any p = b) :
    Calls Try.prog 93 #[.slice A n c, .func (.func 139) #[] #[]] w (AnyIs b w) := by
  have hI := idx_anyN A n c l p w hn hr hp
  rw [hb] at hI
  clear hp hr
  go_enter Try.func93, Try.ntmps93
  go_wp2_with fail
  refine hI.mono ?_
  rintro e w2 ⟨i, rfl, hi, hd⟩
  go_wp2
  go_ret
  exact ⟨by first | rfl | rw [hi], hd⟩
theorem norm1_is (x : Int) (w : World) : Calls Try.prog 139 #[.int .i64 x] w (AnyIs (!litGood x) w) := by
  have HG := hide (lit_Good x)
  obtain ⟨g, hg⟩ : ∃ g, litGood x = g := ⟨_, rfl⟩
  rw [hg] at HG ⊢
  clear hg
  go_enter Try.func139, Try.ntmps139
  go_wp2_with (go_at_call 140; refine (HG.out _).mono ?_; rintro e w' ⟨rfl, rfl⟩)
  go_ret
  cases g <;> exact ⟨rfl, Dr.refl _⟩
/-- a clause in order: none, or its literals but 0 -/
def okC (l : List Int) : Bool := !(hasB l 1 || tiedB l || l.any fun x => !litGood x)
def normC (l : List Int) : List Int := (srt l).filter fun x => decide (x ≠ 0)
theorem okC_srt (l : List Int) : okC (srt l) = okC l := by
  have h1 : hasB (srt l) 1 = hasB l 1 := by unfold hasB; exact decide_eq_decide.2 (by rw [srt_mem])
  have h2 : (srt l).any (fun x => !litGood x) = l.any (fun x => !litGood x) := by
    rw [Bool.eq_iff_iff, List.any_eq_true, List.any_eq_true]
    exact ⟨fun ⟨x, hx, h⟩ => ⟨x, srt_mem.1 hx, h⟩, fun ⟨x, hx, h⟩ => ⟨x, srt_mem.2 hx, h⟩⟩
  unfold okC
  rw [h1, tiedB_srt, h2]
theorem rd_tail {w : World} {ad : Addr} {m : Nat} {x : Value} {r : List Value} (h : Rd w (some ad) m (x :: r)) : Rd w (some ⟨ad.block, ad.off + 1, none⟩) (m - 1) r := by
  obtain ⟨h1, h2⟩ := h
  rw [List.length_cons] at h1
  refine ⟨by omega, fun k hk => ?_⟩
  obtain ⟨a, u, e, hb, hu, hc⟩ := h2 (k + 1) (by omega)
  injection e with e
  subst e
  refine ⟨_, u, rfl, hb, by rw [List.getElem?_cons_succ] at hu; exact hu, ?_⟩
  have : (⟨ad.block, ad.off + 1, none⟩ : Addr).add k = ad.add (k + 1) := by
    unfold Addr.add
    by_cases hk0 : k = 0
    · subst hk0; simp
    · rw [if_neg hk0, if_neg (by omega)]; simp; omega
  rw [this]; exact hc
theorem filter_rise {x : Int} {r : List Int} (hr : Rise (x :: r)) (hg : ∀ y ∈ x :: r, 0 ≤ y) : (x :: r).filter (fun x => decide (x ≠ 0)) = if x = 0 then r else x :: r := by
  have hlt : ∀ y ∈ r, x < y := fun y hy => List.rel_of_pairwise_cons hr hy
  have hx := hg x List.mem_cons_self
  have hf : r.filter (fun x => decide (x ≠ 0)) = r := by
    rw [List.filter_eq_self]
    intro y hy
    have := hlt y hy
    simp; omega
  rw [List.filter_cons, hf]
  by_cases h : x = 0
  · subst h; simp
  · simp [h]
def NormOf (l : List Int) (w : World) (e : Ending) (w' : World) : Prop :=
  Below w.heap.size w w' ∧ ((okC l = false ∧ e = .returned (.tuple #[.slice none 0 0, .bool false])) ∨ (okC l = true ∧ ∃ A c, e = .returned (.tuple #[.slice A (normC l).length c, .bool true]) ∧ Rd w' A (normC l).length (ivs (normC l)) ∧ ∀ ad, A = some ad → w.heap.size ≤ ad.block))
theorem tied_is0 {A : Option Addr} {n c : Nat} {l : List Int} {b : Bool} (h : tiedB l = b) (hn : n ≤ 17592186044416) (w : World) (hr : Rd w A n (ivs l)) : Calls Try.prog 133 #[.slice A n c] w fun e w' => e = .returned (.bool b) ∧ Below w.heap.size w w' := tied_isB hn hr h
theorem has_is1 {A : Option Addr} {n c : Nat} {l : List Int} {x : Int} {b : Bool} (h : hasB l x = b) (hn : n ≤ 17592186044416) (w : World) (hr : Rd w A n (ivs l)) : Calls Try.prog 92 #[.slice A n c, .int .i64 x] w fun e w' => e = .returned (.bool b) ∧ w = w' := by subst h; exact lit_HasB A n c l x w hn hr
set_option maxRecDepth 8000 in
set_option maxHeartbeats 2000000 in
theorem clause_Norm (A : Option Addr) (n c : Nat) (l : List Int) (w : World) (hn : n ≤ 17592186044416) (hr : Rd w A n (ivs l)) :
    Calls Try.prog 112 #[.slice A n c] w (NormOf l w) := by
  have hl := hide hr.len
  have HL := hide (srt_len l)
  have HR := hide (srt_rise l)
  have HO := hide (okC_srt l)
  go_enter Try.func112, Try.ntmps112
  go_wp2_with fail
  refine (lit_SortedB _ _ _ l _ hn hr).mono ?_
  rintro e w1 ⟨v, rfl, hown, hb⟩
  obtain ⟨A1, c1, rfl, hc1, _, hr1⟩ := Rd.of_own hown
  have hA1 := hide (show ∀ ad, A1 = some ad → w.heap.size ≤ ad.block from fun ad he => by
    subst he
    rcases own_cases hown with ⟨he, _⟩ | ⟨g, cap, he, hbg, _⟩
    · cases he
    · injection he with he
      injection he with he
      subst he; exact hbg)
  clear hown
  have hm : (srt l).length ≤ 17592186044416 := by have := HL.out; have := hl.out; omega
  have hnc : normC l = (srt l).filter fun x => decide (x ≠ 0) := rfl
  unfold NormOf
  clear HL hl hr hn
  obtain ⟨s, hs⟩ : ∃ s, srt l = s := ⟨_, rfl⟩
  rw [hs] at hm hr1 HR HO hnc hc1
  rw [hs]
  have hN := hide hnc
  clear hnc
  have HO2 := hide HO.out.symm
  clear hs HO
  obtain ⟨m, hms⟩ : ∃ m, s.length = m := ⟨_, rfl⟩
  rw [hms] at hm hr1 hc1
  rw [hms]
  have hmI : (m : Int) ≤ 17592186044416 := by omega
  replace hb := hide hb
  obtain ⟨b1, hb1⟩ : ∃ b, hasB s 1 = b := ⟨_, rfl⟩
  obtain ⟨b2, hb2⟩ : ∃ b, tiedB s = b := ⟨_, rfl⟩
  obtain ⟨b3, hb3⟩ : ∃ b, (s.any fun x => !litGood x) = b := ⟨_, rfl⟩
  have hok : okC l = !(b1 || b2 || b3) := by rw [HO2.out]; unfold okC; rw [hb1, hb2, hb3]
  have H1 := hide (has_is1 (c := c1) hb1 hm w1 hr1)
  have H2 := hide (tied_is0 (c := c1) hb2 hm w1 hr1)
  have H3 := hide (fun (W : World) (hbb : Below w1.heap.size w1 W) => anyN_is A1 m c1 s (fun x => !litGood x) W hm (hr1.below hbb (Nat.le_refl _)) (fun W' _ x _ => norm1_is x W') hb3)
  have hbad := hide (fun (h : okC l = false) (w' : World) (hb' : Below w.heap.size w w') => show NormOf l w (.returned (.tuple #[.slice none 0 0, .bool false])) w' from ⟨hb', .inl ⟨h, rfl⟩⟩)
  cases b1 with
  | true =>
    replace hok := hide hok
    clear H2 H3 hb1 hb2 hb3 hr1
    go_wp2_with fail
    refine H1.out.mono ?_
    rintro e w2 ⟨rfl, rfl⟩
    go_wp2
    go_ret2
    exact ⟨hb.out, .inl ⟨hok.out, rfl⟩⟩
  | false =>
    cases b2 with
    | true =>
      replace hok := hide hok
      clear H3 hb1 hb2 hb3 hr1
      go_wp2_with fail
      refine H1.out.mono ?_
      rintro e w2 ⟨rfl, rfl⟩
      go_wp2_with fail
      refine H2.out.mono ?_
      rintro e w2 ⟨rfl, hbT⟩
      replace hbT := hide hbT
      go_wp2
      go_ret2
      exact ⟨hb.out.trans (hbT.out.mono hb.out.size), .inl ⟨hok.out, rfl⟩⟩
    | false =>
      cases b3 with
      | true =>
        replace hok := hide hok
        clear hb1 hb2 hb3 hr1
        go_wp2_with fail
        refine H1.out.mono ?_
        rintro e w2 ⟨rfl, rfl⟩
        go_wp2_with fail
        refine H2.out.mono ?_
        rintro e w2 ⟨rfl, hbT⟩
        have H4 := hide (H3.out w2 hbT)
        replace hbT := hide hbT
        go_wp2_with fail
        refine H4.out.mono ?_
        rintro e w3 ⟨rfl, hd⟩
        have hB := hide (hb.out.trans ((hbT.out.trans (hd.below _)).mono hb.out.size))
        clear hd
        go_wp2
        go_ret2
        exact ⟨hB.out, .inl ⟨hok.out, rfl⟩⟩
      | false =>
        have hok : Hid (okC l = true) := hide hok
        have hpos : ∀ y ∈ s, 0 ≤ y := fun y hy => by
          have h := List.any_eq_false.1 hb3 y hy
          have h2 : litGood y = true := by cases hg : litGood y with
            | true => rfl
            | false => rw [hg] at h; exact absurd rfl h
          exact (good_iff.1 h2).1
        have hRd := hide (fun (W : World) (hbb : Below w1.heap.size w1 W) => hr1.below hbb (Nat.le_refl _))
        cases s with
        | nil =>
          have hm0 : m = 0 := by rw [← hms]; rfl
          subst hm0
          clear hb1 hb2 hb3 hr1 HR hpos hms
          go_wp2_with fail
          refine H1.out.mono ?_
          rintro e w2 ⟨rfl, rfl⟩
          go_wp2_with fail
          refine H2.out.mono ?_
          rintro e w2 ⟨rfl, hbT⟩
          have H4 := hide (H3.out w2 hbT)
          replace hbT := hide hbT
          go_wp2_with fail
          refine H4.out.mono ?_
          rintro e w3 ⟨rfl, hd⟩
          have hB := hide (hb.out.trans ((hbT.out.trans (hd.below _)).mono hb.out.size))
          have hrW := hide (hRd.out w3 (hbT.out.trans ((hd.below _).mono hbT.out.size)))
          clear hd
          go_wp2
          go_ret2
          exact ⟨hB.out, .inr ⟨hok.out, A1, c1, by rw [hN.out]; rfl, by rw [hN.out]; exact hrW.out, hA1.out⟩⟩
        | cons x r =>
          have hfr := hide (filter_rise HR.out hpos)
          have hml : m = r.length + 1 := by rw [← hms]; rfl
          have hm0 : decide (0 < (m : Int)) = true := decide_eq_true (by omega)
          have hm1 : (0 : Int) < m := by omega
          have hm2 : 0 < m := by omega
          replace hml := hide hml
          obtain ⟨ad, x', rfl, hBa, hx', hcx⟩ := hr1.get hm2
          have hxe : x' = x := by simpa using hx'.symm
          subst hxe
          have ez : ad.add 0 = ad := by unfold Addr.add; rw [if_pos rfl]
          rw [ez] at hcx
          have hcxW := hide (fun (W : World) (hbb : Below w1.heap.size w1 W) => (hbb.cell hBa).trans hcx)
          have hc1m : 1 ≤ c1 := by omega
          replace hms := hide hms
          clear hb1 hb2 hb3 HR hpos hx' hcx
          by_cases hx0 : x' = 0
          · have e0 : (x' == 0) = true := by simp [hx0]
            rw [if_pos hx0] at hfr
            have hlr := hide (show m - 1 = r.length by have := hml.out; omega)
            clear hx0
            by_cases hc2 : c1 = 1
            · subst hc2
              go_wp2_with fail
              refine H1.out.mono ?_
              rintro e w2 ⟨rfl, rfl⟩
              go_wp2_with fail
              refine H2.out.mono ?_
              rintro e w2 ⟨rfl, hbT⟩
              have H4 := hide (H3.out w2 hbT)
              replace hbT := hide hbT
              go_wp2_with fail
              refine H4.out.mono ?_
              rintro e w3 ⟨rfl, hd⟩
              have hB := hide (hb.out.trans ((hbT.out.trans (hd.below _)).mono hb.out.size))
              have hbW := hbT.out.trans ((hd.below _).mono hbT.out.size)
              have hrW := hide (hRd.out w3 hbW)
              have hcW := hcxW.out w3 hbW
              clear hd hbW
              have hrT := hide (rd_tail hrW.out)
              clear hrW
              go_wp2
              go_ret2
              exact ⟨hB.out, .inr ⟨hok.out, some ad, 0, by have h1 := hlr.out; have h2 : r = [] := List.eq_nil_of_length_eq_zero (by omega); rw [hN.out, hfr.out, h2]; rfl, by rw [hN.out, hfr.out]; have h1 := hlr.out; have h2 : r = [] := List.eq_nil_of_length_eq_zero (by omega); rw [h2]; exact Rd.nil _ _, hA1.out⟩⟩
            have hc3 : ¬ c1 - 1 = 0 := by omega
            have hc4 : ¬ c1 ≤ 1 := by omega
            go_wp2_with fail
            refine H1.out.mono ?_
            rintro e w2 ⟨rfl, rfl⟩
            go_wp2_with fail
            refine H2.out.mono ?_
            rintro e w2 ⟨rfl, hbT⟩
            have H4 := hide (H3.out w2 hbT)
            replace hbT := hide hbT
            go_wp2_with fail
            refine H4.out.mono ?_
            rintro e w3 ⟨rfl, hd⟩
            have hB := hide (hb.out.trans ((hbT.out.trans (hd.below _)).mono hb.out.size))
            have hbW := hbT.out.trans ((hd.below _).mono hbT.out.size)
            have hrW := hide (hRd.out w3 hbW)
            have hcW := hcxW.out w3 hbW
            clear hd hbW
            have hrT := hide (rd_tail hrW.out)
            clear hrW
            go_wp2
            go_ret2
            exact ⟨hB.out, .inr ⟨hok.out, _, c1 - 1, by rw [hN.out, hfr.out, ← hlr.out]; rfl, by rw [hN.out, hfr.out, ← hlr.out]; exact hrT.out, fun ad' he => by injection he with he; subst he; exact hA1.out ad rfl⟩⟩
          · have e0 : (x' == 0) = false := by simp [hx0]
            rw [if_neg hx0] at hfr
            clear hx0
            go_wp2_with fail
            refine H1.out.mono ?_
            rintro e w2 ⟨rfl, rfl⟩
            go_wp2_with fail
            refine H2.out.mono ?_
            rintro e w2 ⟨rfl, hbT⟩
            have H4 := hide (H3.out w2 hbT)
            replace hbT := hide hbT
            go_wp2_with fail
            refine H4.out.mono ?_
            rintro e w3 ⟨rfl, hd⟩
            have hB := hide (hb.out.trans ((hbT.out.trans (hd.below _)).mono hb.out.size))
            have hbW := hbT.out.trans ((hd.below _).mono hbT.out.size)
            have hrW := hide (hRd.out w3 hbW)
            have hcW := hcxW.out w3 hbW
            clear hd hbW
            go_wp2
            go_ret2
            exact ⟨hB.out, .inr ⟨hok.out, some ad, c1, by rw [hN.out, hfr.out, hms.out]; rfl, by rw [hN.out, hfr.out, hms.out]; exact hrW.out, hA1.out⟩⟩
end Go.Proofs.Ytcjoohaagdihlaa.Watch
end
