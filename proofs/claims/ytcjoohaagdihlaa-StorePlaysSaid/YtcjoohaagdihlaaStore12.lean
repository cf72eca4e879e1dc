/- A store's laws: what is asked of cubes, and the example. -/
import Derived.Test.YtcjoohaagdihlaaStoreP
import Derived.StillTailTactics
namespace Go.Proofs.Ytcjoohaagdihlaa.Kept
open Go.RowKit Go.Shelf Go.Lt Go.Proofs.Ytcjoohaagdihlaa.Lit Go.Proofs.Ytcjoohaagdihlaa.CubeHas Go.Proofs.Ytcjoohaagdihlaa.Cube Go.Proofs.Ytcjoohaagdihlaa.Sorted
set_option linter.unusedVariables false
set_option linter.unusedSimpArgs false

def AddW (base p : Nat) (b : Bool) (l' : List Kc) (w : World) (e : Ending) (w' : World) : Prop := ∃ V' L', e = .returned (.bool b) ∧ StL base w' p V' L' l' ∧ Below base w w'
theorem store_Add' (p base : Nat) (V : Value) (L : List Kv) (l l' : List Kc) (b : Bool) (A : Option Addr) (n cc : Nat) (cl : List Int) (dep : Int) (iA : Option Addr) (im ic : Nat) (il : List Bool) (w : World) (hS : StL base w p V L l) (hrc : Rd w A n (ivs cl)) (hn : n ≤ 1000)
    (hri : Rd w iA im (bvs il)) (him : im ≤ 100000) (hg : GoodL l) (hl : l.length ≤ 100000) (hin : im = 0 ∨ ∀ ad, iA = some ad → ad.block < base) (hbase : base ≤ w.heap.size) (hb : addB l cl dep = b) (hl' : addL l cl dep il = l') :
    Calls Try.prog 41 #[.pointer (some ⟨p, 0, none⟩), .slice A n cc, .int .i64 dep, .slice iA im ic] w (AddW base p b l' w) := by
  subst hb hl'
  have hVb : ∀ g, V.ownBlock = some g → base ≤ g := fun g e => (hS.row.lt g e).1
  refine (store_Add p base V L l A n cc cl dep iA im ic il w hS hrc hn hri him hg (by rw [hS.all.1]; exact hl) (hin.imp id fun hin ad h => ⟨fun e => by have := hin ad h; have := hS.low; omega, fun e => by have := hin ad h; have := hVb _ e; omega⟩) hbase).mono ?_
  rintro e w' ⟨V', L', rfl, h1, h2, _, _⟩
  exact ⟨V', L', rfl, h1, h2.below hbase (fun k h => by
    rcases h with h | h
    · rw [h]; exact hS.low
    · exact hVb k h)⟩
theorem goodL_one {k : Kc} (h : GoodK k) : GoodL [k] := fun x hx => by rw [List.mem_singleton.1 hx]; exact h
theorem good_a : GoodL [⟨[0, 2], 1, []⟩] := goodL_one ⟨by decide, by decide, fun x hx => by simp at hx; omega⟩
theorem good_b : GoodL [⟨[0], 1, []⟩] := goodL_one ⟨by decide, by decide, fun x hx => by simp at hx; omega⟩
theorem addB0 : addB [] [0, 2] 1 = true := by kernel_rfl
theorem addL0 : addL [] [0, 2] 1 [] = [⟨[0, 2], 1, []⟩] := by kernel_rfl
theorem addB1 : addB [⟨[0, 2], 1, []⟩] [0] 1 = true := by kernel_rfl
theorem addL1 : addL [⟨[0, 2], 1, []⟩] [0] 1 [] = [⟨[0], 1, []⟩] := by kernel_rfl
theorem addB2 : addB [⟨[0], 1, []⟩] [2, 0] 1 = false := by kernel_rfl
theorem addL2 : addL [⟨[0], 1, []⟩] [2, 0] 1 [] = [⟨[0], 1, []⟩] := by kernel_rfl
theorem depL1 : depthL [⟨[0], 1, []⟩] [true] = 1 := by kernel_rfl
theorem rd_lit (w : World) (e : TypeId) (xs : List Value) (hm : xs.length ≤ maxLen) : Rd (w.alloc (.cells xs.toArray e)) (some ⟨w.heap.size, 0, none⟩) xs.length xs := by
  have h := World.ownsRow_lit (base := w.heap.size) (e := e) (size := 1) w xs.toArray xs.length (Nat.le_refl _) hm (by simp)
  obtain ⟨A, c, hv, _, _, hr⟩ := Rd.of_own h
  injection hv with h1
  rw [← h1] at hr
  exact hr
set_option maxRecDepth 8000 in
set_option maxHeartbeats 2000000 in
/-- the example -/
theorem law_lives (w : World) : Calls Try.prog 38 #[] w fun e w' => e = .returned (.bool true) ∧ Below w.heap.size w w' := by
  go_enter Try.func38, Try.ntmps38
  go_wp2_with fail
  refine (store_New w).mono ?_
  rintro e w1 ⟨rfl, hS1, hb1⟩
  replace hS1 := hide hS1
  replace hb1 := hide hb1
  go_wp2_with fail
  have ba1 := (Below.refl w1.heap.size w1).alloc (Nat.le_refl _) (.cells #[.int .i64 0, .int .i64 2] 3)
  refine (store_Add' _ _ _ _ _ _ _ _ _ _ [0, 2] 1 _ _ _ [] _ (hS1.out.step ba1) (rd_lit w1 3 [.int .i64 0, .int .i64 2] (by unfold maxLen; decide)) (by decide) (Rd.nil _ _) (by decide) (fun k hk => by cases hk) (by decide) (.inl rfl) (by have := hb1.out.size; simp; omega) addB0 addL0).mono ?_
  rintro e w2 ⟨V2, L2, rfl, hS2, hb2⟩
  replace hS2 := hide hS2
  replace hb2 := hide (hb1.out.trans ((ba1.mono hb1.out.size).trans hb2))
  clear hS1 hb1 ba1
  go_wp2_with fail
  have ba2 := (Below.refl w2.heap.size w2).alloc (Nat.le_refl _) (.cells #[.int .i64 0] 3)
  refine (store_Add' _ _ _ _ _ _ _ _ _ _ [0] 1 _ _ _ [] _ (hS2.out.step ba2) (rd_lit w2 3 [.int .i64 0] (by unfold maxLen; decide)) (by decide) (Rd.nil _ _) (by decide) good_a (by decide) (.inl rfl) (by have := hb2.out.size; simp; omega) addB1 addL1).mono ?_
  rintro e w3 ⟨V3, L3, rfl, hS3, hb3⟩
  replace hS3 := hide hS3
  replace hb3 := hide (hb2.out.trans ((ba2.mono hb2.out.size).trans hb3))
  clear hS2 hb2 ba2
  go_wp2_with fail
  have hL3 : L3.length = 1 := hS3.out.all.1
  refine (store_Len (some ⟨w.heap.size, 0, none⟩) L3 w3.heap.size w3 hS3.out.keeps (by omega)).mono ?_
  rintro e w' ⟨rfl, rfl⟩
  rw [hL3]
  replace hL3 := hide hL3
  go_wp2_with fail
  have ba3 := (Below.refl w3.heap.size w3).alloc (Nat.le_refl _) (.cells #[.bool true] 4)
  have hS4 := hS3.out.step ba3
  refine (store_Depth (some ⟨w.heap.size, 0, none⟩) L3 _ [true] _ _ _ _ hS4.keeps hS4.all.rd (rd_lit w3 4 [.bool true] (by unfold maxLen; decide)) (by decide) good_b (by rw [hL3.out]; decide)).mono ?_
  rintro e w4 ⟨rfl, hb4⟩
  rw [depL1]
  replace hS4 := hide (hS4.step hb4)
  replace hb4 := hide (hb3.out.trans ((ba3.mono hb3.out.size).trans (hb4.mono (by have := hb3.out.size; simp; omega))))
  clear hS3 hb3 ba3
  go_wp2_with fail
  have ba4 := (Below.refl w4.heap.size w4).alloc (Nat.le_refl _) (.cells #[.int .i64 2, .int .i64 0] 3)
  refine (store_Add' _ _ _ _ _ _ _ _ _ _ [2, 0] 1 _ _ _ [] _ (hS4.out.step ba4) (rd_lit w4 3 [.int .i64 2, .int .i64 0] (by unfold maxLen; decide)) (by decide) (Rd.nil _ _) (by decide) good_b (by decide) (.inl rfl) (by have := hb4.out.size; simp; omega) addB2 addL2).mono ?_
  rintro e w5 ⟨V5, L5, rfl, hS5, hb5⟩
  replace hS5 := hide hS5
  replace hb5 := hide (hb4.out.trans ((ba4.mono hb4.out.size).trans hb5))
  clear hS4 hb4 ba4 hL3
  go_wp2
  go_ret
  exact ⟨rfl, hb5.out⟩
/-- whether cubes are few, and short -/
def fewB (L : List Kv) (n : Nat) : Bool := decide (n ≤ 60) && L.all fun x => decide (x.c.n ≤ 30) && decide (x.i.n ≤ 30)
theorem few_no {L : List Kv} {n k : Nat} {x : Kv} (hx : L[k]? = some x) (h : ¬ (x.c.n ≤ 30 ∧ x.i.n ≤ 30)) : fewB L n = false := by
  unfold fewB
  have : L.all (fun x => decide (x.c.n ≤ 30) && decide (x.i.n ≤ 30)) = false := by
    rw [List.all_eq_false]
    refine ⟨x, List.mem_of_getElem? hx, ?_⟩
    rw [Bool.and_eq_true, decide_eq_true_eq, decide_eq_true_eq]; exact h
  rw [this]; simp
theorem few_yes {L : List Kv} {n : Nat} (h : ∀ j : Nat, j < L.length → ∀ x, L[j]? = some x → x.c.n ≤ 30 ∧ x.i.n ≤ 30) : fewB L n = decide (n ≤ 60) := by
  unfold fewB
  have : L.all (fun x => decide (x.c.n ≤ 30) && decide (x.i.n ≤ 30)) = true := by
    rw [List.all_eq_true]
    intro x hx
    obtain ⟨j, hj⟩ := List.getElem?_of_mem hx
    have := h j (List.getElem?_eq_some_iff.1 hj).1 x hj
    rw [Bool.and_eq_true, decide_eq_true_eq, decide_eq_true_eq]; exact this
  rw [this]; simp
set_option maxRecDepth 8000 in
set_option maxHeartbeats 1000000 in
theorem law_few (A : Option Addr) (n c : Nat) (L : List Kv) (w : World) (hn : n ≤ maxLen) (hr : RdK w A n L) :
    Calls Try.prog 37 #[.slice A n c] w fun e w' => e = .returned (.bool (fewB L n)) ∧ w = w' := by
  have hl := hide hr.1
  have HN := hide hn
  clear hn
  go_enter Try.func37, Try.ntmps37
  go_wp2
  go_loop [3] (fun i => ∃ k : Nat, k ≤ n ∧ i = .int .i64 k ∧ Hid (∀ j : Nat, j < k → ∀ x, L[j]? = some x → x.c.n ≤ 30 ∧ x.i.n ≤ 30)) (fun i => n - (intOf i).toNat)
  case atStart => exact ⟨0, Nat.zero_le _, rfl, fun j hj => absurd hj (Nat.not_lt_zero _)⟩
  case round =>
    obtain ⟨k, hk, rfl, hno⟩ := hrel
    by_cases hlt : k < n
    · obtain ⟨ad, x, rfl, hB, hx, c0, c1, c2⟩ := hr.get hlt
      have hwk : IntKind.i64.wrap ((k : Int) + 1) = (k : Int) + 1 := IntWalk.i64_in _ (by have := HN.out; unfold maxLen at this; omega)
      have HX := hide hx
      clear hx c1
      by_cases h1 : x.c.n ≤ 30
      · by_cases h2 : x.i.n ≤ 30
        · have hN := hide (show ∀ j : Nat, j < k + 1 → ∀ x, L[j]? = some x → x.c.n ≤ 30 ∧ x.i.n ≤ 30 from fun j hj y hy => by
            by_cases h3 : j < k
            · exact hno.out j h3 y hy
            · have : j = k := by omega
              subst this
              rw [HX.out] at hy; injection hy with hy; subst hy; exact ⟨h1, h2⟩)
          have h1a : ¬ 30 < x.c.n := by omega
          have h2a : ¬ 30 < x.i.n := by omega
          go_wp2
          go_round
          case rel => exact ⟨k + 1, hlt, by go_num, hN.out⟩
          case measure => simp [intOf]; omega
        · have HF := hide (few_no (n := n) HX.out (fun h => h2 h.2))
          have h1a : ¬ 30 < x.c.n := by omega
          have h2a : 30 < x.i.n := by omega
          go_wp2
          go_ret
          exact ⟨ret_bool HF.out.symm, rfl⟩
      · have HF := hide (few_no (n := n) HX.out (fun h => h1 h.1))
        have h1a : 30 < x.c.n := by omega
        go_wp2
        go_ret
        exact ⟨ret_bool HF.out.symm, rfl⟩
    · have hkn : n = k := by omega
      subst hkn
      have HF := hide (few_yes (n := n) (fun j hj => hno.out j (by have := hl.out; omega)))
      clear hno
      go_wp2
      go_ret
      exact ⟨ret_bool (by rw [HF.out, Bool.eq_iff_iff, decide_eq_true_iff, decide_eq_true_iff]; omega), rfl⟩
end Go.Proofs.Ytcjoohaagdihlaa.Kept
