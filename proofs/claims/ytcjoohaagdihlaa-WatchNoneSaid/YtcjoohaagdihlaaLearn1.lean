/- The document's place and zero of steps. -/
import Derived.Test.YtcjoohaagdihlaaLearn0
import Derived.Test.YtcjoohaagdihlaaRegSlots
namespace Go.Proofs.Ytcjoohaagdihlaa.Learn
open Go.RowKit Go.Lt Go.Proofs.Ytcjoohaagdihlaa.Lit Go.Proofs.Ytcjoohaagdihlaa.Sorted
open Go.Proofs.Ytcjoohaagdihlaa.Kept (Sl Sl.val addr_off)
set_option linter.unusedVariables false
set_option linter.unusedSimpArgs false

theorem tdiv_is (x : Int) (h : 0 ≤ x) : x.tdiv 2 = x / 2 := Int.tdiv_eq_ediv_of_nonneg h
set_option maxRecDepth 8000 in
set_option maxHeartbeats 1000000 in
theorem ref_place (A : Option Addr) (n c : Nat) (l : List St) (x : Int) (w : World) (hn : n ≤ 1000) (hr : RdT w A n l) (hl : ∀ s ∈ l, 2 ≤ s.lit ∧ s.lit ≤ 33554433) (hx : 0 ≤ x ∧ x ≤ 33554433) :
    Calls Try.prog 89 #[.slice A n c, .int .i64 x] w fun e w' => e = .returned (.int .i64 (placeZ (placeO l x))) ∧ w = w' := by
  have hnI : (n : Int) ≤ 1000 := by omega
  have hll := hide hr.1
  obtain ⟨hx0, hx1⟩ := hx
  have hxd := tdiv_is x hx0
  have hxw : IntKind.i64.wrap (x / 2) = x / 2 := IntWalk.i64_in _ (by omega)
  obtain ⟨X2, hX2⟩ : ∃ X2, x / 2 = X2 := ⟨_, rfl⟩
  have hHX := hide hX2
  rw [hX2] at hxd hxw
  clear hX2 hn
  replace hl := hide hl
  go_enter Try.func89, Try.ntmps89
  go_wp2
  go_loop [5] (fun i => ∃ k : Nat, k ≤ n ∧ i = .int .i64 k ∧ Hid (placeO (l.take k) x = none)) (fun i => n - (intOf i).toNat)
  case atStart => exact ⟨0, Nat.zero_le _, rfl, rfl⟩
  case round =>
    obtain ⟨k, hk, rfl, hno⟩ := hrel
    have hkI : (k : Int) ≤ 1000 := by omega
    by_cases hlt : k < n
    · obtain ⟨ad, s, z, rfl, hB, hs, c0, c1, c2, hw⟩ := hr.get hlt
      obtain ⟨hs0, hs1⟩ := hl.out s (List.mem_of_getElem? hs)
      have hsd := tdiv_is s.lit (by omega)
      have hsw : IntKind.i64.wrap (s.lit / 2) = s.lit / 2 := IntWalk.i64_in _ (by omega)
      by_cases he : s.lit / 2 = X2
      · have hF := hide (find_step hs hno.out (he.trans hHX.out.symm))
        have hq : (s.lit / 2 == X2) = true := by simp [he]
        rw [he] at hsd hsw hq
        clear hs c1 c2 hw hs0 hs1 he
        go_wp2
        go_ret
        exact ⟨ret_int (by rw [hF.out]; rfl), rfl⟩
      · have hN := hide (find_next hs hno.out (fun h => he (h.trans hHX.out)))
        have hq : (s.lit / 2 == X2) = false := by simp [he]
        obtain ⟨S2, hS2⟩ : ∃ S2, s.lit / 2 = S2 := ⟨_, rfl⟩
        rw [hS2] at hsd hsw hq he
        clear hs c1 c2 hw hs0 hs1 hS2
        go_wp2
        go_round
        case rel => exact ⟨k + 1, hlt, by go_num, hN⟩
        case measure => simp [intOf]; omega
    · have hkn : n = k := by omega
      subst hkn
      have hF := hide (show placeZ (placeO l x) = -1 by rw [← List.take_length (l := l), hll.out, hno.out]; rfl)
      go_wp2
      go_ret
      exact ⟨ret_int hF.out.symm, rfl⟩
set_option maxRecDepth 8000 in
set_option maxHeartbeats 1000000 in
theorem ref_zero (A : Option Addr) (n c : Nat) (l : List St) (x : Int) (w : World) (hn : n ≤ 1000) (hr : RdT w A n l) :
    Calls Try.prog 96 #[.slice A n c, .int .i64 x] w fun e w' => e = .returned (.bool (zeroB l x)) ∧ Dr w w' := by
  have hnI : (n : Int) ≤ 1000 := by omega
  have hll := hide hr.1
  clear hn
  by_cases hx0 : x = 0
  · have hF := hide (show zeroB l x = true by unfold zeroB; rw [decide_eq_true hx0]; rfl)
    go_enter Try.func96, Try.ntmps96
    go_wp2
    go_ret
    exact ⟨ret_bool hF.out.symm, Dr.refl _⟩
  · have hq0 : (x == 0) = false := by simp [hx0]
    have hX := hide hx0
    go_enter Try.func96, Try.ntmps96
    go_wp2
    go_loopw [5] (fun i wr => ∃ k : Nat, k ≤ n ∧ i = .int .i64 k ∧ Dr w wr ∧ Hid (∀ j : Nat, j < k → ∀ s, l[j]? = some s → litGood x = true → s.lit ≠ litNot x)) (fun i _ => n - (intOf i).toNat)
    case atStart => exact ⟨0, Nat.zero_le _, rfl, Dr.refl _, fun j hj => absurd hj (Nat.not_lt_zero _)⟩
    case round =>
      obtain ⟨k, hk, rfl, hd, hno⟩ := hrel
      have hkI : (k : Int) ≤ 1000 := by omega
      by_cases hlt : k < n
      · obtain ⟨ad, s, z, rfl, hB, hs, c0, c1, c2, hw⟩ := hr.get hlt
        have c0 := (hd.cell _).trans c0
        have hstep := hide (fun (h : litGood x = true → s.lit ≠ litNot x) => (show ∀ j : Nat, j < k + 1 → ∀ s, l[j]? = some s → litGood x = true → s.lit ≠ litNot x from fun j hj y hy hg => by
          by_cases h1 : j = k
          · subst h1; rw [hs] at hy; injection hy with hy; rw [← hy]; exact h hg
          · exact hno.out j (by omega) y hy hg))
        have hhit := hide (fun hg h => zero_hit (x := x) hs hg h)
        have HG := hide (fun m => ref_Good x (wr.drewN m))
        have HN := hide (fun m => ref_Not x (wr.drewN m))
        clear hs c1 c2 hw
        obtain ⟨b, hg⟩ : ∃ b, litGood x = b := ⟨_, rfl⟩
        cases b with
        | false =>
          have hst := hide (hstep.out (fun h => by rw [hg] at h; cases h))
          rw [hg] at HG
          clear hstep hhit hg
          go_wp2
          go_quiet ((go_at_call 33; exact quiet_eq (HG.out _)))
          go_wp2
          go_roundw
          case rel => exact ⟨k + 1, hlt, by go_num, hd.more _, hst⟩
          case measure => simp [intOf]; omega
        | true =>
          rw [hg] at HG
          by_cases he : s.lit = litNot x
          · have hF := hide (hhit.out hg he)
            have hq : (s.lit == litNot x) = true := by simp [he]
            obtain ⟨L, hL⟩ : ∃ L, litNot x = L := ⟨_, rfl⟩
            rw [hL] at HN hq
            clear hstep hhit hg he hL
            go_wp2
            go_quiet ((first | (go_at_call 33; exact quiet_eq (HG.out _)) | (go_at_call 34; exact quiet_eq (HN.out _))))
            go_wp2
            go_ret
            exact ⟨ret_bool hF.out.symm, hd.more _⟩
          · have hst := hide (hstep.out (fun _ => he))
            have hq : (s.lit == litNot x) = false := by simp [he]
            obtain ⟨L, hL⟩ : ∃ L, litNot x = L := ⟨_, rfl⟩
            rw [hL] at HN hq he
            clear hstep hhit hg hL
            go_wp2
            go_quiet ((first | (go_at_call 33; exact quiet_eq (HG.out _)) | (go_at_call 34; exact quiet_eq (HN.out _))))
            go_wp2
            go_roundw
            case rel => exact ⟨k + 1, hlt, by go_num, hd.more _, hst⟩
            case measure => simp [intOf]; omega
      · have hkn : n = k := by omega
        subst hkn
        have hF := hide (zero_miss (x := x) hX.out (fun j hj => hno.out j (by have := hll.out; omega)))
        go_wp2
        go_ret
        exact ⟨ret_bool hF.out.symm, hd⟩
end Go.Proofs.Ytcjoohaagdihlaa.Learn
