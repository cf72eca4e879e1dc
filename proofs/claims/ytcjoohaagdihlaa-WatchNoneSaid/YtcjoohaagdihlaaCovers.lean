/- Contracts on cubes: whether one covers another one, and the cube of a state alone. -/
import Derived.Test.YtcjoohaagdihlaaLit2
namespace Go.Proofs.Ytcjoohaagdihlaa.Cube
open Go.RowKit Go.Lt Go.Proofs.Ytcjoohaagdihlaa.Lit
set_option linter.unusedVariables false
set_option linter.unusedSimpArgs false

theorem info_c : (Try.prog.info? 3).map (fun i => (i.zero, i.size, i.bytes)) = some (some (.int .i64 0), 1, 8) := by kernel_rfl
/-- whether a cube says no more than another one -/
def covB (a b : List Int) : Bool := a.all (hasB b)
theorem cov_no {a b : List Int} {k : Nat} {x : Int} (hx : a[k]? = some x) (h : hasB b x = false) : covB a b = false := by
  unfold covB; rw [List.all_eq_false]; exact ⟨x, List.mem_of_getElem? hx, by rw [h]; simp⟩
theorem cov_yes {a b : List Int} (h : ∀ k : Nat, k < a.length → ∀ x, a[k]? = some x → hasB b x = true) : covB a b = true := by
  unfold covB; rw [List.all_eq_true]
  intro x hx
  obtain ⟨i, hi⟩ := List.getElem?_of_mem hx
  exact h i (List.getElem?_eq_some_iff.1 hi).1 x hi
theorem has_is {A : Option Addr} {n c : Nat} {l : List Int} {x : Int} {b : Bool} (h : hasB l x = b) (hn : n ≤ 1000000) : ∀ W : World, Rd W A n (ivs l) →
    Calls Try.prog 92 #[.slice A n c, .int .i64 x] W fun e w' => e = .returned (.bool b) ∧ W = w' := by
  subst h; exact fun W hr => lit_Has A n c l x W hn hr
theorem rhas_is {A : Option Addr} {n c : Nat} {l : List Int} {x : Int} {b : Bool} (h : hasB l x = b) (hn : n ≤ 1000000) : ∀ W : World, Rd W A n (ivs l) →
    Calls Try.prog 95 #[.slice A n c, .int .i64 x] W fun e w' => e = .returned (.bool b) ∧ W = w' := by
  subst h; exact fun W hr => ref_Has A n c l x W hn hr

theorem cube_Covers (A B : Option Addr) (n m ca cb : Nat) (a b : List Int) (w : World) (hn : n ≤ 1000000) (hm : m ≤ 1000000) (hra : Rd w A n (ivs a)) (hrb : Rd w B m (ivs b)) :
    Calls Try.prog 102 #[.slice A n ca, .slice B m cb] w fun e w' => e = .returned (.bool (covB a b)) ∧ w = w' := by
  have hl := hide hra.len
  go_enter Try.func102, Try.ntmps102
  go_wp2
  go_loop [9] (fun i => ∃ k : Nat, k ≤ n ∧ i = .int .i64 k ∧ Hid (∀ j : Nat, j < k → ∀ x, a[j]? = some x → hasB b x = true)) (fun i => n - (intOf i).toNat)
  case atStart => exact ⟨0, Nat.zero_le _, rfl, fun j hj => absurd hj (Nat.not_lt_zero _)⟩
  case round =>
    obtain ⟨k, hk, rfl, hno⟩ := hrel
    by_cases hlt : k < n
    · obtain ⟨ad, x, rfl, hB, hx, hc⟩ := hra.get hlt
      cases hh : hasB b x
      · have hF := hide (cov_no hx hh)
        have H := hide (has_is (A := B) (n := m) (c := cb) hh hm _ hrb)
        clear hx hh
        go_wp2_with fail
        refine H.out.mono ?_
        rintro e w1 ⟨rfl, rfl⟩
        go_wp2
        go_ret
        exact ⟨ret_bool hF.out.symm, rfl⟩
      · have hN := hide (show ∀ j : Nat, j < k + 1 → ∀ x, a[j]? = some x → hasB b x = true from fun j hj y hy => by
          by_cases h1 : j < k
          · exact hno.out j h1 y hy
          · have : j = k := by omega
            subst this
            rw [hx] at hy; injection hy with hy; subst hy; exact hh)
        have H := hide (has_is (A := B) (n := m) (c := cb) hh hm _ hrb)
        clear hx hh
        go_wp2_with fail
        refine H.out.mono ?_
        rintro e w1 ⟨rfl, rfl⟩
        go_wp2
        go_round
        case rel => exact ⟨k + 1, hlt, by go_num, hN.out⟩
        case measure => simp [intOf]; omega
    · have hkn : n = k := by omega
      subst hkn
      have HF := hide (cov_yes (fun j hj => hno.out j (by have := hl.out; omega)))
      clear hno
      go_wp2
      go_ret
      exact ⟨ret_bool HF.out.symm, rfl⟩

theorem ref_Covers (A B : Option Addr) (n m ca cb : Nat) (a b : List Int) (w : World) (hn : n ≤ 1000000) (hm : m ≤ 1000000) (hra : Rd w A n (ivs a)) (hrb : Rd w B m (ivs b)) :
    Calls Try.prog 45 #[.slice A n ca, .slice B m cb] w fun e w' => e = .returned (.bool (covB a b)) ∧ w = w' := by
  have hl := hide hra.len
  go_enter Try.func45, Try.ntmps45
  go_wp2
  go_loop [5] (fun i => ∃ k : Nat, k ≤ n ∧ i = .int .i64 k ∧ Hid (∀ j : Nat, j < k → ∀ x, a[j]? = some x → hasB b x = true)) (fun i => n - (intOf i).toNat)
  case atStart => exact ⟨0, Nat.zero_le _, rfl, fun j hj => absurd hj (Nat.not_lt_zero _)⟩
  case round =>
    obtain ⟨k, hk, rfl, hno⟩ := hrel
    by_cases hlt : k < n
    · obtain ⟨ad, x, rfl, hB, hx, hc⟩ := hra.get hlt
      cases hh : hasB b x
      · have hF := hide (cov_no hx hh)
        have H := hide (rhas_is (A := B) (n := m) (c := cb) hh hm _ hrb)
        clear hx hh
        go_wp2_with fail
        refine H.out.mono ?_
        rintro e w1 ⟨rfl, rfl⟩
        go_wp2
        go_ret
        exact ⟨ret_bool hF.out.symm, rfl⟩
      · have hN := hide (show ∀ j : Nat, j < k + 1 → ∀ x, a[j]? = some x → hasB b x = true from fun j hj y hy => by
          by_cases h1 : j < k
          · exact hno.out j h1 y hy
          · have : j = k := by omega
            subst this
            rw [hx] at hy; injection hy with hy; subst hy; exact hh)
        have H := hide (rhas_is (A := B) (n := m) (c := cb) hh hm _ hrb)
        clear hx hh
        go_wp2_with fail
        refine H.out.mono ?_
        rintro e w1 ⟨rfl, rfl⟩
        go_wp2
        go_round
        case rel => exact ⟨k + 1, hlt, by go_num, hN.out⟩
        case measure => simp [intOf]; omega
    · have hkn : n = k := by omega
      subst hkn
      have HF := hide (cov_yes (fun j hj => hno.out j (by have := hl.out; omega)))
      clear hno
      go_wp2
      go_ret
      exact ⟨ret_bool HF.out.symm, rfl⟩

end Go.Proofs.Ytcjoohaagdihlaa.Cube
