/- Contracts on cubes: whether one covers another one, and the cube of a state alone. -/
import Derived.Test.YtcjoohaagdihlaaDoorLit2
namespace Go.Proofs.YtcjoohaagdihlaaDoor.Cube
open Go.RowKit Go.Lt Go.Proofs.YtcjoohaagdihlaaDoor.Lit
set_option linter.unusedVariables false
set_option linter.unusedSimpArgs false

theorem info_c : (Tryd.prog.info? 3).map (fun i => (i.zero, i.size, i.bytes)) = some (some (.int .i64 0), 1, 8) := by kernel_rfl
/-- whether a cube says no more than another one -/
def covB (a b : List Int) : Bool := a.all (hasB b)
theorem cov_no {a b : List Int} {k : Nat} {x : Int} (hx : a[k]? = some x) (h : hasB b x = false) : covB a b = false := by
  unfold covB; rw [List.all_eq_false]; exact ⟨x, List.mem_of_getElem? hx, by rw [h]; simp⟩
theorem cov_yes {a b : List Int} (h : ∀ k : Nat, k < a.length → ∀ x, a[k]? = some x → hasB b x = true) : covB a b = true := by
  unfold covB; rw [List.all_eq_true]
  intro x hx
  obtain ⟨i, hi⟩ := List.getElem?_of_mem hx
  exact h i (List.getElem?_eq_some_iff.1 hi).1 x hi
theorem has_is {A : Option Addr} {n c : Nat} {l : List Int} {x : Int} {b : Bool} (h : hasB l x = b) (hn : n ≤ 1000000) : ∀ W : World, Rd W A n (ivs l) →
    Calls Tryd.prog 78 #[.slice A n c, .int .i64 x] W fun e w' => e = .returned (.bool b) ∧ W = w' := by
  subst h; exact fun W hr => lit_Has A n c l x W hn hr
theorem rhas_is {A : Option Addr} {n c : Nat} {l : List Int} {x : Int} {b : Bool} (h : hasB l x = b) (hn : n ≤ 1000000) : ∀ W : World, Rd W A n (ivs l) →
    Calls Tryd.prog 79 #[.slice A n c, .int .i64 x] W fun e w' => e = .returned (.bool b) ∧ W = w' := by
  subst h; exact fun W hr => ref_Has A n c l x W hn hr

theorem cube_Covers (A B : Option Addr) (n m ca cb : Nat) (a b : List Int) (w : World) (hn : n ≤ 1000000) (hm : m ≤ 1000000) (hra : Rd w A n (ivs a)) (hrb : Rd w B m (ivs b)) :
    Calls Tryd.prog 54 #[.slice A n ca, .slice B m cb] w fun e w' => e = .returned (.bool (covB a b)) ∧ w = w' := by
  have hl := hide hra.len
  go_enter Tryd.func54, Tryd.ntmps54
  go_wp2
  go_loop [9] (fun i => ∃ k : Nat, k ≤ n ∧ i = .int .i64 k ∧ Hid (∀ j : Nat, j < k → ∀ x, a[j]? = some x → hasB b x = true)) (fun i => n - (intOf i).toNat)
  case atStart => exact ⟨0, Nat.zero_le _, rfl, fun j hj => absurd hj (Nat.not_lt_zero _)⟩
  case round =>
    obtain ⟨k, hk, rfl, hno⟩ := hrel
    by_cases hlt : k < n
    · obtain ⟨ad, x, rfl, hB, hx, hc⟩ := hra.get hlt
      cases hh : hasB b x
      · have hF := hide (cov_no hx hh)
        have H := hide (has_is (A := B) (n := m) (c := cb) hh hm _ hrb)
        clear hx hh
        go_wp2_with fail
        refine H.out.mono ?_
        rintro e w1 ⟨rfl, rfl⟩
        go_wp2
        go_ret
        exact ⟨ret_bool hF.out.symm, rfl⟩
      · have hN := hide (show ∀ j : Nat, j < k + 1 → ∀ x, a[j]? = some x → hasB b x = true from fun j hj y hy => by
          by_cases h1 : j < k
          · exact hno.out j h1 y hy
          · have : j = k := by omega
            subst this
            rw [hx] at hy; injection hy with hy; subst hy; exact hh)
        have H := hide (has_is (A := B) (n := m) (c := cb) hh hm _ hrb)
        clear hx hh
        go_wp2_with fail
        refine H.out.mono ?_
        rintro e w1 ⟨rfl, rfl⟩
        go_wp2
        go_round
        case rel => exact ⟨k + 1, hlt, by go_num, hN.out⟩
        case measure => simp [intOf]; omega
    · have hkn : n = k := by omega
      subst hkn
      have HF := hide (cov_yes (fun j hj => hno.out j (by have := hl.out; omega)))
      clear hno
      go_wp2
      go_ret
      exact ⟨ret_bool HF.out.symm, rfl⟩

theorem ref_Covers (A B : Option Addr) (n m ca cb : Nat) (a b : List Int) (w : World) (hn : n ≤ 1000000) (hm : m ≤ 1000000) (hra : Rd w A n (ivs a)) (hrb : Rd w B m (ivs b)) :
    Calls Tryd.prog 55 #[.slice A n ca, .slice B m cb] w fun e w' => e = .returned (.bool (covB a b)) ∧ w = w' := by
  have hl := hide hra.len
  go_enter Tryd.func55, Tryd.ntmps55
  go_wp2
  go_loop [5] (fun i => ∃ k : Nat, k ≤ n ∧ i = .int .i64 k ∧ Hid (∀ j : Nat, j < k → ∀ x, a[j]? = some x → hasB b x = true)) (fun i => n - (intOf i).toNat)
  case atStart => exact ⟨0, Nat.zero_le _, rfl, fun j hj => absurd hj (Nat.not_lt_zero _)⟩
  case round =>
    obtain ⟨k, hk, rfl, hno⟩ := hrel
    by_cases hlt : k < n
    · obtain ⟨ad, x, rfl, hB, hx, hc⟩ := hra.get hlt
      cases hh : hasB b x
      · have hF := hide (cov_no hx hh)
        have H := hide (rhas_is (A := B) (n := m) (c := cb) hh hm _ hrb)
        clear hx hh
        go_wp2_with fail
        refine H.out.mono ?_
        rintro e w1 ⟨rfl, rfl⟩
        go_wp2
        go_ret
        exact ⟨ret_bool hF.out.symm, rfl⟩
      · have hN := hide (show ∀ j : Nat, j < k + 1 → ∀ x, a[j]? = some x → hasB b x = true from fun j hj y hy => by
          by_cases h1 : j < k
          · exact hno.out j h1 y hy
          · have : j = k := by omega
            subst this
            rw [hx] at hy; injection hy with hy; subst hy; exact hh)
        have H := hide (rhas_is (A := B) (n := m) (c := cb) hh hm _ hrb)
        clear hx hh
        go_wp2_with fail
        refine H.out.mono ?_
        rintro e w1 ⟨rfl, rfl⟩
        go_wp2
        go_round
        case rel => exact ⟨k + 1, hlt, by go_num, hN.out⟩
        case measure => simp [intOf]; omega
    · have hkn : n = k := by omega
      subst hkn
      have HF := hide (cov_yes (fun j hj => hno.out j (by have := hl.out; omega)))
      clear hno
      go_wp2
      go_ret
      exact ⟨ret_bool HF.out.symm, rfl⟩

/-- the cube of a state alone -/
def ofAt (s : List Bool) (i : Nat) : Int := if s.getD i false then 2 * (i : Int) else 2 * (i : Int) + 1
def ofN (s : List Bool) (k : Nat) : List Int := (List.range k).map (ofAt s)
theorem ofN_succ (s : List Bool) (k : Nat) : ofN s (k + 1) = ofN s k ++ [ofAt s k] := by
  unfold ofN; rw [List.range_succ, List.map_append]; rfl
theorem ofN_len (s : List Bool) (k : Nat) : (ofN s k).length = k := by simp [ofN]
def mixO (s : List Bool) (n k : Nat) : List Int := ofN s k ++ List.replicate (n - k) 0
theorem mixO_get (s : List Bool) (n k : Nat) (h : k < n) : (mixO s n k)[k]? = some 0 := by
  unfold mixO
  rw [List.getElem?_append_right (by rw [ofN_len]; omega), ofN_len, Nat.sub_self, List.getElem?_replicate, if_pos (by omega)]
theorem mixO_set (s : List Bool) (n k : Nat) (h : k < n) : (mixO s n k).set k (ofAt s k) = mixO s n (k + 1) := by
  unfold mixO
  rw [List.set_append_right _ _ (by rw [ofN_len]; omega), ofN_succ, ofN_len, Nat.sub_self]
  rw [show n - k = (n - (k + 1)) + 1 by omega, List.replicate_succ]
  simp
theorem ofAt_of {s : List Bool} {k : Nat} {b : Bool} (h : s[k]? = some b) : ofAt s k = if b then 2 * (k : Int) else 2 * (k : Int) + 1 := by
  unfold ofAt; rw [List.getD_eq_getElem?_getD, h]; rfl

set_option maxHeartbeats 400000 in
theorem cube_Of (A : Option Addr) (n c : Nat) (s : List Bool) (w : World) (hn : n ≤ 1000000) (hr : Rd w A n (bvs s)) :
    Calls Tryd.prog 56 #[.slice A n c] w fun e w' => ∃ A', e = .returned (.slice A' n n) ∧ Rd w' A' n (ivs (ofN s n)) ∧ Below w.heap.size w w' := by
  obtain ⟨i0, hi, hz0, hz1, hz2⟩ := info_parts info_c
  have hnI : (n : Int) ≤ 1000000 := by omega
  go_enter Tryd.func56, Tryd.ntmps56
  go_wp2_with (at_make; refine wpList_make_full _ rfl _ _ _ rfl w.heap.size 3 i0 (.int .i64 0) 1 Tryd.underlying22 hi hz0 hz1 .i64 .i64 _ _ n rfl rfl rfl rfl (by rw [hz2]; omega) (by unfold maxLen; omega) (Nat.le_refl _) ?_; intro w1 hown1 hg1)
  have hb1 := (Below.refl w.heap.size w).grown hg1 (Nat.le_refl _) (by simp)
  go_loopw [11] (fun i wr => ∃ k : Nat, k ≤ n ∧ i = .int .i64 k ∧ wr.ownsRow w.heap.size 3 1 (.slice (some ⟨w.heap.size, 0, none⟩) n n) n ((mixO s n k).map (Value.int .i64)) ∧ Below w.heap.size w wr)
    (fun i _ => n - (intOf i).toNat)
  case atStart =>
    refine ⟨0, Nat.zero_le _, rfl, ?_, hb1⟩
    rw [show mixO s n 0 = List.replicate n 0 by unfold mixO ofN; simp]
    have e : (madeCells (Value.cells (.int .i64 0)) (n * 1)).toList = (List.replicate n (0 : Int)).map (Value.int .i64) := by
      show (madeCells #[Value.int .i64 0] (n * 1)).toList = _
      rw [toList_madeCells_one, Nat.mul_one, List.map_replicate]
    rw [← e]
    exact hown1
  case round =>
    obtain ⟨k, hk, rfl, hown, hb⟩ := hrel
    by_cases hlt : k < n
    · obtain ⟨ad, x, rfl, hB, hx, hc⟩ := (hr.below hb (Nat.le_refl _)).get hlt
      have hc2 : wr.cell? ⟨w.heap.size, k, none⟩ = some (.int .i64 0) := by
        rw [hown.cellAt k (by omega), List.getElem?_map, mixO_get s n k hlt]; rfl
      have hf2 := hown.frozenAt k
      have HS := hide (mixO_set s n k hlt)
      have HA := hide (ofAt_of hx)
      have hkI : (k : Int) ≤ 1000000 := by omega
      clear hx
      cases x
      · go_wp2
        go_roundw
        case rel =>
          refine ⟨k + 1, hlt, by go_num, ?_, (hb.setCell (Nat.le_refl _) _).setCell (Nat.le_refl _) _⟩
          have h1 := (hown.stored k (.int .i64 (2 * (k : Int)))).1
          have h2 := (h1.stored k (.int .i64 (2 * (k : Int) + 1))).1
          have h3 : (mixO s n k).set k (2 * (k : Int) + 1) = mixO s n (k + 1) := by rw [show 2 * (k : Int) + 1 = ofAt s k from HA.out.symm]; exact HS.out
          rw [List.set_set, ← List.map_set, h3] at h2
          exact h2
        case measure => simp [intOf]; omega
      · go_wp2
        go_roundw
        case rel =>
          refine ⟨k + 1, hlt, by go_num, ?_, hb.setCell (Nat.le_refl _) _⟩
          have h1 := (hown.stored k (.int .i64 (2 * (k : Int)))).1
          have h3 : (mixO s n k).set k (2 * (k : Int)) = mixO s n (k + 1) := by rw [show 2 * (k : Int) = ofAt s k from HA.out.symm]; exact HS.out
          rw [← List.map_set, h3] at h1
          exact h1
        case measure => simp [intOf]; omega
    · have hkn : n = k := by omega
      subst hkn
      rw [show mixO s n n = ofN s n by unfold mixO; simp] at hown
      go_wp2
      go_ret
      obtain ⟨A', c', hv, _, _, hr'⟩ := Rd.of_own hown
      injection hv with h1 h2 h3
      exact ⟨_, rfl, by rw [h1]; exact hr', hb⟩

set_option maxHeartbeats 400000 in
theorem ref_Of (A : Option Addr) (n c : Nat) (s : List Bool) (w : World) (hn : n ≤ 1000000) (hr : Rd w A n (bvs s)) :
    Calls Tryd.prog 57 #[.slice A n c] w fun e w' => ∃ A' c', e = .returned (.slice A' n c') ∧ Rd w' A' n (ivs (ofN s n)) ∧ Below w.heap.size w w' := by
  have hnI : (n : Int) ≤ 1000000 := by omega
  have HN := hide hn
  clear hn
  go_enter Tryd.func57, Tryd.ntmps57
  go_wp2
  go_loopw [3, 4] (fun v i wr => ∃ k : Nat, k ≤ n ∧ i = .int .i64 k ∧ wr.ownsRow w.heap.size 3 1 v k (ivs (ofN s k)) ∧ Below w.heap.size w wr) (fun _ i _ => n - (intOf i).toNat)
  case atStart => exact ⟨0, Nat.zero_le _, rfl, World.ownsRow_lit w #[] 0 (Nat.le_refl _) (by unfold maxLen; omega) rfl, (Below.refl _ _).alloc (Nat.le_refl _) _⟩
  case round =>
    obtain ⟨k, hk, rfl, hown, hb⟩ := hrel
    have hkI : (k : Int) ≤ 1000000 := by omega
    by_cases hlt : k < n
    · obtain ⟨ad, x, rfl, hB, hx, hc⟩ := (hr.below hb (Nat.le_refl _)).get hlt
      have HA := hide (show ivs (ofN s (k + 1)) = ivs (ofN s k) ++ [.int .i64 (if x then 2 * (k : Int) else 2 * (k : Int) + 1)] by
        rw [ofN_succ, ofAt_of hx]; unfold ivs; rw [List.map_append]; rfl)
      clear hx
      cases x
      all_goals
        go_wp2_with (at_builtin; refine wpList_push rfl _ _ _ rfl Tryd.underlying22 info_c rfl (by decide) rfl rfl hown hb (Nat.le_refl _) rfl (by simp [Value.oneCell']) (by have := HN.out; unfold maxLen; omega) (by have := HN.out; omega) ?_; intro v1 w3 hown1 hb3)
        go_roundw
        case rel => exact ⟨k + 1, hlt, by go_num, by rw [HA.out]; exact hown1, hb3⟩
        case measure => simp [intOf]; omega
    · have hkn : n = k := by omega
      subst hkn
      obtain ⟨A', c', rfl, _, _, hr'⟩ := Rd.of_own hown
      clear hown
      go_wp2
      go_ret
      exact ⟨A', c', rfl, hr', hb⟩
end Go.Proofs.YtcjoohaagdihlaaDoor.Cube
