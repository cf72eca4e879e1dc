/- Contracts for the law ScoreScales: the scores scaled. -/
import Derived.Test.YtcjoohaagdihlaaScore8
namespace Go.Proofs.Ytcjoohaagdihlaa.Score
open Go.RowKit Go.Lt
set_option linter.unusedVariables false

/-- a score scaled -/
def scl (b : Nat) : Nat := if oddB b then 0 else (Ieee.double.mul b downC).getD 0
def mix (bs : List Nat) (k : Nat) : List Nat := (bs.take k).map scl ++ bs.drop k
theorem mix_zero (bs : List Nat) : mix bs 0 = bs := by simp [mix]
theorem mix_all (bs : List Nat) (n : Nat) (h : bs.length = n) : mix bs n = bs.map scl := by subst h; simp [mix]
theorem mix_get (bs : List Nat) (k x : Nat) (h : bs[k]? = some x) : (mix bs k)[k]? = some x := by
  have hk : k < bs.length := (List.getElem?_eq_some_iff.1 h).1
  unfold mix
  rw [List.getElem?_append_right (by simp; omega)]
  simp [h, Nat.min_eq_left (Nat.le_of_lt hk)]
theorem mix_set (bs : List Nat) (k x : Nat) (h : bs[k]? = some x) : (mix bs k).set k (scl x) = mix bs (k + 1) := by
  have hk : k < bs.length := (List.getElem?_eq_some_iff.1 h).1
  unfold mix
  rw [List.set_append_right _ _ (by simp; omega), List.take_add_one, h]
  have : bs.drop k = x :: bs.drop (k + 1) := by
    rw [List.drop_eq_getElem_cons hk]
    congr 1
    exact Option.some.inj ((List.getElem?_eq_getElem hk).symm.trans h)
  rw [this]
  simp [Nat.min_eq_left (Nat.le_of_lt hk)]

theorem odd_nan {b : Nat} (h : nanB b = true) : oddB b = true := by
  have : infR < rung b := by simpa [nanB] using h
  unfold oddB; rw [decide_eq_true]; omega
theorem mul_some {b : Nat} (h : nanB b = false) : ∃ r, Ieee.double.mul b downC = some r := by
  have : rung b ≤ infR := by simpa [nanB] using h
  rcases Nat.lt_or_ge (rung b) infR with h1 | h1
  · obtain ⟨r, hr, _⟩ := mul_down_fin h1; exact ⟨r, hr⟩
  · obtain ⟨r, hr, _⟩ := mul_inf (show rung b = infR by omega); exact ⟨r, hr⟩

/-- what the product gives: for each score a word, and whether the tape was asked -/
theorem run_mul (b : Nat) (w : World) : ∃ r w1, (binOp .mul 24 (.float .f64 b) (.float .f64 3110860544497550640)).run Try.prog w = .ok (.float .f64 r) w1 ∧ Dr w w1 ∧ (oddB b = false → r = scl b) := by
  cases h : nanB b
  · obtain ⟨r, hr⟩ := mul_some h
    exact ⟨r, w, run_float_arith w .mul 24 .f64 b 3110860544497550640 r hr, Dr.refl _, fun ho => by unfold scl; rw [ho, hr]; simp⟩
  · obtain ⟨r, _, _, hr⟩ := run_nan (P := Try.prog) .mul 24 b 3110860544497550640 (.inr (.inr (.inl rfl))) (mul_nan h) w
    exact ⟨r, w.drew, hr, ⟨1, rfl⟩, fun ho => by rw [odd_nan h] at ho; cases ho⟩

theorem All64.hid {bs : List Nat} (h : All64 bs) {k x : Nat} (hx : bs[k]? = some x) : Hid (x < 18446744073709551616) := h.get hx

theorem Contains80b (o : Bool) (A : Option Addr) (n c : Nat) (bs : List Nat) (w : World) (hn : n ≤ 300) (hr : Rd w A n (bs.map (Value.float .f64))) (ho : Hid (bs.any hiB = o)) :
    Calls Try.prog 80 #[.slice A n c, .func (.func 81) #[] #[]] w fun e w' => e = .returned (.bool o) ∧ w = w' := by
  have := Contains80 A n c bs w hn hr
  rw [ho.out] at this
  exact this

attribute [local go_sem] store_float
def Scaled (bs : List Nat) (n : Nat) (w : World) (e : Ending) (w' : World) : Prop :=
  ∃ v, e = .returned v ∧ w'.ownsRow w.heap.size 24 1 v n ((if bs.any hiB then bs.map scl else bs).map (Value.float .f64)) ∧ Below w.heap.size w w'

set_option maxHeartbeats 400000 in
theorem Scale21 (A : Option Addr) (n c : Nat) (bs : List Nat) (w : World) (hn : n ≤ 300) (h64 : All64 bs) (hr : Rd w A n (bs.map (Value.float .f64))) :
    Calls Try.prog 21 #[.slice A n c] w (Scaled bs n w) := by
  have hl := hide hr.len
  by_cases ha : bs.any hiB = true
  · have hpos : 0 < n := by
      rcases Nat.eq_zero_or_pos n with h0 | h0
      · have e := hl.out
        rw [h0] at e
        have := List.eq_nil_of_length_eq_zero e
        subst this
        simp at ha
      · exact h0
    have ha' := hide ha
    clear ha
    go_enter Try.func21, Try.ntmps21
    go_wp2_with fail
    refine (Clone79 _ _ _ bs _ hn hr).mono ?_
    rintro e w1 ⟨v, rfl, hown1, hb1⟩
    rcases own_cases hown1 with ⟨rfl, h0⟩ | ⟨g, cap, rfl, hbg, hgs, hnc, hcm⟩
    · omega
    unfold maxLen at hcm
    go_wp2_with (go_at_call 80; refine (Contains80b true _ _ _ bs _ hn (hr.below hb1 (Nat.le_refl _)) ha').mono ?_; rintro e w' ⟨rfl, rfl⟩)
    go_loopw [14] (fun i wr => ∃ k : Nat, k ≤ n ∧ i = .int .i64 k ∧ wr.ownsRow w.heap.size 24 1 (.slice (some ⟨g, 0, none⟩) n cap) n ((mix bs k).map (Value.float .f64)) ∧ Below w.heap.size w wr)
      (fun i _ => n - (intOf i).toNat)
    case atStart => exact ⟨0, Nat.zero_le _, rfl, by rw [mix_zero]; exact hown1, hb1⟩
    case round =>
      obtain ⟨k, hk, rfl, hown, hb⟩ := hrel
      by_cases hlt : k < n
      · obtain ⟨x, hx⟩ : ∃ x, bs[k]? = some x := ⟨bs[k]'(by have := hl.out; omega), List.getElem?_eq_getElem _⟩
        have hc : wr.cell? ⟨g, k, none⟩ = some (.float .f64 x) := by
          rw [hown.cellAt k (by omega), List.getElem?_map, mix_get bs k x hx]; rfl
        have hf := hown.frozenAt k
        obtain ⟨r, w2, hm, hd, hsc⟩ := run_mul x wr
        have hc2 : w2.cell? ⟨g, k, none⟩ = some (.float .f64 x) := (Dr.cell hd _).trans hc
        have hf2 : w2.frozen? ⟨g, k, none⟩ = false := (Dr.frozen hd _).trans hf
        have hx64 := h64.hid hx
        have hown2 := Dr.own hd hown
        have hb2 := hb.trans (Dr.below hd _)
        have hset := hide (mix_set bs k x hx)
        clear hx
        by_cases ho : oddB x = true
        · have hs0 := hide (show scl x = 0 by unfold scl; rw [ho]; rfl)
          go_wp2_with (go_at_call 82; refine (Odd82 _ hx64 _).mono ?_; rintro e w' ⟨rfl, rfl⟩)
          go_roundw
          case rel =>
            refine ⟨k + 1, hlt, by go_num, ?_, (hb2.setCell hbg _).setCell hbg _⟩
            have := ((hown2.stored k (.float .f64 r)).1.stored k (.float .f64 0)).1
            have hset' := hset.out
            rw [hs0.out] at hset'
            rw [List.set_set, ← List.map_set, hset'] at this
            exact this
          case measure => simp [intOf]; omega
        · have ho : oddB x = false := by simpa using ho
          have hs0 := hide (hsc ho)
          go_wp2_with (go_at_call 82; refine (Odd82 _ hx64 _).mono ?_; rintro e w' ⟨rfl, rfl⟩)
          go_roundw
          case rel =>
            refine ⟨k + 1, hlt, by go_num, ?_, hb2.setCell hbg _⟩
            have := (hown2.stored k (.float .f64 r)).1
            rw [← List.map_set, hs0.out, hset.out] at this
            exact this
          case measure => simp [intOf]; omega
      · have hkn : k = n := by omega
        subst hkn
        go_wp2
        go_ret
        refine ⟨_, rfl, ?_, hb⟩
        rw [if_pos ha'.out, ← mix_all bs k hl.out]
        exact hown
  · have ha : bs.any hiB = false := by simpa using ha
    have ha' := hide ha
    clear ha
    go_enter Try.func21, Try.ntmps21
    go_wp2_with fail
    refine (Clone79 _ _ _ bs _ hn hr).mono ?_
    rintro e w1 ⟨v, rfl, hown1, hb1⟩
    go_wp2_with (go_at_call 80; refine (Contains80b false _ _ _ bs _ hn (hr.below hb1 (Nat.le_refl _)) ha').mono ?_; rintro e w' ⟨rfl, rfl⟩)
    go_ret
    refine ⟨_, rfl, ?_, hb1⟩
    rw [ha'.out]
    exact hown1
end Go.Proofs.Ytcjoohaagdihlaa.Score
