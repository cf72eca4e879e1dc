/- Whether one of some numbers is such: slices.ContainsFunc with a closure that only reads. -/
import Derived.Test.YtcjoohaagdihlaaLearn3
namespace Go.Proofs.Ytcjoohaagdihlaa.Learn
open Go.RowKit Go.Lt Go.Proofs.Ytcjoohaagdihlaa.Lit Go.Proofs.Ytcjoohaagdihlaa.Sorted Go.Instr
open Go.Proofs.Ytcjoohaagdihlaa.Kept (Sl Sl.val addr_off)
set_option linter.unusedVariables false
set_option linter.unusedSimpArgs false

def IdxAny (b : Bool) (w : World) (e : Ending) (w' : World) : Prop := ∃ i : Int, e = .returned (.int .i64 i) ∧ decide (0 ≤ i) = b ∧ Dr w w'
theorem any_hit {l : List Int} {p : Int → Bool} {k : Nat} {x : Int} (hx : l[k]? = some x) (h : p x = true) : l.any p = true := List.any_eq_true.2 ⟨x, List.mem_of_getElem? hx, h⟩
theorem any_miss {l : List Int} {p : Int → Bool} (h : ∀ k : Nat, k < l.length → ∀ x, l[k]? = some x → p x = false) : l.any p = false := by
  rw [List.any_eq_false]
  intro x hx
  obtain ⟨k, hk⟩ := List.getElem?_of_mem hx
  rw [h k (List.getElem?_eq_some_iff.1 hk).1 x hk]; simp
set_option maxRecDepth 8000 in
set_option maxHeartbeats 1000000 in
theorem idx_any1 (f1 : Value) (A : Option Addr) (n c : Nat) (l : List Int) (p : Int → Bool) (w : World) (hn : n ≤ 1000) (hr : Rd w A n (ivs l))
    (hp : ∀ W, Dr w W → ∀ x ∈ l, Calls Try.prog 91 #[.int .i64 x, f1] W (AnyIs (p x) W)) :
    Calls Try.prog 130 #[.slice A n c, .func (.func 91) #[] #[f1]] w (IdxAny (l.any p) w) := by
  have hnI : (n : Int) ≤ 1000 := by omega
  have hl := hide hr.len
  replace hp := hide hp
  go_enter Try.func130, Try.ntmps130
  go_wp2
  go_loopw [8] (fun i wr => ∃ k : Nat, k ≤ n ∧ i = .int .i64 k ∧ Dr w wr ∧ Hid (∀ j : Nat, j < k → ∀ x, l[j]? = some x → p x = false)) (fun i _ => n - (intOf i).toNat)
  case atStart => exact ⟨0, Nat.zero_le _, rfl, Dr.refl _, fun j hj => absurd hj (Nat.not_lt_zero _)⟩
  case round =>
    obtain ⟨k, hk, rfl, hd, hno⟩ := hrel
    have hkI : (k : Int) ≤ 1000 := by omega
    by_cases hlt : k < n
    · obtain ⟨ad, x, rfl, hB, hx, hc⟩ := hr.get hlt
      have hc := (hd.cell _).trans hc
      have hcall := hp.out wr hd x (List.mem_of_getElem? hx)
      have hhit := hide (fun h => any_hit (p := p) hx h)
      have hst := hide (fun (h : p x = false) => (show ∀ j : Nat, j < k + 1 → ∀ x, l[j]? = some x → p x = false from fun j hj y hy => by
        by_cases h1 : j = k
        · subst h1; rw [hx] at hy; injection hy with hy; rw [← hy]; exact h
        · exact hno.out j (by omega) y hy))
      obtain ⟨b, hb⟩ : ∃ b, p x = b := ⟨_, rfl⟩
      rw [hb] at hcall hst hhit
      clear hx hb
      cases b with
      | true =>
        have hF := hide (hhit.out rfl)
        clear hhit hst
        go_wp2_with fail
        refine hcall.mono ?_
        rintro e w2 ⟨rfl, hd2⟩
        go_wp2
        go_ret
        exact ⟨k, rfl, by rw [hF.out, decide_eq_true_iff]; omega, hd.trans hd2⟩
      | false =>
        have hS := hide (hst.out rfl)
        clear hhit hst
        go_wp2_with fail
        refine hcall.mono ?_
        rintro e w2 ⟨rfl, hd2⟩
        go_wp2
        go_roundw
        case rel => exact ⟨k + 1, hlt, by go_num, hd.trans hd2, hS⟩
        case measure => simp [intOf]; omega
    · have hkn : n = k := by omega
      subst hkn
      have hF := hide (any_miss (p := p) (fun j hj => hno.out j (by have := hl.out; omega)))
      clear hno
      go_wp2
      go_ret
      exact ⟨-1, rfl, by rw [hF.out]; decide, hd⟩
set_option maxRecDepth 8000 in
set_option maxHeartbeats 1000000 in
theorem any1_is (f1 : Value) (A : Option Addr) (n c : Nat) (l : List Int) (p : Int → Bool) (w : World) (hn : n ≤ 1000) (hr : Rd w A n (ivs l))
    (hp : ∀ W, Dr w W → ∀ x ∈ l, Calls Try.prog 91 #[.int .i64 x, f1] W (AnyIs (p x) W)) {b : Bool} (hb : l.any p = b) :
    Calls Try.prog 93 #[.slice A n c, .func (.func 91) #[] #[f1]] w (AnyIs b w) := by
  have hI := idx_any1 f1 A n c l p w hn hr hp
  rw [hb] at hI
  clear hp hr
  go_enter Try.func93, Try.ntmps93
  go_wp2_with fail
  refine hI.mono ?_
  rintro e w2 ⟨i, rfl, hi, hd⟩
  go_wp2
  go_ret
  exact ⟨by first | rfl | rw [hi], hd⟩
set_option maxRecDepth 8000 in
set_option maxHeartbeats 1000000 in
theorem idx_any2 (f1 f2 : Value) (A : Option Addr) (n c : Nat) (l : List Int) (p : Int → Bool) (w : World) (hn : n ≤ 1000) (hr : Rd w A n (ivs l))
    (hp : ∀ W, Dr w W → ∀ x ∈ l, Calls Try.prog 94 #[.int .i64 x, f1, f2] W (AnyIs (p x) W)) :
    Calls Try.prog 130 #[.slice A n c, .func (.func 94) #[] #[f1, f2]] w (IdxAny (l.any p) w) := by
  have hnI : (n : Int) ≤ 1000 := by omega
  have hl := hide hr.len
  replace hp := hide hp
  go_enter Try.func130, Try.ntmps130
  go_wp2
  go_loopw [8] (fun i wr => ∃ k : Nat, k ≤ n ∧ i = .int .i64 k ∧ Dr w wr ∧ Hid (∀ j : Nat, j < k → ∀ x, l[j]? = some x → p x = false)) (fun i _ => n - (intOf i).toNat)
  case atStart => exact ⟨0, Nat.zero_le _, rfl, Dr.refl _, fun j hj => absurd hj (Nat.not_lt_zero _)⟩
  case round =>
    obtain ⟨k, hk, rfl, hd, hno⟩ := hrel
    have hkI : (k : Int) ≤ 1000 := by omega
    by_cases hlt : k < n
    · obtain ⟨ad, x, rfl, hB, hx, hc⟩ := hr.get hlt
      have hc := (hd.cell _).trans hc
      have hcall := hp.out wr hd x (List.mem_of_getElem? hx)
      have hhit := hide (fun h => any_hit (p := p) hx h)
      have hst := hide (fun (h : p x = false) => (show ∀ j : Nat, j < k + 1 → ∀ x, l[j]? = some x → p x = false from fun j hj y hy => by
        by_cases h1 : j = k
        · subst h1; rw [hx] at hy; injection hy with hy; rw [← hy]; exact h
        · exact hno.out j (by omega) y hy))
      obtain ⟨b, hb⟩ : ∃ b, p x = b := ⟨_, rfl⟩
      rw [hb] at hcall hst hhit
      clear hx hb
      cases b with
      | true =>
        have hF := hide (hhit.out rfl)
        clear hhit hst
        go_wp2_with fail
        refine hcall.mono ?_
        rintro e w2 ⟨rfl, hd2⟩
        go_wp2
        go_ret
        exact ⟨k, rfl, by rw [hF.out, decide_eq_true_iff]; omega, hd.trans hd2⟩
      | false =>
        have hS := hide (hst.out rfl)
        clear hhit hst
        go_wp2_with fail
        refine hcall.mono ?_
        rintro e w2 ⟨rfl, hd2⟩
        go_wp2
        go_roundw
        case rel => exact ⟨k + 1, hlt, by go_num, hd.trans hd2, hS⟩
        case measure => simp [intOf]; omega
    · have hkn : n = k := by omega
      subst hkn
      have hF := hide (any_miss (p := p) (fun j hj => hno.out j (by have := hl.out; omega)))
      clear hno
      go_wp2
      go_ret
      exact ⟨-1, rfl, by rw [hF.out]; decide, hd⟩
set_option maxRecDepth 8000 in
set_option maxHeartbeats 1000000 in
theorem any2_is (f1 f2 : Value) (A : Option Addr) (n c : Nat) (l : List Int) (p : Int → Bool) (w : World) (hn : n ≤ 1000) (hr : Rd w A n (ivs l))
    (hp : ∀ W, Dr w W → ∀ x ∈ l, Calls Try.prog 94 #[.int .i64 x, f1, f2] W (AnyIs (p x) W)) {b : Bool} (hb : l.any p = b) :
    Calls Try.prog 93 #[.slice A n c, .func (.func 94) #[] #[f1, f2]] w (AnyIs b w) := by
  have hI := idx_any2 f1 f2 A n c l p w hn hr hp
  rw [hb] at hI
  clear hp hr
  go_enter Try.func93, Try.ntmps93
  go_wp2_with fail
  refine hI.mono ?_
  rintro e w2 ⟨i, rfl, hi, hd⟩
  go_wp2
  go_ret
  exact ⟨by first | rfl | rw [hi], hd⟩
set_option maxRecDepth 8000 in
set_option maxHeartbeats 1000000 in
/-- 'x != s.Lit && wrong(x)' -/
theorem good_wrong2 (c9 c6 c5 B : Nat) (pre : List St) (ml : List (Int × Value)) (lt x : Int) (w : World) (h9 : w.cell? ⟨c9, 0, none⟩ = some (.int .i64 lt)) (h6 : w.cell? ⟨c6, 0, none⟩ = some (.func (.func 91) #[] #[.pointer (some ⟨c5, 0, none⟩)])) (hc : w.cell? ⟨c5, 0, none⟩ = some (.map (some B))) (hm : MapO w encI B ml) (hs : SoIs pre ml) :
    Calls Try.prog 94 #[.int .i64 x, .pointer (some ⟨c9, 0, none⟩), .pointer (some ⟨c6, 0, none⟩)] w (AnyIs (decide (x ≠ lt) && !soB pre (litNot x)) w) := by
  have hW := good_wrong c5 B pre ml x w hc hm hs
  by_cases hx : x = lt
  · have hf1 : (x == lt) = true := by simp [hx]
    have hf2 : (x != lt) = false := by simp [hx]
    have hR : (decide (x ≠ lt) && !soB pre (litNot x)) = false := by simp [hx]
    rw [hR]
    clear hR hx hW
    go_enter Try.func94, Try.ntmps94
    go_wp2
    go_ret
    exact ⟨rfl, Dr.refl _⟩
  · have hf1 : (x == lt) = false := by simp [hx]
    have hf2 : (x != lt) = true := by simp [hx]
    have hR : (decide (x ≠ lt) && !soB pre (litNot x)) = !soB pre (litNot x) := by simp [hx]
    rw [hR]
    obtain ⟨b, hb⟩ : ∃ b, soB pre (litNot x) = b := ⟨_, rfl⟩
    rw [hb] at hW ⊢
    clear hR hx hb
    go_enter Try.func94, Try.ntmps94
    go_wp2_with (go_at_call 91; refine hW.mono ?_; rintro e w2 ⟨rfl, hd⟩)
    go_ret
    exact ⟨rfl, hd⟩
end Go.Proofs.Ytcjoohaagdihlaa.Learn
