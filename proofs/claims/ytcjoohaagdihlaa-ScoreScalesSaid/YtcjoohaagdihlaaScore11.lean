/- The law ScoreScales walked: it returns true, in every world, and only makes memory. -/
import Derived.Test.YtcjoohaagdihlaaScore10
namespace Go.Proofs.Ytcjoohaagdihlaa.Score
open Go.RowKit Go.Lt
set_option linter.unusedVariables false

theorem Rd.map_ {α : Type} {w : World} {A : Option Addr} {n : Nat} {f : α → Value} {l : List α} (h : Rd w A n (l.map f)) {k : Nat} {x : α} (hk : k < n) (hx : l[k]? = some x) :
    ∃ ad, A = some ad ∧ ad.block < w.heap.size ∧ w.cell? (ad.add k) = some (f x) := by
  obtain ⟨ad, y, h1, h2, h3, h4⟩ := h.get hk
  rw [hx] at h3
  injection h3 with h3
  subst h3
  exact ⟨ad, h1, h2, h4⟩

def After (bs : List Nat) (n : Nat) (high : Bool) : List Nat := if high then bs.map scl else bs
theorem After.get {bs : List Nat} {k x : Nat} (h : bs[k]? = some x) (n : Nat) (high : Bool) : (After bs n high)[k]? = some (if high then scl x else x) := by
  unfold After
  cases high
  · exact h
  · simp [h]

set_option maxHeartbeats 800000 in
theorem law4 (n c : Nat) (A : Option Addr) (bs : List Nat) (w : World) (hn : n ≤ 300) (h64 : All64 bs) (hr : Rd w A n (bs.map fun (b : Nat) => Value.int .u64 b)) :
    Calls Try.prog 4 #[.slice A n c] w fun e w' => e = .returned (.bool true) ∧ Below w.heap.size w w' := by
  have hx24 := tobits
  go_enter Try.func4, Try.ntmps4
  go_wp2_with fail
  refine (of18 _ _ _ bs _ hn hr).mono ?_
  rintro e w1 ⟨A1, c1, rfl, hr1, hb1⟩
  go_wp2_with fail
  go_loop [4, 5] (fun t i => ∃ k : Nat, k ≤ n ∧ i = .int .i64 k ∧ t = .bool ((bs.take k).any hiB)) (fun _ i => n - (intOf i).toNat)
  case atStart => exact ⟨0, Nat.zero_le _, rfl, rfl⟩
  case round =>
    obtain ⟨k, hk, rfl, rfl⟩ := hrel
    by_cases hlt : k < n
    · obtain ⟨ad1, x, rfl, hB, hx, hc⟩ := hr1.get hlt
      have HS := any_snoc hiB bs k x hx
      clear hx
      generalize hgen : (bs.take k).any hiB = o at *
      clear hgen
      have HS := hide HS
      have hxx : True → (FloatKind.f64.format.order x 6103021453049119613 == some .gt) = hiB x := fun _ => rfl
      cases o
      · go_wp2
        go_round
        case rel => exact ⟨k + 1, hlt, by go_num, by rw [HS.out, Bool.false_or]⟩
        case measure => simp [intOf]; omega
      · go_wp2
        go_round
        case rel => exact ⟨k + 1, hlt, by go_num, by rw [HS.out]; rfl⟩
        case measure => simp [intOf]; omega
    · have hkn : n = k := by omega
      subst hkn
      have hl := hide hr1.len
      have HA := show (bs.take n).any hiB = bs.any hiB by rw [List.take_of_length_le (by have := hl.out; omega)]
      rw [HA]
      clear HA
      generalize hgen : bs.any hiB = high
      have hgen := hide hgen
      go_wp2_with fail
      refine (Scale21 _ _ _ bs _ hn h64 hr1).mono ?_
      rintro e w2 ⟨v, rfl, hown2, hb2⟩
      rw [hgen.out, show (if high = true then bs.map scl else bs) = After bs n high from rfl] at hown2
      obtain ⟨A2, c2, rfl, _, _, hr2⟩ := Rd.of_own hown2
      have hb12 := hb1.trans (hb2.mono hb1.size)
      cases high
      · go_wp2_with fail
        go_loopw [7] (fun i wr => ∃ k : Nat, k ≤ n ∧ i = .int .i64 k ∧ Dr w2 wr) (fun i _ => n - (intOf i).toNat)
        case atStart => exact ⟨0, Nat.zero_le _, rfl, Dr.refl _⟩
        case round =>
          obtain ⟨k, hk, rfl, hd⟩ := hrel
          by_cases hlt : k < n
          · obtain ⟨x, hx⟩ : ∃ x, bs[k]? = some x := ⟨bs[k]'(by have := hl.out; omega), List.getElem?_eq_getElem _⟩
            obtain ⟨ad, hA, hB, hc⟩ := Rd.map_ (Dr.rd hd (hr.below hb12 (Nat.le_refl _))) hlt hx
            obtain ⟨ad1, hA1, hB1, hc1⟩ := Rd.map_ (Dr.rd hd (hr1.below hb2 (Nat.le_refl _))) hlt hx
            obtain ⟨ad2, hA2, hB2, hc2⟩ := Rd.map_ (Dr.rd hd hr2) hlt (After.get hx n false)
            subst hA
            subst hA1
            subst hA2
            simp only [Bool.false_eq_true, if_false] at hc2
            clear hx
            go_wp2_with (go_at_call 13; refine (Of13 _ _).mono ?_; rintro e w' ⟨rfl, rfl⟩)
            go_quiet ((go_at_call 23; exact quiet_eq (Is23 _ _ _ (hide rfl))))
            go_wp2
            go_roundw
            case rel => exact ⟨k + 1, hlt, by go_num, hd.more _⟩
            case measure => simp [intOf]; omega
          · have hkn : n = k := by omega
            subst hkn
            go_wp2_with (go_at_call 20; refine (lives20 _).mono ?_; rintro e w3 ⟨rfl, hd3⟩)
            go_ret
            exact ⟨rfl, (hb12.trans (Dr.below hd _)).trans (Dr.below hd3 _)⟩
      · go_wp2_with fail
        go_loopw [7] (fun i wr => ∃ k : Nat, k ≤ n ∧ i = .int .i64 k ∧ Dr w2 wr) (fun i _ => n - (intOf i).toNat)
        case atStart => exact ⟨0, Nat.zero_le _, rfl, Dr.refl _⟩
        case round =>
          obtain ⟨k, hk, rfl, hd⟩ := hrel
          by_cases hlt : k < n
          · obtain ⟨x, hx⟩ : ∃ x, bs[k]? = some x := ⟨bs[k]'(by have := hl.out; omega), List.getElem?_eq_getElem _⟩
            obtain ⟨r, wm, hm, hdm, hsc⟩ := run_mul x wr
            have hdd := Dr.trans hd hdm
            obtain ⟨ad, hA, hB, hc⟩ := Rd.map_ (Dr.rd hdd (hr.below hb12 (Nat.le_refl _))) hlt hx
            obtain ⟨ad1, hA1, hB1, hc1⟩ := Rd.map_ (Dr.rd hdd (hr1.below hb2 (Nat.le_refl _))) hlt hx
            obtain ⟨ad2, hA2, hB2, hc2⟩ := Rd.map_ (Dr.rd hdd hr2) hlt (After.get hx n true)
            subst hA
            subst hA1
            subst hA2
            simp only [if_true] at hc2
            have hcr : wr.cell? (ad.add k) = some (.int .u64 x) := (Dr.cell hdm _).symm.trans hc
            clear hx
            by_cases ho : oddB x = true
            · have hs0 : scl x = 0 := by unfold scl; rw [ho]; rfl
              rw [hs0] at hc2
              clear hs0 hsc
              go_wp2_with (first
                | (go_at_call 13; refine (Of13 _ _).mono ?_; rintro e w' ⟨rfl, rfl⟩)
                | (go_at_call 22; refine (Odd22 _ _).mono ?_; rintro e w' ⟨rfl, rfl⟩))
              go_quiet ((go_at_call 23; exact quiet_eq (Is23 _ _ _ (hide rfl))))
              go_wp2
              go_roundw
              case rel => exact ⟨k + 1, hlt, by go_num, hdd.more _⟩
              case measure => simp [intOf]; omega
            · have ho : oddB x = false := by simpa using ho
              rw [← hsc ho] at hc2
              clear hsc
              go_wp2_with (first
                | (go_at_call 13; refine (Of13 _ _).mono ?_; rintro e w' ⟨rfl, rfl⟩)
                | (go_at_call 22; refine (Odd22 _ _).mono ?_; rintro e w' ⟨rfl, rfl⟩))
              go_quiet ((go_at_call 23; exact quiet_eq (Is23 _ _ _ (hide rfl))))
              go_wp2
              go_roundw
              case rel => exact ⟨k + 1, hlt, by go_num, hdd.more _⟩
              case measure => simp [intOf]; omega
          · have hkn : n = k := by omega
            subst hkn
            go_wp2_with (go_at_call 20; refine (lives20 _).mono ?_; rintro e w3 ⟨rfl, hd3⟩)
            go_ret
            exact ⟨rfl, (hb12.trans (Dr.below hd _)).trans (Dr.below hd3 _)⟩

set_option maxHeartbeats 800000 in
theorem law4_long (n c : Nat) (A : Option Addr) (bs : List Nat) (w : World) (hnn : 300 < n) (hnc : n ≤ c) (hcc : c ≤ 9223372036854775807) (h64 : All64 bs) (hr : Rd w A n (bs.map fun (b : Nat) => Value.int .u64 b)) :
    Calls Try.prog 4 #[.slice A n c] w fun e w' => e = .returned (.bool true) ∧ Below w.heap.size w w' := by
  obtain ⟨ad0, x0, rfl, _, _, _⟩ := hr.get (show 0 < n by omega)
  have hr3 : Rd w (some ad0) 300 ((bs.take 300).map fun (b : Nat) => Value.int .u64 b) := by
    have := Rd.take_ hr (show 300 ≤ n by omega)
    rw [← List.map_take] at this
    exact this
  have h3 : All64 (bs.take 300) := fun b hb => h64 b (List.mem_of_mem_take hb)
  clear hr h64
  generalize bs.take 300 = bs at hr3 h3
  have hr := hr3
  have h64 := h3
  clear hr3 h3
  have hx24 := tobits
  go_enter Try.func4, Try.ntmps4
  go_wp2_with fail
  clear hnn
  have hn : 300 < 301 := by omega
  generalize (300 : Nat) = N at hn hr ⊢
  have hn : N ≤ 300 := by omega
  refine (of18 _ _ _ bs _ hn hr).mono ?_
  rintro e w1 ⟨A1, c1, rfl, hr1, hb1⟩
  go_wp2_with fail
  go_loop [4, 5] (fun t i => ∃ k : Nat, k ≤ N ∧ i = .int .i64 k ∧ t = .bool ((bs.take k).any hiB)) (fun _ i => N - (intOf i).toNat)
  case atStart => exact ⟨0, Nat.zero_le _, rfl, rfl⟩
  case round =>
    obtain ⟨k, hk, rfl, rfl⟩ := hrel
    by_cases hlt : k < N
    · obtain ⟨ad1, x, rfl, hB, hx, hc⟩ := hr1.get hlt
      have HS := any_snoc hiB bs k x hx
      clear hx
      generalize hgen : (bs.take k).any hiB = o at *
      clear hgen
      have HS := hide HS
      have hxx : True → (FloatKind.f64.format.order x 6103021453049119613 == some .gt) = hiB x := fun _ => rfl
      cases o
      · go_wp2
        go_round
        case rel => exact ⟨k + 1, hlt, by go_num, by rw [HS.out, Bool.false_or]⟩
        case measure => simp [intOf]; omega
      · go_wp2
        go_round
        case rel => exact ⟨k + 1, hlt, by go_num, by rw [HS.out]; rfl⟩
        case measure => simp [intOf]; omega
    · have hkn : N = k := by omega
      subst hkn
      have hl := hide hr1.len
      have HA := show (bs.take N).any hiB = bs.any hiB by rw [List.take_of_length_le (by have := hl.out; omega)]
      rw [HA]
      clear HA
      generalize hgen : bs.any hiB = high
      have hgen := hide hgen
      go_wp2_with fail
      refine (Scale21 _ _ _ bs _ hn h64 hr1).mono ?_
      rintro e w2 ⟨v, rfl, hown2, hb2⟩
      rw [hgen.out, show (if high = true then bs.map scl else bs) = After bs N high from rfl] at hown2
      obtain ⟨A2, c2, rfl, _, _, hr2⟩ := Rd.of_own hown2
      have hb12 := hb1.trans (hb2.mono hb1.size)
      cases high
      · go_wp2_with fail
        go_loopw [7] (fun i wr => ∃ k : Nat, k ≤ N ∧ i = .int .i64 k ∧ Dr w2 wr) (fun i _ => N - (intOf i).toNat)
        case atStart => exact ⟨0, Nat.zero_le _, rfl, Dr.refl _⟩
        case round =>
          obtain ⟨k, hk, rfl, hd⟩ := hrel
          by_cases hlt : k < N
          · obtain ⟨x, hx⟩ : ∃ x, bs[k]? = some x := ⟨bs[k]'(by have := hl.out; omega), List.getElem?_eq_getElem _⟩
            obtain ⟨ad, hA, hB, hc⟩ := Rd.map_ (Dr.rd hd (hr.below hb12 (Nat.le_refl _))) hlt hx
            obtain ⟨ad1, hA1, hB1, hc1⟩ := Rd.map_ (Dr.rd hd (hr1.below hb2 (Nat.le_refl _))) hlt hx
            obtain ⟨ad2, hA2, hB2, hc2⟩ := Rd.map_ (Dr.rd hd hr2) hlt (After.get hx N false)
            injection hA with hA; subst hA
            subst hA1
            subst hA2
            simp only [Bool.false_eq_true, if_false] at hc2
            clear hx
            go_wp2_with (go_at_call 13; refine (Of13 _ _).mono ?_; rintro e w' ⟨rfl, rfl⟩)
            go_quiet ((go_at_call 23; exact quiet_eq (Is23 _ _ _ (hide rfl))))
            go_wp2
            go_roundw
            case rel => exact ⟨k + 1, hlt, by go_num, hd.more _⟩
            case measure => simp [intOf]; omega
          · have hkn : N = k := by omega
            subst hkn
            go_wp2_with (go_at_call 20; refine (lives20 _).mono ?_; rintro e w3 ⟨rfl, hd3⟩)
            go_ret
            exact ⟨rfl, (hb12.trans (Dr.below hd _)).trans (Dr.below hd3 _)⟩
      · go_wp2_with fail
        go_loopw [7] (fun i wr => ∃ k : Nat, k ≤ N ∧ i = .int .i64 k ∧ Dr w2 wr) (fun i _ => N - (intOf i).toNat)
        case atStart => exact ⟨0, Nat.zero_le _, rfl, Dr.refl _⟩
        case round =>
          obtain ⟨k, hk, rfl, hd⟩ := hrel
          by_cases hlt : k < N
          · obtain ⟨x, hx⟩ : ∃ x, bs[k]? = some x := ⟨bs[k]'(by have := hl.out; omega), List.getElem?_eq_getElem _⟩
            obtain ⟨r, wm, hm, hdm, hsc⟩ := run_mul x wr
            have hdd := Dr.trans hd hdm
            obtain ⟨ad, hA, hB, hc⟩ := Rd.map_ (Dr.rd hdd (hr.below hb12 (Nat.le_refl _))) hlt hx
            obtain ⟨ad1, hA1, hB1, hc1⟩ := Rd.map_ (Dr.rd hdd (hr1.below hb2 (Nat.le_refl _))) hlt hx
            obtain ⟨ad2, hA2, hB2, hc2⟩ := Rd.map_ (Dr.rd hdd hr2) hlt (After.get hx N true)
            injection hA with hA; subst hA
            subst hA1
            subst hA2
            simp only [if_true] at hc2
            have hcr : wr.cell? (ad0.add k) = some (.int .u64 x) := (Dr.cell hdm _).symm.trans hc
            clear hx
            by_cases ho : oddB x = true
            · have hs0 : scl x = 0 := by unfold scl; rw [ho]; rfl
              rw [hs0] at hc2
              clear hs0 hsc
              go_wp2_with (first
                | (go_at_call 13; refine (Of13 _ _).mono ?_; rintro e w' ⟨rfl, rfl⟩)
                | (go_at_call 22; refine (Odd22 _ _).mono ?_; rintro e w' ⟨rfl, rfl⟩))
              go_quiet ((go_at_call 23; exact quiet_eq (Is23 _ _ _ (hide rfl))))
              go_wp2
              go_roundw
              case rel => exact ⟨k + 1, hlt, by go_num, hdd.more _⟩
              case measure => simp [intOf]; omega
            · have ho : oddB x = false := by simpa using ho
              rw [← hsc ho] at hc2
              clear hsc
              go_wp2_with (first
                | (go_at_call 13; refine (Of13 _ _).mono ?_; rintro e w' ⟨rfl, rfl⟩)
                | (go_at_call 22; refine (Odd22 _ _).mono ?_; rintro e w' ⟨rfl, rfl⟩))
              go_quiet ((go_at_call 23; exact quiet_eq (Is23 _ _ _ (hide rfl))))
              go_wp2
              go_roundw
              case rel => exact ⟨k + 1, hlt, by go_num, hdd.more _⟩
              case measure => simp [intOf]; omega
          · have hkn : N = k := by omega
            subst hkn
            go_wp2_with (go_at_call 20; refine (lives20 _).mono ?_; rintro e w3 ⟨rfl, hd3⟩)
            go_ret
            exact ⟨rfl, (hb12.trans (Dr.below hd _)).trans (Dr.below hd3 _)⟩
end Go.Proofs.Ytcjoohaagdihlaa.Score
