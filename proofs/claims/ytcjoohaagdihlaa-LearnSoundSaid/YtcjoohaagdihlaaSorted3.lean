/- The contract of the document's Sorted. -/
import Derived.Test.YtcjoohaagdihlaaLit2
import Derived.Test.YtcjoohaagdihlaaSorted1
namespace Go.Proofs.Ytcjoohaagdihlaa.Sorted
open Go.RowKit Go.Lt Go.Proofs.Ytcjoohaagdihlaa.Lit
set_option linter.unusedVariables false
set_option linter.unusedSimpArgs false

theorem info_i3 : (Try.prog.info? 3).map (fun i => (i.zero, i.size, i.bytes)) = some (some (.int .i64 0), 1, 8) := by kernel_rfl
theorem filt_yes {p : Int → Bool} {pr out : List Int} {q : Nat} {y : Int} (hy : out[q]? = some y) (hp : p y = true) :
    ivs (pr ++ (out.take (q + 1)).filter p) = ivs (pr ++ (out.take q).filter p) ++ [.int .i64 y] := by
  rw [List.take_add_one, hy, List.filter_append]
  unfold ivs
  simp [hp]
theorem filt_no {p : Int → Bool} {pr out : List Int} {q : Nat} {y : Int} (hy : out[q]? = some y) (hp : p y = false) :
    ivs (pr ++ (out.take (q + 1)).filter p) = ivs (pr ++ (out.take q).filter p) := by
  rw [List.take_add_one, hy, List.filter_append]
  simp [hp]
theorem srt_take {l : List Int} {k : Nat} {x : Int} (h : l[k]? = some x) : srt (l.take (k + 1)) = insO (srt (l.take k)) x := by
  rw [List.take_add_one, h]
  exact srt_snoc _ _

set_option maxHeartbeats 1000000 in
theorem ref_Sorted (A : Option Addr) (n c : Nat) (l : List Int) (w : World) (hn : n ≤ 1000) (hr : Rd w A n (ivs l)) :
    Calls Try.prog 90 #[.slice A n c] w fun e w' => ∃ A' n' c', e = .returned (.slice A' n' c') ∧ n' ≤ n ∧ Rd w' A' n' (ivs (srt l)) ∧ Below w.heap.size w w' := by
  have hnI : (n : Int) ≤ 1000 := by omega
  have hl := hide hr.len
  have HN := hide hn
  clear hn
  go_enter Try.func90, Try.ntmps90
  go_wp2
  go_loopw [3, 4] (fun v i wr => ∃ (k m : Nat) (A2 : Option Addr) (c2 : Nat), k ≤ n ∧ m ≤ k ∧ i = .int .i64 k ∧ v = .slice A2 m c2 ∧ Rd wr A2 m (ivs (srt (l.take k))) ∧ Below w.heap.size w wr) (fun _ i _ => n - (intOf i).toNat)
  case atStart => exact ⟨0, 0, _, _, Nat.zero_le _, Nat.le_refl _, rfl, rfl, Rd.nil _ _, (Below.refl _ _).alloc (Nat.le_refl _) _⟩
  case round =>
    obtain ⟨k, m, A2, c2, hk, hmk, rfl, rfl, hr2, hb⟩ := hrel
    have hmI : (m : Int) ≤ 1000 := by omega
    by_cases hlt : k < n
    · have hr1 := hr.below hb (Nat.le_refl _)
      obtain ⟨ad, x, rfl, hB, hx, hc⟩ := hr1.get hlt
      have HS := hide (srt_take hx)
      clear hx
      generalize hout : srt (l.take k) = out at *
      clear hout
      cases hh : hasB out x
      · have HI := hide (show insO out x = out.filter (· < x) ++ x :: out.filter (x < ·) by
          unfold insO; rw [if_neg]; intro h; rw [has_iff.2 h] at hh; cases hh)
        have hh := hide hh
        go_wp2_with fail
        refine (ref_Has _ _ _ out _ _ (by have := HN.out; omega) hr2).mono ?_
        rintro e w1 ⟨rfl, rfl⟩
        rw [hh.out]
        obtain ⟨wo, rfl⟩ : ∃ wo : World, wo = wr := ⟨_, rfl⟩
        go_wp2
        go_loopw [5, 6] (fun v j wr => ∃ q m2 : Nat, q ≤ m ∧ m2 ≤ q ∧ j = .int .i64 q ∧ wr.ownsRow wo.heap.size 3 1 v m2 (ivs ([] ++ (out.take q).filter (· < x))) ∧ Below wo.heap.size wo wr) (fun _ j _ => m - (intOf j).toNat)
        case atStart => exact ⟨0, 0, Nat.zero_le _, Nat.le_refl _, rfl, World.ownsRow_lit wo #[] 0 (Nat.le_refl _) (by unfold maxLen; omega) rfl, (Below.refl _ _).alloc (Nat.le_refl _) _⟩
        case round =>
          obtain ⟨q, m2, hq, hm2, rfl, hown, hb2⟩ := hrel
          by_cases hltq : q < m
          · have hcx : wr.cell? (ad.add k) = some (.int .i64 x) := (hb2.cell (by rw [add_block]; exact hB)).trans hc
            obtain ⟨ad2, y, rfl, hB2, hy, hc2⟩ := (hr2.below hb2 (Nat.le_refl _)).get hltq
            by_cases hyx : y < x
            · have HF := hide (filt_yes (p := (· < x)) (pr := []) hy (by simpa using hyx))
              clear hy
              go_wp2
              go_quiet (fail)
              go_wp2_with (at_builtin; refine wpList_push rfl _ _ _ rfl Try.underlying40 info_i3 rfl (by decide) rfl rfl (((Dr.refl _).more _).own hown) (hb2.trans (((Dr.refl _).more _).below _)) (Nat.le_refl _) rfl (by simp [Value.oneCell']) (by have := HN.out; unfold maxLen; omega) (by have := HN.out; omega) ?_; intro v1 w3 hown1 hb3)
              go_roundw
              case rel => exact ⟨q + 1, m2 + 1, hltq, by omega, by go_num, by rw [HF.out]; exact hown1, hb3⟩
              case measure => simp [intOf]; omega
            · have HF := hide (filt_no (p := (· < x)) (pr := []) hy (by simpa using hyx))
              have hd : decide (y < x) = false := by simpa using hyx
              clear hy
              go_wp2
              go_quiet (fail)
              go_wp2
              go_roundw
              case rel => exact ⟨q + 1, m2, hltq, by omega, by go_num, by rw [HF.out]; exact ((Dr.refl _).more _).own hown, hb2.trans (((Dr.refl _).more _).below _)⟩
              case measure => simp [intOf]; omega
          · have hqm : m = q := by omega
            subst hqm
            have hfull : out.take m = out := by rw [← hr2.len, List.take_length]
            rw [hfull, List.nil_append] at hown
            clear hfull hltq
            have hcx : wr.cell? (ad.add k) = some (.int .i64 x) := (hb2.cell (by rw [add_block]; exact hB)).trans hc
            go_wp2_with (at_builtin; refine wpList_push rfl _ _ _ rfl Try.underlying40 info_i3 rfl (by decide) rfl rfl hown hb2 (Nat.le_refl _) rfl (by simp [Value.oneCell']) (by have := HN.out; unfold maxLen; omega) (by have := HN.out; omega) ?_; intro v1 w3 hown1 hb3)
            have hown1 : w3.ownsRow wo.heap.size 3 1 v1 (m2 + 1) (ivs ((out.filter (· < x) ++ [x]) ++ (out.take 0).filter (x < ·))) := by
              rw [show ivs ((out.filter (· < x) ++ [x]) ++ (out.take 0).filter (x < ·)) = ivs (out.filter (· < x)) ++ [.int .i64 x] by unfold ivs; simp]; exact hown1
            have hI2 := hide (show insO out x = (out.filter (· < x) ++ [x]) ++ out.filter (x < ·) by rw [HI.out, List.append_assoc]; rfl)
            clear HI hown hcx hb2
            generalize out.filter (· < x) ++ [x] = pr at *
            have hm2' := hide hm2
            go_loopw [5, 7] (fun v j wr => ∃ q m3 : Nat, q ≤ m ∧ m3 ≤ m2 + 1 + q ∧ j = .int .i64 q ∧ wr.ownsRow wo.heap.size 3 1 v m3 (ivs (pr ++ (out.take q).filter (x < ·))) ∧ Below wo.heap.size wo wr) (fun _ j _ => m - (intOf j).toNat)
            case atStart => exact ⟨0, m2 + 1, Nat.zero_le _, Nat.le_refl _, rfl, hown1, hb3⟩
            case round =>
              obtain ⟨q, m3, hq, hm3, rfl, hown, hb2⟩ := hrel
              by_cases hltq : q < m
              · have hcx : wr.cell? (ad.add k) = some (.int .i64 x) := (hb2.cell (by rw [add_block]; exact hB)).trans hc
                obtain ⟨ad2, y, rfl, hB2, hy, hc2⟩ := (hr2.below hb2 (Nat.le_refl _)).get hltq
                by_cases hyx : x < y
                · have HF := hide (filt_yes (p := (x < ·)) (pr := pr) hy (by simpa using hyx))
                  clear hy
                  go_wp2
                  go_quiet (fail)
                  go_wp2_with (at_builtin; refine wpList_push rfl _ _ _ rfl Try.underlying40 info_i3 rfl (by decide) rfl rfl (((Dr.refl _).more _).own hown) (hb2.trans (((Dr.refl _).more _).below _)) (Nat.le_refl _) rfl (by simp [Value.oneCell']) (by have := HN.out; have := hm2'.out; unfold maxLen; omega) (by have := HN.out; have := hm2'.out; omega) ?_; intro v1 w4 hown1 hb4)
                  go_roundw
                  case rel => exact ⟨q + 1, m3 + 1, hltq, by omega, by go_num, by rw [HF.out]; exact hown1, hb4⟩
                  case measure => simp [intOf]; omega
                · have HF := hide (filt_no (p := (x < ·)) (pr := pr) hy (by simpa using hyx))
                  have hd : decide (x < y) = false := by simpa using hyx
                  clear hy
                  go_wp2
                  go_quiet (fail)
                  go_wp2
                  go_roundw
                  case rel => exact ⟨q + 1, m3, hltq, by omega, by go_num, by rw [HF.out]; exact ((Dr.refl _).more _).own hown, hb2.trans (((Dr.refl _).more _).below _)⟩
                  case measure => simp [intOf]; omega
              · have hqm : m = q := by omega
                subst hqm
                have hfull : out.take m = out := by rw [← hr2.len, List.take_length]
                rw [hfull, ← hI2.out, ← HS.out] at hown
                clear hfull hltq
                obtain ⟨A3, c3, rfl, _, _, hr3⟩ := Rd.of_own hown
                have hm3' := hide (show m3 ≤ k + 1 by have h1 := hr3.len; have h2 := srt_len (l.take (k + 1)); have h3 : (l.take (k + 1)).length ≤ k + 1 := List.length_take_le _ _; omega)
                clear hown hI2 HS
                go_wp2
                go_roundw
                case rel => exact ⟨k + 1, m3, A3, c3, hlt, hm3'.out, by go_num, rfl, hr3, hb.trans (hb2.mono hb.size)⟩
                case measure => simp [intOf]; omega
      · have HI := hide (show insO out x = out by unfold insO; rw [if_pos (has_iff.1 hh)])
        have hh := hide hh
        go_wp2_with fail
        refine (ref_Has _ _ _ out _ _ (by have := HN.out; omega) hr2).mono ?_
        rintro e w1 ⟨rfl, rfl⟩
        rw [hh.out]
        go_wp2
        go_roundw
        case rel => exact ⟨k + 1, m, A2, c2, hlt, by omega, by go_num, rfl, by rw [HS.out, HI.out]; exact hr2, hb⟩
        case measure => simp [intOf]; omega
    · have hkn : n = k := by omega
      subst hkn
      have hfull : l.take n = l := by rw [← hl.out, List.take_length]
      rw [hfull] at hr2
      go_wp2
      go_ret
      exact ⟨A2, m, c2, rfl, hmk, hr2, hb⟩
end Go.Proofs.Ytcjoohaagdihlaa.Sorted
