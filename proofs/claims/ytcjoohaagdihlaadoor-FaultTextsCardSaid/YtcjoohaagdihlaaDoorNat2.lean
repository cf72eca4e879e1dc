/- The contract of the document's Nat. -/
import Derived.Test.YtcjoohaagdihlaaDoorNat1
namespace Go.Proofs.YtcjoohaagdihlaaDoor.Dec
open Go.RowKit Go.Lt Go.Proofs.YtcjoohaagdihlaaDoor.Lit
set_option linter.unusedVariables false
set_option linter.unusedSimpArgs false

theorem decV_step {l : List UInt8} {k : Nat} {c : UInt8} (h : l[k]? = some c) (hk : k < 9) : decV (l.take (min (k + 1) 9)) = 10 * decV (l.take (min k 9)) + (c.toNat - 48) := by
  rw [Nat.min_eq_left (by omega), Nat.min_eq_left (by omega), List.take_add_one, h]
  exact decV_snoc _ _
theorem decV_same {l : List UInt8} {k : Nat} (hk : ¬ k < 9) : decV (l.take (min (k + 1) 9)) = decV (l.take (min k 9)) := by
  rw [Nat.min_eq_right (by omega), Nat.min_eq_right (by omega)]
theorem decV_bound {l : List UInt8} {k : Nat} (h : k ≤ dlen l) : decV (l.take (min k 9)) < 1000000000 := by
  have h1 := decV_lt (l.take (min k 9)) (fun c hc => dlen_all l c (by
    obtain ⟨i, hi, rfl⟩ := List.mem_take_iff_getElem.1 hc
    exact List.mem_take_iff_getElem.2 ⟨i, by omega, rfl⟩))
  have h2 : (l.take (min k 9)).length ≤ 9 := by rw [List.length_take]; omega
  exact Nat.lt_of_lt_of_le h1 (Nat.le_trans (Nat.pow_le_pow_right (by omega) h2) (by decide))

set_option maxHeartbeats 1600000 in
theorem ref_Nat (s : ByteArray) (w : World) (hs : s.size ≤ 1000000) :
    Calls Tryd.prog 119 #[.string s, .int .i64 0] w (NatIs s w) := by
  have hsI : (s.size : Int) ≤ 1000000 := by omega
  have HD := hide (fun k => dlen_digit (l := s.data.toList) (k := k))
  have HX := hide (fun c => dlen_stop (l := s.data.toList) (c := c))
  have HV := hide (fun k => decV_bound (l := s.data.toList) (k := k))
  have hd : dlen s.data.toList ≤ s.size := by rw [← size_list]; exact dlen_le _
  obtain ⟨d, hdd⟩ : ∃ d, dlen s.data.toList = d := ⟨_, rfl⟩
  rw [hdd] at HD HX HV hd
  have hdd' := hide hdd
  clear hdd
  have hdI : (d : Int) ≤ 1000000 := by omega
  clear hs
  by_cases hz : s.size = 0
  · have hl : s.data.toList = [] := List.eq_nil_of_length_eq_zero (by rw [size_list]; exact hz)
    have hR := hide (show natR s.data.toList = ((0 : Int).toNat, (0 : Int).toNat, (3 : Int).toNat) by rw [hl]; rfl)
    clear hl HD HX HV
    go_enter Tryd.func119, Tryd.ntmps119
    go_wp2
    go_ret3
    exact nat_is hR.out (by omega) (by omega) (by omega) (Below.refl _ _)
  have hz1 : ((0 : Int) == (s.size : Int)) = false := by rw [beq_eq_false_iff_ne]; omega
  have hz2 : 0 < s.size := by omega
  have hl := hide (show s.data.toList ≠ [] from fun h => hz (by rw [← size_list, h]; rfl))
  go_enter Tryd.func119, Tryd.ntmps119
  go_wp2
  go_loop [1, 7] (fun t n => ∃ k v : Nat, k ≤ d ∧ t = .int .i64 k ∧ n = .int .i64 v ∧ Hid (v = decV (s.data.toList.take (min k 9)))) (fun t _ => d - (intOf t).toNat)
  case atStart => exact ⟨0, 0, Nat.zero_le _, rfl, rfl, rfl⟩
  case round =>
    obtain ⟨k, v, hk, rfl, rfl, hv⟩ := hrel
    have hvb : v < 1000000000 := by have h1 := hv.out; have h2 := HV.out k hk; omega
    have hvI : (v : Int) < 1000000000 := by omega
    have hvb' := hide hvb
    clear hvb
    have hkI : (k : Int) ≤ 1000000 := by omega
    by_cases hlt : k < d
    · obtain ⟨c, hc, hD⟩ := HD.out k hlt
      obtain ⟨b0, b1⟩ := isD_bt.1 hD
      have hidx := fun W => idx_byte (P := Tryd.prog) Tryd.underlying9 s k c hc W
      have hks : k < s.size := by omega
      have HS := hide (fun h : k < 9 => decV_step hc h)
      have HE := hide (fun h : ¬ k < 9 => decV_same (l := s.data.toList) h)
      have hcb := hide (show bt c = ((c.toNat : Nat) : Int) from rfl)
      clear hc hD
      by_cases h9 : k < 9
      · have h9I : (k : Int) < 9 := by omega
        generalize bt c = x at *
        go_wp2
        go_round
        case rel => exact ⟨k + 1, 10 * v + (c.toNat - 48), hlt, by go_num, by have := hcb.out; congr 1; omega, by rw [hv.out]; exact (HS.out h9).symm⟩
        case measure => simp [intOf]; omega
      · have h9I : ¬ (k : Int) < 9 := by omega
        generalize bt c = x at *
        go_wp2
        go_round
        case rel => exact ⟨k + 1, v, hlt, by go_num, rfl, by rw [hv.out]; exact (HE.out h9).symm⟩
        case measure => simp [intOf]; omega
    · have hkd : d = k := by omega
      subst hkd
      clear hlt
      have hend := hide (show (d < s.size ∧ ∃ c, s.data.toList[d]? = some c ∧ isD c = false) ∨ d = s.size by
        rcases Nat.lt_or_ge d s.size with h | h
        · have hc : s.data.toList[d]? = some (s.data.toList[d]'(by rw [size_list]; exact h)) := List.getElem?_eq_getElem _
          exact .inl ⟨h, _, hc, HX.out _ hc⟩
        · exact .inr (by omega))
      obtain ⟨c0, hc0⟩ : ∃ c0, s.data.toList[0]? = some c0 := ⟨_, List.getElem?_eq_getElem (by rw [size_list]; omega)⟩
      have hhead := hide (show s.data.toList.head? = some c0 by rw [List.head?_eq_getElem?]; exact hc0)
      have hid0 := fun W => idx_head (P := Tryd.prog) Tryd.underlying9 s c0 hc0 W
      have hx0 := bt_lt c0
      have h048 := hide (@bt_48 c0)
      -- the three ways out
      have hfin : ∃ a b e : Int, Hid (natR s.data.toList = (a.toNat, b.toNat, e.toNat)) ∧
          ((d = 0 ∧ a = 0 ∧ b = 0 ∧ e = 2) ∨ (0 < d ∧ bt c0 = 48 ∧ 1 < d ∧ a = 0 ∧ b = 0 ∧ e = 2) ∨ (0 < d ∧ ¬ (bt c0 = 48 ∧ 1 < d) ∧ 9 < d ∧ a = 0 ∧ b = 0 ∧ e = 5) ∨ (0 < d ∧ ¬ (bt c0 = 48 ∧ 1 < d) ∧ d ≤ 9 ∧ a = v ∧ b = d ∧ e = 0)) := by
        by_cases hd0 : d = 0
        · exact ⟨0, 0, 2, (by unfold natR; rw [if_neg hl.out, if_pos (.inl (by rw [hdd'.out]; exact hd0))]; rfl : natR s.data.toList = _), .inl ⟨hd0, rfl, rfl, rfl⟩⟩
        by_cases h48 : bt c0 = 48 ∧ 1 < d
        · exact ⟨0, 0, 2, (by unfold natR; rw [if_neg hl.out, if_pos (.inr ⟨by rw [hhead.out, bt_48.1 h48.1], by rw [hdd'.out]; exact h48.2⟩)]; rfl : natR s.data.toList = _), .inr (.inl ⟨by omega, h48.1, h48.2, rfl, rfl, rfl⟩)⟩
        have hno : ¬ (dlen s.data.toList = 0 ∨ s.data.toList.head? = some 48 ∧ 1 < dlen s.data.toList) := by
          rw [hdd'.out, hhead.out]
          rintro (h | ⟨h1, h2⟩)
          · exact hd0 h
          · exact h48 ⟨bt_48.2 (Option.some.inj h1), h2⟩
        by_cases h9 : 9 < d
        · exact ⟨0, 0, 5, (by unfold natR; rw [if_neg hl.out, if_neg hno, if_pos (by rw [hdd'.out]; exact h9)]; rfl : natR s.data.toList = _), .inr (.inr (.inl ⟨by omega, h48, h9, rfl, rfl, rfl⟩))⟩
        · exact ⟨v, d, 0, (by unfold natR; rw [if_neg hl.out, if_neg hno, if_neg (by rw [hdd'.out]; exact h9), hdd'.out, hv.out, Nat.min_eq_left (by omega)]; rfl : natR s.data.toList = _), .inr (.inr (.inr ⟨by omega, h48, by omega, rfl, rfl, rfl⟩))⟩
      obtain ⟨ra, rb, re, hR, hcases⟩ := hfin
      clear HX HD HV hc0 hhead hv hl hdd' hvI hkI
      have hz' := hide hz
      clear hz
      generalize bt c0 = x0 at *
      rcases hcases with ⟨g1, rfl, rfl, rfl⟩ | ⟨g1, g2, g3, rfl, rfl, rfl⟩ | ⟨g1, g2, g3, rfl, rfl, rfl⟩ | ⟨g1, g2, g3, rfl, rfl, rfl⟩
      · clear hid0 hx0 h048
        subst g1
        rcases hend.out with ⟨h3, c, hc, hD⟩ | h3
        · have hidx := fun W => idx_head (P := Tryd.prog) Tryd.underlying9 s c hc W
          have hxb := bt_lt c
          have hno : ¬ (48 ≤ bt c ∧ bt c ≤ 57) := fun h => by rw [isD_bt.2 h] at hD; cases hD
          clear hc hD h3
          generalize bt c = y at *
          by_cases hy : y < 48
          · go_wp2
            go_ret3
            exact nat_is hR.out (by omega) (by omega) (by omega) (Below.refl _ _)
          · have hy2 : 57 < y := by omega
            go_wp2
            go_ret3
            exact nat_is hR.out (by omega) (by omega) (by omega) (Below.refl _ _)
        · omega
      · have e1 : ((d : Int) == 0) = false := by rw [beq_eq_false_iff_ne]; omega
        have e2 : (d == 0) = false := by rw [beq_eq_false_iff_ne]; omega
        have e4 : (x0 == 48) = true := by rw [beq_iff_eq]; exact g2
        have e5 : (1 : Int) < d := by omega
        rcases hend.out with ⟨h3, c, hc, hD⟩ | h3
        · have hidx := fun W => idx_byte (P := Tryd.prog) Tryd.underlying9 s d c hc W
          have hxb := bt_lt c
          have hno : ¬ (48 ≤ bt c ∧ bt c ≤ 57) := fun h => by rw [isD_bt.2 h] at hD; cases hD
          have h3I : (d : Int) < s.size := by omega
          clear hc hD
          generalize bt c = y at *
          by_cases hy : y < 48
          · go_wp2
            go_ret3
            exact nat_is hR.out (by omega) (by omega) (by omega) (Below.refl _ _)
          · have hy2 : 57 < y := by omega
            go_wp2
            go_ret3
            exact nat_is hR.out (by omega) (by omega) (by omega) (Below.refl _ _)
        · have h3' : ¬ d < s.size := by omega
          have h3I : ¬ (d : Int) < s.size := by omega
          clear h3
          go_wp2
          go_ret3
          exact nat_is hR.out (by omega) (by omega) (by omega) (Below.refl _ _)
      · have e1 : ((d : Int) == 0) = false := by rw [beq_eq_false_iff_ne]; omega
        have e2 : (d == 0) = false := by rw [beq_eq_false_iff_ne]; omega
        have e4' : ¬ x0 = 48 := fun h => g2 ⟨h, by omega⟩
        have e4 : (x0 == 48) = false := by rw [beq_eq_false_iff_ne]; exact e4'
        have e5 : (9 : Int) < d := by omega
        clear g2
        rcases hend.out with ⟨h3, c, hc, hD⟩ | h3
        · have hidx := fun W => idx_byte (P := Tryd.prog) Tryd.underlying9 s d c hc W
          have hxb := bt_lt c
          have hno : ¬ (48 ≤ bt c ∧ bt c ≤ 57) := fun h => by rw [isD_bt.2 h] at hD; cases hD
          have h3I : (d : Int) < s.size := by omega
          clear hc hD
          generalize bt c = y at *
          by_cases hy : y < 48
          · go_wp2
            go_ret3
            exact nat_is hR.out (by omega) (by omega) (by omega) (Below.refl _ _)
          · have hy2 : 57 < y := by omega
            go_wp2
            go_ret3
            exact nat_is hR.out (by omega) (by omega) (by omega) (Below.refl _ _)
        · have h3' : ¬ d < s.size := by omega
          have h3I : ¬ (d : Int) < s.size := by omega
          clear h3
          go_wp2
          go_ret3
          exact nat_is hR.out (by omega) (by omega) (by omega) (Below.refl _ _)
      · have e1 : ((d : Int) == 0) = false := by rw [beq_eq_false_iff_ne]; omega
        have e2 : (d == 0) = false := by rw [beq_eq_false_iff_ne]; omega
        have e6 : ¬ (9 : Int) < d := by omega
        by_cases h48 : x0 = 48
        · have e4 : (x0 == 48) = true := by rw [beq_iff_eq]; exact h48
          have e5 : ¬ (1 : Int) < d := fun h => g2 ⟨h48, by omega⟩
          have e7 : ¬ 1 < d := fun h => g2 ⟨h48, h⟩
          clear g2
          rcases hend.out with ⟨h3, c, hc, hD⟩ | h3
          · have hidx := fun W => idx_byte (P := Tryd.prog) Tryd.underlying9 s d c hc W
            have hxb := bt_lt c
            have hno : ¬ (48 ≤ bt c ∧ bt c ≤ 57) := fun h => by rw [isD_bt.2 h] at hD; cases hD
            have h3I : (d : Int) < s.size := by omega
            clear hc hD
            generalize bt c = y at *
            by_cases hy : y < 48
            · go_wp2
              go_ret3
              exact nat_is hR.out (by omega) (by omega) (by omega) (Below.refl _ _)
            · have hy2 : 57 < y := by omega
              go_wp2
              go_ret3
              exact nat_is hR.out (by omega) (by omega) (by omega) (Below.refl _ _)
          · have h3' : ¬ d < s.size := by omega
            have h3I : ¬ (d : Int) < s.size := by omega
            clear h3
            go_wp2
            go_ret3
            exact nat_is hR.out (by omega) (by omega) (by omega) (Below.refl _ _)
        · have e4 : (x0 == 48) = false := by rw [beq_eq_false_iff_ne]; exact h48
          clear g2
          rcases hend.out with ⟨h3, c, hc, hD⟩ | h3
          · have hidx := fun W => idx_byte (P := Tryd.prog) Tryd.underlying9 s d c hc W
            have hxb := bt_lt c
            have hno : ¬ (48 ≤ bt c ∧ bt c ≤ 57) := fun h => by rw [isD_bt.2 h] at hD; cases hD
            have h3I : (d : Int) < s.size := by omega
            clear hc hD
            generalize bt c = y at *
            by_cases hy : y < 48
            · go_wp2
              go_ret3
              exact nat_is hR.out (by omega) (by omega) (by omega) (Below.refl _ _)
            · have hy2 : 57 < y := by omega
              go_wp2
              go_ret3
              exact nat_is hR.out (by omega) (by omega) (by omega) (Below.refl _ _)
          · have h3' : ¬ d < s.size := by omega
            have h3I : ¬ (d : Int) < s.size := by omega
            clear h3
            go_wp2
            go_ret3
            exact nat_is hR.out (by omega) (by omega) (by omega) (Below.refl _ _)
end Go.Proofs.YtcjoohaagdihlaaDoor.Dec
