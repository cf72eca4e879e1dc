/- The contract of the document's Read of a literal. -/
import Derived.Test.YtcjoohaagdihlaaDoorLitRead1
namespace Go.Proofs.YtcjoohaagdihlaaDoor.Dec
open Go.RowKit Go.Lt Go.Proofs.YtcjoohaagdihlaaDoor.Lit
set_option linter.unusedVariables false
set_option linter.unusedSimpArgs false

theorem bt_33 {c : UInt8} : bt c = 33 ↔ c = 33 := by
  constructor
  · intro h; apply UInt8.toNat_inj.1; unfold bt at h; have h48 : (33 : UInt8).toNat = 33 := rfl; omega
  · rintro rfl; rfl

set_option maxHeartbeats 1600000 in
theorem ref_Read (s : ByteArray) (w : World) (hs : s.size ≤ 1000000) : Calls Tryd.prog 69 #[.string s] w (ReadIs s w) := by
  have hcs : (cutS s).size ≤ 1000000 := Nat.le_trans (cutS_size s) hs
  have HN := hide (fun W => ref_Nat (cutS s) W hcs)
  obtain ⟨hv, he, hr⟩ := natR_lt (cutS s).data.toList
  have HY := hide (@readV_yes s)
  have HZ := hide (@readV_no s)
  have hsI : (s.size : Int) ≤ 1000000 := by omega
  have hhead := hide (bang_head s)
  have hext := hide (show bang s = true → cutS s = s.extract 1 s.size from fun h => by unfold cutS; rw [h]; rfl)
  have hsame := hide (show bang s = false → cutS s = s from fun h => by unfold cutS; rw [h]; rfl)
  obtain ⟨r, hr'⟩ : ∃ r, cutS s = r := ⟨_, rfl⟩
  rw [hr'] at hv he hr HY HZ HN hext hsame
  clear hr' hcs
  obtain ⟨t, ht⟩ : ∃ t, natR r.data.toList = t := ⟨_, rfl⟩
  rw [ht] at hv he hr HY HZ
  have ht2 := hide ht
  clear ht
  obtain ⟨v, en, er⟩ := t
  simp only at hv he hr HY HZ
  have hvI := hide (show (v : Int) < 1000000000 by omega)
  have HS := hide hs
  clear hs hv
  by_cases hz : s.size = 0
  · have hb : bang s = false := by
      rw [hhead.out]
      have : s.data.toList = [] := List.eq_nil_of_length_eq_zero (by rw [size_list]; exact hz)
      rw [this]; rfl
    have hrs := hide (hsame.out hb)
    have HL := hide (ref_Of (v : Int) false)
    rw [hb] at HY
    have hpre := trivial
    clear hsame hext hhead hb
    go_enter Tryd.func69, Tryd.ntmps69
    go_wp2_with fail
    rw [← hrs.out]
    clear hz
    refine (HN.out _).mono ?_
    rintro e w' ⟨rfl, hb⟩
    rw [ht2.out]
    clear HN
    by_cases h1 : er = 0 ∧ en = r.size
    · obtain ⟨rfl, hen⟩ := h1
      have e1 : ((en : Int) != (r.size : Int)) = false := by rw [bne_eq_false_iff_eq]; omega
      have e2 : (en != r.size) = false := by rw [bne_eq_false_iff_eq]; exact hen
      by_cases h2 : v ≤ 16777216
      · have hR := hide (HY.out ⟨rfl, hen, h2⟩)
        have f1 : True → decide ((16777216 : Int) < (v : Int)) = false := fun _ => by rw [decide_eq_false_iff_not]; omega
        have f2 : True → decide (16777216 < v) = false := fun _ => by rw [decide_eq_false_iff_not]; omega
        clear HY HZ hvI h2 hr he hen
        go_wp2_with fail
        refine (HL.out _).mono ?_
        rintro e w2 ⟨rfl, rfl⟩
        go_wp2
        go_ret2
        exact read_is hR.out hb
      · have hR := hide (HZ.out (fun h => h2 h.2.2))
        have f1 : True → decide ((16777216 : Int) < (v : Int)) = true := fun _ => by rw [decide_eq_true_iff]; omega
        have f2 : True → decide (16777216 < v) = true := fun _ => by rw [decide_eq_true_iff]; omega
        clear HY HZ hvI h2 hr he hen
        go_wp2
        go_ret2
        exact read_is hR.out hb
    · have hR := hide (HZ.out (fun h => h1 ⟨h.1, h.2.1⟩))
      by_cases h3 : er = 0
      · have hen : ¬ en = r.size := fun h => h1 ⟨h3, h⟩
        subst h3
        have e1 : ((en : Int) != (r.size : Int)) = true := by rw [bne_iff_ne]; omega
        have e2 : (en != r.size) = true := by rw [bne_iff_ne]; exact hen
        clear HY HZ hvI h1 hr he hen
        go_wp2
        go_ret2
        exact read_is hR.out hb
      · have e1 : ((er : Int) != 0) = true := by rw [bne_iff_ne]; omega
        have e2 : (er != 0) = true := by rw [bne_iff_ne]; exact h3
        clear HY HZ hvI h1 hr he h3
        go_wp2
        go_ret2
        exact read_is hR.out hb
  · obtain ⟨c0, hc0⟩ : ∃ c0, s.data.toList[0]? = some c0 := ⟨_, List.getElem?_eq_getElem (by rw [size_list]; omega)⟩
    have hid0 := fun W => idx_head (P := Tryd.prog) Tryd.underlying9 s c0 hc0 W
    have hz1 : 0 < s.size := by omega
    have hh : s.data.toList.head? = some c0 := by rw [List.head?_eq_getElem?]; exact hc0
    by_cases h33 : bt c0 = 33
    · have hb : bang s = true := by rw [hhead.out, hh, bt_33.1 h33]; rfl
      have hrs := hide (hext.out hb)
      have HL := hide (ref_Of (v : Int) true)
      rw [hb] at HY
      have e33 : (bt c0 == 33) = true := by rw [beq_iff_eq]; exact h33
      clear hsame hext hhead hb hc0 hh hz
      generalize bt c0 = x0 at *
      go_enter Tryd.func69, Tryd.ntmps69
      go_wp2_with fail
      rw [← hrs.out]
      clear hid0 hz1 e33 h33
      refine (HN.out _).mono ?_
      rintro e w' ⟨rfl, hb⟩
      rw [ht2.out]
      clear HN
      by_cases h1 : er = 0 ∧ en = r.size
      · obtain ⟨rfl, hen⟩ := h1
        have e1 : ((en : Int) != (r.size : Int)) = false := by rw [bne_eq_false_iff_eq]; omega
        have e2 : (en != r.size) = false := by rw [bne_eq_false_iff_eq]; exact hen
        by_cases h2 : v ≤ 16777216
        · have hR := hide (HY.out ⟨rfl, hen, h2⟩)
          have f1 : True → decide ((16777216 : Int) < (v : Int)) = false := fun _ => by rw [decide_eq_false_iff_not]; omega
          have f2 : True → decide (16777216 < v) = false := fun _ => by rw [decide_eq_false_iff_not]; omega
          clear HY HZ hvI h2 hr he hen
          go_wp2_with fail
          refine (HL.out _).mono ?_
          rintro e w2 ⟨rfl, rfl⟩
          go_wp2
          go_ret2
          exact read_is hR.out hb
        · have hR := hide (HZ.out (fun h => h2 h.2.2))
          have f1 : True → decide ((16777216 : Int) < (v : Int)) = true := fun _ => by rw [decide_eq_true_iff]; omega
          have f2 : True → decide (16777216 < v) = true := fun _ => by rw [decide_eq_true_iff]; omega
          clear HY HZ hvI h2 hr he hen
          go_wp2
          go_ret2
          exact read_is hR.out hb
      · have hR := hide (HZ.out (fun h => h1 ⟨h.1, h.2.1⟩))
        by_cases h3 : er = 0
        · have hen : ¬ en = r.size := fun h => h1 ⟨h3, h⟩
          subst h3
          have e1 : ((en : Int) != (r.size : Int)) = true := by rw [bne_iff_ne]; omega
          have e2 : (en != r.size) = true := by rw [bne_iff_ne]; exact hen
          clear HY HZ hvI h1 hr he hen
          go_wp2
          go_ret2
          exact read_is hR.out hb
        · have e1 : ((er : Int) != 0) = true := by rw [bne_iff_ne]; omega
          have e2 : (er != 0) = true := by rw [bne_iff_ne]; exact h3
          clear HY HZ hvI h1 hr he h3
          go_wp2
          go_ret2
          exact read_is hR.out hb
    · have hb : bang s = false := by
        rw [hhead.out, hh, decide_eq_false_iff_not]
        exact fun h => h33 (bt_33.2 (Option.some.inj h))
      have hrs := hide (hsame.out hb)
      have HL := hide (ref_Of (v : Int) false)
      rw [hb] at HY
      have e33 : (bt c0 == 33) = false := by rw [beq_eq_false_iff_ne]; exact h33
      clear hsame hext hhead hb hc0 hh hz
      generalize bt c0 = x0 at *
      go_enter Tryd.func69, Tryd.ntmps69
      go_wp2_with fail
      rw [← hrs.out]
      clear hid0 hz1 e33 h33
      refine (HN.out _).mono ?_
      rintro e w' ⟨rfl, hb⟩
      rw [ht2.out]
      clear HN
      by_cases h1 : er = 0 ∧ en = r.size
      · obtain ⟨rfl, hen⟩ := h1
        have e1 : ((en : Int) != (r.size : Int)) = false := by rw [bne_eq_false_iff_eq]; omega
        have e2 : (en != r.size) = false := by rw [bne_eq_false_iff_eq]; exact hen
        by_cases h2 : v ≤ 16777216
        · have hR := hide (HY.out ⟨rfl, hen, h2⟩)
          have f1 : True → decide ((16777216 : Int) < (v : Int)) = false := fun _ => by rw [decide_eq_false_iff_not]; omega
          have f2 : True → decide (16777216 < v) = false := fun _ => by rw [decide_eq_false_iff_not]; omega
          clear HY HZ hvI h2 hr he hen
          go_wp2_with fail
          refine (HL.out _).mono ?_
          rintro e w2 ⟨rfl, rfl⟩
          go_wp2
          go_ret2
          exact read_is hR.out hb
        · have hR := hide (HZ.out (fun h => h2 h.2.2))
          have f1 : True → decide ((16777216 : Int) < (v : Int)) = true := fun _ => by rw [decide_eq_true_iff]; omega
          have f2 : True → decide (16777216 < v) = true := fun _ => by rw [decide_eq_true_iff]; omega
          clear HY HZ hvI h2 hr he hen
          go_wp2
          go_ret2
          exact read_is hR.out hb
      · have hR := hide (HZ.out (fun h => h1 ⟨h.1, h.2.1⟩))
        by_cases h3 : er = 0
        · have hen : ¬ en = r.size := fun h => h1 ⟨h3, h⟩
          subst h3
          have e1 : ((en : Int) != (r.size : Int)) = true := by rw [bne_iff_ne]; omega
          have e2 : (en != r.size) = true := by rw [bne_iff_ne]; exact hen
          clear HY HZ hvI h1 hr he hen
          go_wp2
          go_ret2
          exact read_is hR.out hb
        · have e1 : ((er : Int) != 0) = true := by rw [bne_iff_ne]; omega
          have e2 : (er != 0) = true := by rw [bne_iff_ne]; exact h3
          clear HY HZ hvI h1 hr he h3
          go_wp2
          go_ret2
          exact read_is hR.out hb
end Go.Proofs.YtcjoohaagdihlaaDoor.Dec
