/- Contracts on the text of a fault. -/
import Derived.Test.YtcjoohaagdihlaaDoorFaultTxt
import Derived.Test.YtcjoohaagdihlaaDoorDec3
namespace Go.Proofs.YtcjoohaagdihlaaDoor.Fault
open Go.RowKit Go.Lt Go.Proofs.YtcjoohaagdihlaaDoor.Lit Go.Proofs.YtcjoohaagdihlaaDoor.Dec Go.Instr
set_option linter.unusedVariables false
set_option linter.unusedSimpArgs false

theorem one_itoa (o : Bool) : Lib.itoa (atB o) = bOne o := by
  cases o
  · rw [show atB false = ((0 : Nat) : Int) from rfl, itoa_nat, Lib.decDigits_one (by omega)]; rfl
  · rw [show atB true = ((1 : Nat) : Int) from rfl, itoa_nat, Lib.decDigits_one (by omega)]; rfl
theorem fault_constant (o : Bool) (w : World) : Calls Tryd.prog 97 #[.bool o] w fun e w' => e = .returned (.int .i64 (atB o)) ∧ w = w' := by
  cases o
  all_goals
    go_enter Tryd.func97, Tryd.ntmps97
    go_wp2
    go_ret
    exact ⟨rfl, rfl⟩
theorem ref_at (o : Bool) (w : World) : Calls Tryd.prog 100 #[.bool o] w fun e w' => e = .returned (.int .i64 (atB o)) ∧ w = w' := by
  cases o
  all_goals
    go_enter Tryd.func100, Tryd.ntmps100
    go_wp2
    go_ret
    exact ⟨rfl, rfl⟩
theorem dec_to {n : Int} {t : List UInt8} (h : Lib.itoa n = t) (h0 : -9223372036854775808 ≤ n) (h1 : n ≤ 9223372036854775807) (w : World) (hp : Pows w) :
    Calls Tryd.prog 120 #[.int .i64 n] w fun e w' => e = .returned (.string ⟨t.toArray⟩) ∧ Below w.heap.size w w' := by subst h; exact octet_Dec n h0 h1 w hp
theorem rdec_to {n : Int} {t : List UInt8} (h : Lib.itoa n = t) (h0 : -9223372036854775808 ≤ n) (h1 : n ≤ 9223372036854775807) (w : World) :
    Calls Tryd.prog 121 #[.int .i64 n] w fun e w' => e = .returned (.string ⟨t.toArray⟩) ∧ Below w.heap.size w w' := by subst h; exact ref_Dec n h0 h1 w
theorem atB_bd (o : Bool) : -9223372036854775808 ≤ atB o ∧ atB o ≤ 9223372036854775807 := by have := atB_le o; omega
theorem itoa_short {n : Int} (h0 : -9223372036854775808 ≤ n) (h1 : n ≤ 9223372036854775807) : (Lib.itoa n).length ≤ 30 := by
  rcases Int.lt_or_le n 0 with h | h
  · obtain ⟨u, hu⟩ := Int.eq_ofNat_of_zero_le (show 0 ≤ -n by omega)
    rw [show n = -(u : Int) by omega]
    exact itoa_lenN u (by omega)
  · obtain ⟨u, hu⟩ := Int.eq_ofNat_of_zero_le h
    rw [hu]
    exact itoa_len u (by omega)
theorem cat2 (a b : List UInt8) : ({ data := a.toArray } : ByteArray) ++ ⟨b.toArray⟩ = ⟨(a ++ b).toArray⟩ := ByteArray.mk_append_mk a b
theorem text_pin {f : Ft} {a b : List UInt8} (h1 : Lib.itoa f.v = a) (h2 : Lib.itoa f.p = b) (hp : f.p ≠ 0) : textF f = a ++ 46 :: b ++ 47 :: bOne f.o := by
  unfold textF pinT; rw [if_neg hp, h1, h2]
theorem text_nopin {f : Ft} {a : List UInt8} (h1 : Lib.itoa f.v = a) (hp : f.p = 0) : textF f = a ++ 47 :: bOne f.o := by
  unfold textF pinT; rw [if_pos hp, h1, List.append_nil]

theorem fault_Text (f : Ft) (h0 : -9223372036854775808 ≤ f.v) (h1 : f.v ≤ 9223372036854775807) (h2 : -9223372036854775808 ≤ f.p) (h3 : f.p ≤ 9223372036854775807) (w : World) (hp : Pows w) :
    Calls Tryd.prog 74 #[.agg #[.int .i64 f.v, .int .i64 f.p, .bool f.o]] w fun e w' => e = .returned (.string ⟨(textF f).toArray⟩) ∧ Below w.heap.size w w' := by
  obtain ⟨a, ha⟩ : ∃ a, Lib.itoa f.v = a := ⟨_, rfl⟩
  obtain ⟨b, hb⟩ : ∃ b, Lib.itoa f.p = b := ⟨_, rfl⟩
  have la : a.length ≤ 30 := by rw [← ha]; exact itoa_short h0 h1
  have lb : b.length ≤ 30 := by rw [← hb]; exact itoa_short h2 h3
  have T1 := hide (fun h => text_pin ha hb h)
  have T2 := hide (fun h => text_nopin ha h)
  have HV := hide (fun W hW => dec_to ha h0 h1 W hW)
  have HP := hide (fun W hW => dec_to hb h2 h3 W hW)
  have HO := hide (fun W hW => dec_to (one_itoa f.o) (atB_bd f.o).1 (atB_bd f.o).2 W hW)
  have HC := hide (fun W => fault_constant f.o W)
  have lo : (bOne f.o).length ≤ 1 := by cases f.o <;> decide
  obtain ⟨v, p, o⟩ := f
  simp only at *
  obtain ⟨bo, hbo⟩ : ∃ bo, bOne o = bo := ⟨_, rfl⟩
  rw [hbo] at *
  obtain ⟨ao, hao⟩ : ∃ ao, atB o = ao := ⟨_, rfl⟩
  rw [hao] at HO HC
  clear ha hb h0 h1 h2 h3 hbo hao
  have hb0 := (Below.refl w.heap.size w).alloc (Nat.le_refl _) (.cells #[.int .i64 v, .int .i64 p, .bool o] 54)
  by_cases hz : p = 0
  · have hT := hide (T2.out hz)
    subst hz
    clear T1 T2 HP lb
    go_enter Tryd.func74, Tryd.ntmps74
    go_wp2_with fail
    refine (HV.out _ (hp.below (hb0.mono (Nat.le_refl _)))).mono ?_
    rintro e w1 ⟨rfl, hb1⟩
    have hB := hide (hb0.trans (hb1.mono hb0.size))
    have hblk := hide ((Blk.new w 54 #[.int .i64 v, .int .i64 0, .bool o]).below hb1 (by simp))
    have c1 : w1.cell? ⟨w.heap.size, 1, none⟩ = some (.int .i64 0) := hblk.out.cell 1
    have c2 : w1.cell? ⟨w.heap.size, 2, none⟩ = some (.bool o) := hblk.out.cell 2
    clear hb1
    go_wp2_with fail
    refine (HC.out _).mono ?_
    rintro e w2 ⟨rfl, rfl⟩
    go_wp2_with fail
    refine (HO.out _ (hp.below hB.out)).mono ?_
    rintro e w3 ⟨rfl, hb3⟩
    have hB3 := hide (hB.out.trans (hb3.mono hB.out.size))
    clear hb3
    go_wp2
    go_ret
    exact ⟨ret_str (by rw [hT.out]; simp [cat2]), hB3.out⟩
  · have hT := hide (T1.out hz)
    clear T1 T2
    go_enter Tryd.func74, Tryd.ntmps74
    go_wp2_with fail
    refine (HV.out _ (hp.below (hb0.mono (Nat.le_refl _)))).mono ?_
    rintro e w1 ⟨rfl, hb1⟩
    have hB := hide (hb0.trans (hb1.mono hb0.size))
    have hblk := hide ((Blk.new w 54 #[.int .i64 v, .int .i64 p, .bool o]).below hb1 (by simp))
    have c1 : w1.cell? ⟨w.heap.size, 1, none⟩ = some (.int .i64 p) := hblk.out.cell 1
    clear hb1
    go_wp2_with fail
    refine (HP.out _ (hp.below hB.out)).mono ?_
    rintro e w2 ⟨rfl, hb2⟩
    have hB2 := hide (hB.out.trans (hb2.mono hB.out.size))
    have hblk2 := hide (hblk.out.below hb2 hblk.out.lt)
    have c2 : w2.cell? ⟨w.heap.size, 2, none⟩ = some (.bool o) := hblk2.out.cell 2
    clear hb2 c1
    go_wp2_with fail
    refine (HC.out _).mono ?_
    rintro e w3 ⟨rfl, rfl⟩
    go_wp2_with fail
    refine (HO.out _ (hp.below hB2.out)).mono ?_
    rintro e w3 ⟨rfl, hb3⟩
    have hB3 := hide (hB2.out.trans (hb3.mono hB2.out.size))
    clear hb3
    go_wp2
    go_ret
    exact ⟨ret_str (by rw [hT.out]; simp [cat2]), hB3.out⟩
end Go.Proofs.YtcjoohaagdihlaaDoor.Fault
