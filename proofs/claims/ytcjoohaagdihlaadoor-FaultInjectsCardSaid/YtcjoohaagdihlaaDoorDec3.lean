/- The contracts of the program's Dec, and of literals' texts; the table of powers of ten kept. -/
import Derived.Test.YtcjoohaagdihlaaDoorLit2
import Derived.Test.YtcjoohaagdihlaaDoorDec2
import Derived.Test.YtcjoohaagdihlaaDoorDecShelf
import Derived.Lib.AppendIntMem
import Derived.Lib.AtoiErrMem
import Derived.Lib.LaidTab
namespace Go.Proofs.YtcjoohaagdihlaaDoor.Dec
open Go.RowKit Go.Lt Go.Proofs.YtcjoohaagdihlaaDoor.Lit
set_option linter.unusedVariables false
set_option linter.unusedSimpArgs false

/-- the table of powers of ten stands as the program's text lays it -/
def Pows (w : World) : Prop := Lib.TabIs Tryd.prog w "internal/strconv.uint64pow10" .u64 Lib.pow10Tab
theorem pow_g : Tryd.prog.globalNamed "internal/strconv.uint64pow10" = some 3 := by kernel_rfl
theorem Pows.below {w w' : World} (h : Pows w) (hb : Below w.heap.size w w') : Pows w' := by
  unfold Pows Lib.TabIs World.var? at *
  rw [pow_g] at *
  have hlt : 3 < w.heap.size := by
    rcases Nat.lt_or_ge 3 w.heap.size with h1 | h1
    · exact h1
    · simp [Array.getElem?_eq_none h1] at h
  simp only [Option.bind_some] at *
  rw [hb.block _ hlt]
  exact h

theorem octet_Dec (n : Int) (h0 : -9223372036854775808 ≤ n) (h1 : n ≤ 9223372036854775807) (w : World) (hp : Pows w) :
    Calls Tryd.prog 120 #[.int .i64 n] w fun e w' => e = .returned (.string ⟨(Lib.itoa n).toArray⟩) ∧ Below w.heap.size w w' := by
  have H := hide (Tryd.strconv_Itoa n h0 h1 w hp)
  clear h0 h1
  go_enter Tryd.func120, Tryd.ntmps120
  go_wp2_with fail
  refine H.out.mono ?_
  rintro e w' ⟨rfl, k, os, rfl⟩
  have hb := Lib.below_grow w.heap.size w (Nat.le_refl _) k os
  generalize Sort.grow (w.drewN k) os = w1 at *
  go_wp2
  go_ret
  exact ⟨rfl, hb⟩

/-- a literal's text -/
def litText (l : Int) : List UInt8 := if litGood l then (if l % 2 = 1 then 33 :: Lib.itoa (l / 2) else Lib.itoa (l / 2)) else [63]
theorem litGood_is {l : Int} {b : Bool} (h : litGood l = b) (w : World) : Calls Tryd.prog 60 #[.int .i64 l] w fun e w' => e = .returned (.bool b) ∧ w = w' := by subst h; exact lit_Good l w
theorem refGood_is {l : Int} {b : Bool} (h : litGood l = b) (w : World) : Calls Tryd.prog 61 #[.int .i64 l] w fun e w' => e = .returned (.bool b) ∧ w = w' := by subst h; exact ref_Good l w
theorem litNeg_is {l : Int} {b : Bool} (h : litNeg l = b) (w : World) : Calls Tryd.prog 66 #[.int .i64 l] w fun e w' => e = .returned (.bool b) ∧ w = w' := by subst h; exact lit_Neg l w
theorem litVar_is {l v : Int} (h : litVar l = v) (w : World) : Calls Tryd.prog 62 #[.int .i64 l] w fun e w' => e = .returned (.int .i64 v) ∧ w = w' := by subst h; exact lit_Var l w
theorem bang_add (l : List UInt8) : ({ data := #[33] } : ByteArray) ++ ⟨l.toArray⟩ = ⟨(33 :: l).toArray⟩ := ByteArray.mk_append_mk [33] l

theorem lit_Text (l : Int) (w : World) (hp : Pows w) :
    Calls Tryd.prog 70 #[.int .i64 l] w fun e w' => e = .returned (.string ⟨(litText l).toArray⟩) ∧ Below w.heap.size w w' := by
  cases hg : litGood l
  · have hT := hide (show litText l = [63] by unfold litText; rw [hg]; rfl)
    have HG := hide (litGood_is hg)
    clear hg
    go_enter Tryd.func70, Tryd.ntmps70
    go_wp2_with fail
    refine (HG.out _).mono ?_
    rintro e w' ⟨rfl, rfl⟩
    go_wp2
    go_ret
    exact ⟨ret_str (by rw [hT.out]), Below.refl _ _⟩
  · obtain ⟨h0, h1⟩ := good_iff.1 hg
    have HG := hide (litGood_is hg)
    have HV := hide (litVar_is (show litVar l = l / 2 by unfold litVar; rw [hg]; rfl))
    have HD := hide (fun W hW => octet_Dec (l / 2) (by omega) (by omega) W hW)
    have hL : (Lib.itoa (l / 2)).length ≤ 30 := by
      obtain ⟨u, hu⟩ := Int.eq_ofNat_of_zero_le (show 0 ≤ l / 2 by omega)
      rw [hu]; exact itoa_len u (by omega)
    by_cases h2 : l % 2 = 1
    · have hT := hide (show litText l = 33 :: Lib.itoa (l / 2) by unfold litText; rw [hg, if_pos h2]; rfl)
      have HN := hide (litNeg_is (show litNeg l = true by unfold litNeg; rw [hg, h2]; rfl))
      clear hg h0 h1 h2
      generalize l / 2 = v at *
      go_enter Tryd.func70, Tryd.ntmps70
      go_wp2_with fail
      refine (HG.out _).mono ?_
      rintro e w' ⟨rfl, rfl⟩
      go_wp2_with fail
      refine (HN.out _).mono ?_
      rintro e w' ⟨rfl, rfl⟩
      go_wp2_with fail
      refine (HV.out _).mono ?_
      rintro e w' ⟨rfl, rfl⟩
      go_wp2_with fail
      refine (HD.out _ hp).mono ?_
      rintro e w' ⟨rfl, hb⟩
      go_wp2
      go_ret
      exact ⟨ret_str (by rw [hT.out]; exact bang_add _), hb⟩
    · have hT := hide (show litText l = Lib.itoa (l / 2) by unfold litText; rw [hg, if_neg h2]; rfl)
      have HN := hide (litNeg_is (show litNeg l = false by unfold litNeg; rw [hg]; simp [h2]))
      clear hg h0 h1 h2
      generalize l / 2 = v at *
      go_enter Tryd.func70, Tryd.ntmps70
      go_wp2_with fail
      refine (HG.out _).mono ?_
      rintro e w' ⟨rfl, rfl⟩
      go_wp2_with fail
      refine (HN.out _).mono ?_
      rintro e w' ⟨rfl, rfl⟩
      go_wp2_with fail
      refine (HV.out _).mono ?_
      rintro e w' ⟨rfl, rfl⟩
      go_wp2_with fail
      refine (HD.out _ hp).mono ?_
      rintro e w' ⟨rfl, hb⟩
      go_wp2
      go_ret
      exact ⟨ret_str (by rw [hT.out]), hb⟩

theorem ref_Text (l : Int) (w : World) :
    Calls Tryd.prog 71 #[.int .i64 l] w fun e w' => e = .returned (.string ⟨(litText l).toArray⟩) ∧ Below w.heap.size w w' := by
  cases hg : litGood l
  · have hT := hide (show litText l = [63] by unfold litText; rw [hg]; rfl)
    have HG := hide (refGood_is hg)
    clear hg
    go_enter Tryd.func71, Tryd.ntmps71
    go_wp2_with fail
    refine (HG.out _).mono ?_
    rintro e w' ⟨rfl, rfl⟩
    go_wp2
    go_ret
    exact ⟨ret_str (by rw [hT.out]), Below.refl _ _⟩
  · obtain ⟨h0, h1⟩ := good_iff.1 hg
    have HG := hide (refGood_is hg)
    have HD := hide (fun W => ref_Dec (l / 2) (by omega) (by omega) W)
    have hL : (Lib.itoa (l / 2)).length ≤ 30 := by
      obtain ⟨u, hu⟩ := Int.eq_ofNat_of_zero_le (show 0 ≤ l / 2 by omega)
      rw [hu]; exact itoa_len u (by omega)
    have hd : l.tdiv 2 = l / 2 := Int.tdiv_eq_ediv_of_nonneg h0
    by_cases h2 : l % 2 = 1
    · have hT := hide (show litText l = 33 :: Lib.itoa (l / 2) by unfold litText; rw [hg, if_pos h2]; rfl)
      have ht : (l % 2 == 1) = true := by simpa using h2
      clear hg h2
      go_enter Tryd.func71, Tryd.ntmps71
      go_wp2_with fail
      refine (HG.out _).mono ?_
      rintro e w' ⟨rfl, rfl⟩
      go_wp2_with fail
      refine (HD.out _).mono ?_
      rintro e w' ⟨rfl, hb⟩
      go_wp2
      go_ret
      exact ⟨ret_str (by rw [hT.out]; exact bang_add _), hb⟩
    · have hT := hide (show litText l = Lib.itoa (l / 2) by unfold litText; rw [hg, if_neg h2]; rfl)
      have ht : (l % 2 == 1) = false := by simpa using h2
      clear hg h2
      go_enter Tryd.func71, Tryd.ntmps71
      go_wp2_with fail
      refine (HG.out _).mono ?_
      rintro e w' ⟨rfl, rfl⟩
      go_wp2_with fail
      refine (HD.out _).mono ?_
      rintro e w' ⟨rfl, hb⟩
      go_wp2
      go_ret
      exact ⟨ret_str (by rw [hT.out]), hb⟩
end Go.Proofs.YtcjoohaagdihlaaDoor.Dec
