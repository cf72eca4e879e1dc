/- The document's value of a literal, of a clause, and the one that is left. -/
import Derived.Test.YtcjoohaagdihlaaUnits1
import Derived.Test.YtcjoohaagdihlaaOwn1
namespace Go.Proofs.Ytcjoohaagdihlaa.Learn
open Go.RowKit Go.Lt Go.Proofs.Ytcjoohaagdihlaa.Lit Go.Proofs.Ytcjoohaagdihlaa.Sorted
set_option linter.unusedVariables false
set_option linter.unusedSimpArgs false

theorem ref3_value (a : Int) (w : World) : Calls Try.prog 131 #[.int .i64 a] w fun e w' => e = .returned (.int .i64 (triV a)) ∧ w = w' := by
  by_cases h0 : a = 0
  · subst h0
    go_enter Try.func131, Try.ntmps131
    go_wp2
    go_ret
    exact ⟨rfl, rfl⟩
  · by_cases h1 : a = 1
    · subst h1
      go_enter Try.func131, Try.ntmps131
      go_wp2
      go_ret
      exact ⟨rfl, rfl⟩
    · have e0 : (a == 0) = false := by simp [h0]
      have e1 : (a == 1) = false := by simp [h1]
      have HV := hide (show 2 = triV a by unfold triV; rw [if_neg (by omega)])
      go_enter Try.func131, Try.ntmps131
      go_wp2
      go_ret
      exact ⟨ret_int HV.out, rfl⟩
theorem ref3_Not (a : Int) (w : World) : Calls Try.prog 132 #[.int .i64 a] w fun e w' => e = .returned (.int .i64 (triNot a)) ∧ w = w' := by
  by_cases h0 : a = 0
  · subst h0
    go_enter Try.func132, Try.ntmps132
    go_wp2
    go_ret
    exact ⟨rfl, rfl⟩
  · by_cases h1 : a = 1
    · subst h1
      go_enter Try.func132, Try.ntmps132
      go_wp2
      go_ret
      exact ⟨rfl, rfl⟩
    · have e0 : (a == 0) = false := by simp [h0]
      have e1 : (a == 1) = false := by simp [h1]
      have HV := hide (show 2 = triNot a by unfold triNot; rw [if_neg h0, if_neg h1])
      go_enter Try.func132, Try.ntmps132
      go_wp2
      go_ret
      exact ⟨ret_int HV.out, rfl⟩
theorem good_is {l : Int} {b : Bool} (h : litGood l = b) (w : World) : Calls Try.prog 33 #[.int .i64 l] w fun e w' => e = .returned (.bool b) ∧ w = w' := by subst h; exact ref_Good l w
theorem ref3_Lit (A : Option Addr) (n c : Nat) (vals : List Int) (x : Int) (w : World) (hn : n ≤ 1000000) (hr : Rd w A n (ivs vals)) :
    Calls Try.prog 99 #[.slice A n c, .int .i64 x] w fun e w' => e = .returned (.int .i64 (litV vals x)) ∧ w = w' := by
  have hnI : (n : Int) ≤ 1000000 := by omega
  have hlen := hr.len
  cases hg : litGood x with
  | false =>
    have HG := hide (fun W => good_is hg W)
    have HV := hide (show 2 = litV vals x by unfold litV; rw [hg]; rfl)
    clear hg
    go_enter Try.func99, Try.ntmps99
    go_wp2_with (go_at_call 33; refine (HG.out _).mono ?_; rintro e w' ⟨rfl, rfl⟩)
    go_ret
    exact ⟨ret_int HV.out, rfl⟩
  | true =>
    obtain ⟨h0, h1⟩ := good_iff.1 hg
    have HG := hide (fun W => good_is hg W)
    obtain ⟨k, hk⟩ : ∃ k : Nat, x / 2 = (k : Int) := ⟨(x / 2).toNat, by omega⟩
    by_cases hk0 : k = 0
    · subst hk0
      have hk : x / 2 = 0 := hk
      have HN := hide (fun W => ref3_Not 0 W)
      have HV := hide (show (if x % 2 = 1 then 1 else 0) = litV vals x by unfold litV; rw [if_pos hg, if_pos hk]; rfl)
      clear hg
      by_cases h2 : x % 2 = 1
      · have ht : (x % 2 == 1) = true := by simpa using h2
        rw [if_pos h2] at HV
        clear h2
        go_enter Try.func99, Try.ntmps99
        go_wp2_with first | (go_at_call 33; refine (HG.out _).mono ?_; rintro e w' ⟨rfl, rfl⟩) | (go_at_call 132; refine (HN.out _).mono ?_; rintro e w' ⟨rfl, rfl⟩)
        go_ret
        exact ⟨ret_int HV.out, rfl⟩
      · have ht : (x % 2 == 1) = false := by simpa using h2
        rw [if_neg h2] at HV
        clear h2
        go_enter Try.func99, Try.ntmps99
        go_wp2_with (go_at_call 33; refine (HG.out _).mono ?_; rintro e w' ⟨rfl, rfl⟩)
        go_ret
        exact ⟨ret_int HV.out, rfl⟩
    · have e1 : ((k : Int) == 0) = false := by simp; omega
      have e2 : decide (0 < (k : Int)) = true := decide_eq_true (by omega)
      have e3 : ¬ (k : Int) = 0 := by omega
      by_cases hkn : k < n
      · have hknI : (k : Int) < n := by omega
        obtain ⟨ad, a, rfl, hB, ha, hca⟩ := hr.get hkn
        have hga : vals.getD (x / 2).toNat 0 = a := by rw [hk, Int.toNat_natCast, List.getD_eq_getElem?_getD, ha]; rfl
        have HW := hide (fun W => ref3_value a W)
        have HN := hide (fun W => ref3_Not (triV a) W)
        have HV := hide (show (if x % 2 = 1 then triNot (triV a) else triV a) = litV vals x by unfold litV; rw [if_pos hg, hga, hk, if_neg e3, if_pos (show (k : Int) < (vals.length : Int) by omega)])
        clear hg ha hga
        obtain ⟨t, ht2⟩ : ∃ t, triV a = t := ⟨_, rfl⟩
        rw [ht2] at HV HN HW
        clear ht2
        by_cases h2 : x % 2 = 1
        · have ht : (x % 2 == 1) = true := by simpa using h2
          rw [if_pos h2] at HV
          clear h2
          go_enter Try.func99, Try.ntmps99
          go_wp2_with first | (go_at_call 33; refine (HG.out _).mono ?_; rintro e w' ⟨rfl, rfl⟩) | (go_at_call 132; refine (HN.out _).mono ?_; rintro e w' ⟨rfl, rfl⟩) | (go_at_call 131; refine (HW.out _).mono ?_; rintro e w' ⟨rfl, rfl⟩)
          go_ret
          exact ⟨ret_int HV.out, rfl⟩
        · have ht : (x % 2 == 1) = false := by simpa using h2
          rw [if_neg h2] at HV
          clear h2
          go_enter Try.func99, Try.ntmps99
          go_wp2_with first | (go_at_call 33; refine (HG.out _).mono ?_; rintro e w' ⟨rfl, rfl⟩) | (go_at_call 131; refine (HW.out _).mono ?_; rintro e w' ⟨rfl, rfl⟩)
          go_ret
          exact ⟨ret_int HV.out, rfl⟩
      · have e4 : decide ((k : Int) < n) = false := decide_eq_false (by omega)
        have e5 : ¬ (k : Int) < n := by omega
        have HN := hide (fun W => ref3_Not 2 W)
        have HV := hide (show 2 = litV vals x by unfold litV; rw [if_pos hg, hk, if_neg e3, if_neg (show ¬ (k : Int) < (vals.length : Int) by omega)]; split <;> rfl)
        clear hg
        by_cases h2 : x % 2 = 1
        · have ht : (x % 2 == 1) = true := by simpa using h2
          clear h2
          go_enter Try.func99, Try.ntmps99
          go_wp2_with first | (go_at_call 33; refine (HG.out _).mono ?_; rintro e w' ⟨rfl, rfl⟩) | (go_at_call 132; refine (HN.out _).mono ?_; rintro e w' ⟨rfl, rfl⟩)
          go_ret
          exact ⟨ret_int HV.out, rfl⟩
        · have ht : (x % 2 == 1) = false := by simpa using h2
          clear h2
          go_enter Try.func99, Try.ntmps99
          go_wp2_with (go_at_call 33; refine (HG.out _).mono ?_; rintro e w' ⟨rfl, rfl⟩)
          go_ret
          exact ⟨ret_int HV.out, rfl⟩
theorem valG_cons {V : Int → Int} {out x : Int} {c : List Int} : valG V out (x :: c) = if V x = 1 then 1 else valG V (if V x = 2 then 2 else out) c := rfl
theorem valG_app (V : Int → Int) : ∀ (a b : List Int) (out : Int), (∀ x ∈ a, V x ≠ 1) → valG V out (a ++ b) = valG V (valG V out a) b
  | [], b, out, _ => rfl
  | x :: a, b, out, h => by
    show valG V out (x :: (a ++ b)) = _
    rw [valG_cons, valG_cons, if_neg (h x List.mem_cons_self), if_neg (h x List.mem_cons_self)]
    exact valG_app V a b _ (fun y hy => h y (List.mem_cons_of_mem _ hy))
theorem val_one {V : Int → Int} : ∀ (c : List Int) (out : Int), (∃ x ∈ c, V x = 1) → valG V out c = 1
  | [], _, ⟨x, hx, _⟩ => absurd hx List.not_mem_nil
  | y :: c, out, ⟨x, hx, h⟩ => by
    unfold valG
    by_cases hy : V y = 1
    · rw [if_pos hy]
    · rw [if_neg hy]
      rcases List.mem_cons.1 hx with rfl | hx
      · exact absurd h hy
      · exact val_one c _ ⟨x, hx, h⟩
theorem val_snoc {V : Int → Int} {c : List Int} {k : Nat} {x out : Int} (hx : c[k]? = some x) (h1 : V x ≠ 1) (hc : ∀ y ∈ c.take k, V y ≠ 1) : valG V out (c.take (k + 1)) = if V x = 2 then 2 else valG V out (c.take k) := by
  rw [List.take_add_one, hx, valG_app V _ _ _ hc]
  show valG V _ [x] = _
  rw [valG_cons, if_neg h1]; rfl
theorem ref20_Value (A : Option Addr) (n c : Nat) (vals : List Int) (B : Option Addr) (m d : Nat) (cl : List Int) (w : World) (hn : n ≤ 1000000) (hr : Rd w A n (ivs vals)) (hm : m ≤ 1000000) (hrc : Rd w B m (ivs cl)) :
    Calls Try.prog 36 #[.slice A n c, .slice B m d] w fun e w' => e = .returned (.int .i64 (valG (litV vals) 0 cl)) ∧ w = w' := by
  have hmI : (m : Int) ≤ 1000000 := by omega
  have hlen := hide hrc.len
  obtain ⟨V, hV⟩ : ∃ V, litV vals = V := ⟨_, rfl⟩
  have HL := hide (fun (x : Int) => ref3_Lit A n c vals x w hn hr)
  rw [hV] at HL ⊢
  clear hV hr
  go_enter Try.func36, Try.ntmps36
  go_wp2
  go_loopw [5, 6] (fun o i wr => ∃ k : Nat, k ≤ m ∧ i = .int .i64 k ∧ o = .int .i64 (valG V 0 (cl.take k)) ∧ Hid (∀ y ∈ cl.take k, V y ≠ 1) ∧ w = wr) (fun _ i _ => m - (intOf i).toNat)
  case atStart => exact ⟨0, Nat.zero_le _, rfl, rfl, hide (fun y hy => absurd hy List.not_mem_nil), rfl⟩
  case round =>
    obtain ⟨k, hk, rfl, rfl, hno, rfl⟩ := hrel
    have hkI : (k : Int) ≤ 1000000 := by omega
    obtain ⟨o, ho⟩ : ∃ o, valG V 0 (cl.take k) = o := ⟨_, rfl⟩
    rw [ho]
    by_cases hlt : k < m
    · obtain ⟨ad, x, rfl, hB, hx, hcx⟩ := hrc.get hlt
      have HX := HL.out x
      have hsn := hide (fun h1 => val_snoc (out := 0) hx h1 hno.out)
      rw [ho] at hsn
      replace hsn := hide hsn.out
      obtain ⟨v, hv⟩ : ∃ v, V x = v := ⟨_, rfl⟩
      rw [hv] at HX hsn
      replace HX := hide HX
      have hltI : (k : Int) < m := by omega
      by_cases h1 : v = 1
      · subst h1
        have hF := hide (val_one (V := V) cl 0 ⟨x, List.mem_of_getElem? hx, hv⟩)
        clear hx hv ho hno hsn
        go_wp2_with (go_at_call 99; refine HX.out.mono ?_; rintro e w' ⟨rfl, rfl⟩)
        go_ret
        exact ⟨by rw [hF.out]; rfl, rfl⟩
      · have e1 : (v == 1) = false := by simp [h1]
        have hno2 := hide (show ∀ y ∈ cl.take (k + 1), V y ≠ 1 from fun y hy => by
          rw [List.take_add_one, hx] at hy
          rcases List.mem_append.1 hy with hy | hy
          · exact hno.out y hy
          · have : y = x := by simpa using hy
            rw [this, hv]; exact h1)
        replace hsn := hide (hsn.out h1)
        clear hx hv ho hno
        by_cases h2 : v = 2
        · subst h2
          go_wp2_with (go_at_call 99; refine HX.out.mono ?_; rintro e w' ⟨rfl, rfl⟩)
          go_roundw
          case rel => exact ⟨k + 1, hlt, by go_num, by rw [hsn.out]; rfl, hno2, trivial⟩
          case measure => simp [intOf]; omega
        · have e2 : (v == 2) = false := by simp [h2]
          rw [if_neg h2] at hsn
          go_wp2_with (go_at_call 99; refine HX.out.mono ?_; rintro e w' ⟨rfl, rfl⟩)
          go_roundw
          case rel => exact ⟨k + 1, hlt, by go_num, by rw [hsn.out], hno2, trivial⟩
          case measure => simp [intOf]; omega
    · have hkm : m = k := by omega
      subst hkm
      have hF := hide (show valG V 0 cl = o by rw [← ho, List.take_of_length_le (by have := hlen.out; omega)])
      clear ho hno
      go_wp2
      go_ret
      exact ⟨by rw [hF.out]; rfl, rfl⟩
end Go.Proofs.Ytcjoohaagdihlaa.Learn
