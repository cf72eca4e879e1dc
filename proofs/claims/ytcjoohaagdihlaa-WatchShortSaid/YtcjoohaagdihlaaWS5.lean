/- Texts behind a row, one behind the other: Units2, Units3, Units4, Store1, Store2. -/
import Derived.Test.YtcjoohaagdihlaaWS4
import Derived.Test.YtcjoohaagdihlaaWS1
import Derived.Test.YtcjoohaagdihlaaWS2
import Derived.Deep.LoopGhost
import Derived.RangeFuncNested
import Derived.RangeFuncBound
import Derived.RangeFuncCalls
import Derived.RangeFuncLeaves
import Derived.Shelf.Abstract
import Derived.Shelf.RegionOpen
import Derived.WalkKit
import Derived.OwnWalkIn
import Derived.TacticsInMore
import Derived.LoopNIn
import Derived.LoopIn
import Derived.Test.YtcjoohaagdihlaaProg
import Derived.Lib.SliceRun
section
/- The document's value of a literal, of a clause, and the one that is left. -/
namespace Go.Proofs.Ytcjoohaagdihlaa.Learn
open Go.RowKit Go.Lt Go.Proofs.Ytcjoohaagdihlaa.Lit Go.Proofs.Ytcjoohaagdihlaa.Sorted
set_option linter.unusedVariables false
set_option linter.unusedSimpArgs false

theorem ref3_value (a : Int) (w : World) : Calls Try.prog 131 #[.int .i64 a] w fun e w' => e = .returned (.int .i64 (triV a)) ∧ w = w' := by
  by_cases h0 : a = 0
  · subst h0
    go_enter Try.func131, Try.ntmps131
    go_wp2
    go_ret
    exact ⟨rfl, rfl⟩
  · by_cases h1 : a = 1
    · subst h1
      go_enter Try.func131, Try.ntmps131
      go_wp2
      go_ret
      exact ⟨rfl, rfl⟩
    · have e0 : (a == 0) = false := by simp [h0]
      have e1 : (a == 1) = false := by simp [h1]
      have HV := hide (show 2 = triV a by unfold triV; rw [if_neg (by omega)])
      go_enter Try.func131, Try.ntmps131
      go_wp2
      go_ret
      exact ⟨ret_int HV.out, rfl⟩
theorem ref3_Not (a : Int) (w : World) : Calls Try.prog 132 #[.int .i64 a] w fun e w' => e = .returned (.int .i64 (triNot a)) ∧ w = w' := by
  by_cases h0 : a = 0
  · subst h0
    go_enter Try.func132, Try.ntmps132
    go_wp2
    go_ret
    exact ⟨rfl, rfl⟩
  · by_cases h1 : a = 1
    · subst h1
      go_enter Try.func132, Try.ntmps132
      go_wp2
      go_ret
      exact ⟨rfl, rfl⟩
    · have e0 : (a == 0) = false := by simp [h0]
      have e1 : (a == 1) = false := by simp [h1]
      have HV := hide (show 2 = triNot a by unfold triNot; rw [if_neg h0, if_neg h1])
      go_enter Try.func132, Try.ntmps132
      go_wp2
      go_ret
      exact ⟨ret_int HV.out, rfl⟩
theorem good_is {l : Int} {b : Bool} (h : litGood l = b) (w : World) : Calls Try.prog 33 #[.int .i64 l] w fun e w' => e = .returned (.bool b) ∧ w = w' := by subst h; exact ref_Good l w
theorem ref3_Lit (A : Option Addr) (n c : Nat) (vals : List Int) (x : Int) (w : World) (hn : n ≤ 1000000) (hr : Rd w A n (ivs vals)) :
    Calls Try.prog 99 #[.slice A n c, .int .i64 x] w fun e w' => e = .returned (.int .i64 (litV vals x)) ∧ w = w' := by
  have hnI : (n : Int) ≤ 1000000 := by omega
  have hlen := hr.len
  cases hg : litGood x with
  | false =>
    have HG := hide (fun W => good_is hg W)
    have HV := hide (show 2 = litV vals x by unfold litV; rw [hg]; rfl)
    clear hg
    go_enter Try.func99, Try.ntmps99
    go_wp2_with (go_at_call 33; refine (HG.out _).mono ?_; rintro e w' ⟨rfl, rfl⟩)
    go_ret
    exact ⟨ret_int HV.out, rfl⟩
  | true =>
    obtain ⟨h0, h1⟩ := good_iff.1 hg
    have HG := hide (fun W => good_is hg W)
    obtain ⟨k, hk⟩ : ∃ k : Nat, x / 2 = (k : Int) := ⟨(x / 2).toNat, by omega⟩
    by_cases hk0 : k = 0
    · subst hk0
      have hk : x / 2 = 0 := hk
      have HN := hide (fun W => ref3_Not 0 W)
      have HV := hide (show (if x % 2 = 1 then 1 else 0) = litV vals x by unfold litV; rw [if_pos hg, if_pos hk]; rfl)
      clear hg
      by_cases h2 : x % 2 = 1
      · have ht : (x % 2 == 1) = true := by simpa using h2
        rw [if_pos h2] at HV
        clear h2
        go_enter Try.func99, Try.ntmps99
        go_wp2_with first | (go_at_call 33; refine (HG.out _).mono ?_; rintro e w' ⟨rfl, rfl⟩) | (go_at_call 132; refine (HN.out _).mono ?_; rintro e w' ⟨rfl, rfl⟩)
        go_ret
        exact ⟨ret_int HV.out, rfl⟩
      · have ht : (x % 2 == 1) = false := by simpa using h2
        rw [if_neg h2] at HV
        clear h2
        go_enter Try.func99, Try.ntmps99
        go_wp2_with (go_at_call 33; refine (HG.out _).mono ?_; rintro e w' ⟨rfl, rfl⟩)
        go_ret
        exact ⟨ret_int HV.out, rfl⟩
    · have e1 : ((k : Int) == 0) = false := by simp; omega
      have e2 : decide (0 < (k : Int)) = true := decide_eq_true (by omega)
      have e3 : ¬ (k : Int) = 0 := by omega
      by_cases hkn : k < n
      · have hknI : (k : Int) < n := by omega
        obtain ⟨ad, a, rfl, hB, ha, hca⟩ := hr.get hkn
        have hga : vals.getD (x / 2).toNat 0 = a := by rw [hk, Int.toNat_natCast, List.getD_eq_getElem?_getD, ha]; rfl
        have HW := hide (fun W => ref3_value a W)
        have HN := hide (fun W => ref3_Not (triV a) W)
        have HV := hide (show (if x % 2 = 1 then triNot (triV a) else triV a) = litV vals x by unfold litV; rw [if_pos hg, hga, hk, if_neg e3, if_pos (show (k : Int) < (vals.length : Int) by omega)])
        clear hg ha hga
        obtain ⟨t, ht2⟩ : ∃ t, triV a = t := ⟨_, rfl⟩
        rw [ht2] at HV HN HW
        clear ht2
        by_cases h2 : x % 2 = 1
        · have ht : (x % 2 == 1) = true := by simpa using h2
          rw [if_pos h2] at HV
          clear h2
          go_enter Try.func99, Try.ntmps99
          go_wp2_with first | (go_at_call 33; refine (HG.out _).mono ?_; rintro e w' ⟨rfl, rfl⟩) | (go_at_call 132; refine (HN.out _).mono ?_; rintro e w' ⟨rfl, rfl⟩) | (go_at_call 131; refine (HW.out _).mono ?_; rintro e w' ⟨rfl, rfl⟩)
          go_ret
          exact ⟨ret_int HV.out, rfl⟩
        · have ht : (x % 2 == 1) = false := by simpa using h2
          rw [if_neg h2] at HV
          clear h2
          go_enter Try.func99, Try.ntmps99
          go_wp2_with first | (go_at_call 33; refine (HG.out _).mono ?_; rintro e w' ⟨rfl, rfl⟩) | (go_at_call 131; refine (HW.out _).mono ?_; rintro e w' ⟨rfl, rfl⟩)
          go_ret
          exact ⟨ret_int HV.out, rfl⟩
      · have e4 : decide ((k : Int) < n) = false := decide_eq_false (by omega)
        have e5 : ¬ (k : Int) < n := by omega
        have HN := hide (fun W => ref3_Not 2 W)
        have HV := hide (show 2 = litV vals x by unfold litV; rw [if_pos hg, hk, if_neg e3, if_neg (show ¬ (k : Int) < (vals.length : Int) by omega)]; split <;> rfl)
        clear hg
        by_cases h2 : x % 2 = 1
        · have ht : (x % 2 == 1) = true := by simpa using h2
          clear h2
          go_enter Try.func99, Try.ntmps99
          go_wp2_with first | (go_at_call 33; refine (HG.out _).mono ?_; rintro e w' ⟨rfl, rfl⟩) | (go_at_call 132; refine (HN.out _).mono ?_; rintro e w' ⟨rfl, rfl⟩)
          go_ret
          exact ⟨ret_int HV.out, rfl⟩
        · have ht : (x % 2 == 1) = false := by simpa using h2
          clear h2
          go_enter Try.func99, Try.ntmps99
          go_wp2_with (go_at_call 33; refine (HG.out _).mono ?_; rintro e w' ⟨rfl, rfl⟩)
          go_ret
          exact ⟨ret_int HV.out, rfl⟩
theorem valG_cons {V : Int → Int} {out x : Int} {c : List Int} : valG V out (x :: c) = if V x = 1 then 1 else valG V (if V x = 2 then 2 else out) c := rfl
theorem valG_app (V : Int → Int) : ∀ (a b : List Int) (out : Int), (∀ x ∈ a, V x ≠ 1) → valG V out (a ++ b) = valG V (valG V out a) b
  | [], b, out, _ => rfl
  | x :: a, b, out, h => by
    show valG V out (x :: (a ++ b)) = _
    rw [valG_cons, valG_cons, if_neg (h x List.mem_cons_self), if_neg (h x List.mem_cons_self)]
    exact valG_app V a b _ (fun y hy => h y (List.mem_cons_of_mem _ hy))
theorem val_one {V : Int → Int} : ∀ (c : List Int) (out : Int), (∃ x ∈ c, V x = 1) → valG V out c = 1
  | [], _, ⟨x, hx, _⟩ => absurd hx List.not_mem_nil
  | y :: c, out, ⟨x, hx, h⟩ => by
    unfold valG
    by_cases hy : V y = 1
    · rw [if_pos hy]
    · rw [if_neg hy]
      rcases List.mem_cons.1 hx with rfl | hx
      · exact absurd h hy
      · exact val_one c _ ⟨x, hx, h⟩
theorem val_snoc {V : Int → Int} {c : List Int} {k : Nat} {x out : Int} (hx : c[k]? = some x) (h1 : V x ≠ 1) (hc : ∀ y ∈ c.take k, V y ≠ 1) : valG V out (c.take (k + 1)) = if V x = 2 then 2 else valG V out (c.take k) := by
  rw [List.take_add_one, hx, valG_app V _ _ _ hc]
  show valG V _ [x] = _
  rw [valG_cons, if_neg h1]; rfl
theorem ref20_Value (A : Option Addr) (n c : Nat) (vals : List Int) (B : Option Addr) (m d : Nat) (cl : List Int) (w : World) (hn : n ≤ 1000000) (hr : Rd w A n (ivs vals)) (hm : m ≤ 1000000) (hrc : Rd w B m (ivs cl)) :
    Calls Try.prog 36 #[.slice A n c, .slice B m d] w fun e w' => e = .returned (.int .i64 (valG (litV vals) 0 cl)) ∧ w = w' := by
  have hmI : (m : Int) ≤ 1000000 := by omega
  have hlen := hide hrc.len
  obtain ⟨V, hV⟩ : ∃ V, litV vals = V := ⟨_, rfl⟩
  have HL := hide (fun (x : Int) => ref3_Lit A n c vals x w hn hr)
  rw [hV] at HL ⊢
  clear hV hr
  go_enter Try.func36, Try.ntmps36
  go_wp2
  go_loopw [5, 6] (fun o i wr => ∃ k : Nat, k ≤ m ∧ i = .int .i64 k ∧ o = .int .i64 (valG V 0 (cl.take k)) ∧ Hid (∀ y ∈ cl.take k, V y ≠ 1) ∧ w = wr) (fun _ i _ => m - (intOf i).toNat)
  case atStart => exact ⟨0, Nat.zero_le _, rfl, rfl, hide (fun y hy => absurd hy List.not_mem_nil), rfl⟩
  case round =>
    obtain ⟨k, hk, rfl, rfl, hno, rfl⟩ := hrel
    have hkI : (k : Int) ≤ 1000000 := by omega
    obtain ⟨o, ho⟩ : ∃ o, valG V 0 (cl.take k) = o := ⟨_, rfl⟩
    rw [ho]
    by_cases hlt : k < m
    · obtain ⟨ad, x, rfl, hB, hx, hcx⟩ := hrc.get hlt
      have HX := HL.out x
      have hsn := hide (fun h1 => val_snoc (out := 0) hx h1 hno.out)
      rw [ho] at hsn
      replace hsn := hide hsn.out
      obtain ⟨v, hv⟩ : ∃ v, V x = v := ⟨_, rfl⟩
      rw [hv] at HX hsn
      replace HX := hide HX
      have hltI : (k : Int) < m := by omega
      by_cases h1 : v = 1
      · subst h1
        have hF := hide (val_one (V := V) cl 0 ⟨x, List.mem_of_getElem? hx, hv⟩)
        clear hx hv ho hno hsn
        go_wp2_with (go_at_call 99; refine HX.out.mono ?_; rintro e w' ⟨rfl, rfl⟩)
        go_ret
        exact ⟨by rw [hF.out]; rfl, rfl⟩
      · have e1 : (v == 1) = false := by simp [h1]
        have hno2 := hide (show ∀ y ∈ cl.take (k + 1), V y ≠ 1 from fun y hy => by
          rw [List.take_add_one, hx] at hy
          rcases List.mem_append.1 hy with hy | hy
          · exact hno.out y hy
          · have : y = x := by simpa using hy
            rw [this, hv]; exact h1)
        replace hsn := hide (hsn.out h1)
        clear hx hv ho hno
        by_cases h2 : v = 2
        · subst h2
          go_wp2_with (go_at_call 99; refine HX.out.mono ?_; rintro e w' ⟨rfl, rfl⟩)
          go_roundw
          case rel => exact ⟨k + 1, hlt, by go_num, by rw [hsn.out]; rfl, hno2, trivial⟩
          case measure => simp [intOf]; omega
        · have e2 : (v == 2) = false := by simp [h2]
          rw [if_neg h2] at hsn
          go_wp2_with (go_at_call 99; refine HX.out.mono ?_; rintro e w' ⟨rfl, rfl⟩)
          go_roundw
          case rel => exact ⟨k + 1, hlt, by go_num, by rw [hsn.out], hno2, trivial⟩
          case measure => simp [intOf]; omega
    · have hkm : m = k := by omega
      subst hkm
      have hF := hide (show valG V 0 cl = o by rw [← ho, List.take_of_length_le (by have := hlen.out; omega)])
      clear ho hno
      go_wp2
      go_ret
      exact ⟨by rw [hF.out]; rfl, rfl⟩
end Go.Proofs.Ytcjoohaagdihlaa.Learn
end

section
/- The document's Units: all that clauses say of values. -/
namespace Go.Proofs.Ytcjoohaagdihlaa.Learn
open Go.RowKit Go.Lt Go.Proofs.Ytcjoohaagdihlaa.Lit Go.Proofs.Ytcjoohaagdihlaa.Sorted
open Go.Proofs.Ytcjoohaagdihlaa.Kept (Sl Sl.val)
set_option linter.unusedVariables false
set_option linter.unusedSimpArgs false

theorem drop_one {α : Type} {cs : List α} {k : Nat} {c : α} (hc : cs[k]? = some c) : cs.drop k = c :: cs.drop (k + 1) := by
  obtain ⟨h, e⟩ := List.getElem?_eq_some_iff.1 hc
  rw [List.drop_eq_getElem_cons h, e]
theorem unitG_cons {V : Int → Int} {left x : Int} {c : List Int} : unitG V left (x :: c) = if V x = 1 ∨ (V x = 2 ∧ (litGood x = false ∨ (0 ≤ left ∧ left ≠ x))) then -1 else unitG V (if V x = 2 then x else left) c := rfl
set_option maxHeartbeats 1000000 in
theorem ref20_Unit (A : Option Addr) (n c : Nat) (vals : List Int) (B : Option Addr) (m d : Nat) (cl : List Int) (w : World) (hn : n ≤ 1000000) (hr : Rd w A n (ivs vals)) (hm : m ≤ 1000000) (hrc : Rd w B m (ivs cl)) :
    Calls Try.prog 97 #[.slice A n c, .slice B m d] w fun e w' => e = .returned (.int .i64 (uOf vals cl)) ∧ w = w' := by
  have hmI : (m : Int) ≤ 1000000 := by omega
  have hlen := hide hrc.len
  unfold uOf
  obtain ⟨V, hV⟩ : ∃ V, litV vals = V := ⟨_, rfl⟩
  have HL := hide (fun (x : Int) => ref3_Lit A n c vals x w hn hr)
  rw [hV] at HL ⊢
  clear hV hr
  obtain ⟨U, hU⟩ : ∃ U, unitG V (-1) cl = U := ⟨_, rfl⟩
  rw [hU]
  go_enter Try.func97, Try.ntmps97
  go_wp2
  go_loopw [5, 6] (fun o i wr => ∃ (k : Nat) (left : Int), k ≤ m ∧ i = .int .i64 k ∧ o = .int .i64 left ∧ Hid (unitG V left (cl.drop k) = U) ∧ w = wr) (fun _ i _ => m - (intOf i).toNat)
  case atStart => exact ⟨0, -1, Nat.zero_le _, rfl, rfl, hide hU, rfl⟩
  case round =>
    obtain ⟨k, left, hk, rfl, rfl, hu, rfl⟩ := hrel
    clear hU
    have hkI : (k : Int) ≤ 1000000 := by omega
    by_cases hlt : k < m
    · obtain ⟨ad, x, rfl, hB, hx, hcx⟩ := hrc.get hlt
      have HX := HL.out x
      have hs := hu.out
      rw [drop_one hx, unitG_cons] at hs
      obtain ⟨v, hv⟩ : ∃ v, V x = v := ⟨_, rfl⟩
      rw [hv] at HX hs
      replace HX := hide HX
      have hltI : (k : Int) < m := by omega
      clear hx hv hu
      by_cases h1 : v = 1
      · subst h1
        rw [if_pos (.inl rfl)] at hs
        replace hs := hide hs
        go_wp2_with (go_at_call 99; refine HX.out.mono ?_; rintro e w' ⟨rfl, rfl⟩)
        go_ret
        exact ⟨ret_int hs.out, rfl⟩
      · have e1 : (v == 1) = false := by simp [h1]
        by_cases h2 : v = 2
        · subst h2
          cases hg : litGood x with
          | false =>
            have HG := hide (good_is hg)
            rw [if_pos (.inr ⟨rfl, .inl hg⟩)] at hs
            replace hs := hide hs
            clear hg
            go_wp2_with first | (go_at_call 99; refine HX.out.mono ?_; rintro e w' ⟨rfl, rfl⟩) | (go_at_call 33; refine (HG.out _).mono ?_; rintro e w' ⟨rfl, rfl⟩)
            go_ret
            exact ⟨ret_int hs.out, rfl⟩
          | true =>
            have HG := hide (good_is hg)
            have hgf : ¬ litGood x = false := by rw [hg]; exact Bool.noConfusion
            by_cases h3 : 0 ≤ left
            · have d3 : decide (0 ≤ left) = true := decide_eq_true h3
              by_cases h4 : left = x
              · subst h4
                have d4 : (left != left) = false := by simp
                rw [if_neg (by rintro (h | ⟨_, h | ⟨_, h⟩⟩); omega; exact hgf h; exact h rfl), if_pos rfl] at hs
                replace hs := hide hs
                clear hg hgf
                go_wp2_with first | (go_at_call 99; refine HX.out.mono ?_; rintro e w' ⟨rfl, rfl⟩) | (go_at_call 33; refine (HG.out _).mono ?_; rintro e w' ⟨rfl, rfl⟩)
                go_roundw
                case rel => exact ⟨k + 1, left, hlt, by go_num, rfl, hs, trivial⟩
                case measure => simp [intOf]; omega
              · have d4 : (left != x) = true := by simp [h4]
                have d5 : (left == x) = false := by simp [h4]
                rw [if_pos (.inr ⟨rfl, .inr ⟨h3, h4⟩⟩)] at hs
                replace hs := hide hs
                clear hg hgf
                go_wp2_with first | (go_at_call 99; refine HX.out.mono ?_; rintro e w' ⟨rfl, rfl⟩) | (go_at_call 33; refine (HG.out _).mono ?_; rintro e w' ⟨rfl, rfl⟩)
                go_ret
                exact ⟨ret_int hs.out, rfl⟩
            · have d3 : decide (0 ≤ left) = false := decide_eq_false h3
              rw [if_neg (by rintro (h | ⟨_, h | ⟨h, _⟩⟩); omega; exact hgf h; exact h3 h), if_pos rfl] at hs
              replace hs := hide hs
              clear hg hgf
              go_wp2_with first | (go_at_call 99; refine HX.out.mono ?_; rintro e w' ⟨rfl, rfl⟩) | (go_at_call 33; refine (HG.out _).mono ?_; rintro e w' ⟨rfl, rfl⟩)
              go_roundw
              case rel => exact ⟨k + 1, x, hlt, by go_num, rfl, hs, trivial⟩
              case measure => simp [intOf]; omega
        · have e2 : (v == 2) = false := by simp [h2]
          rw [if_neg (by rintro (h | ⟨h, _⟩); exact h1 h; exact h2 h), if_neg h2] at hs
          replace hs := hide hs
          go_wp2_with (go_at_call 99; refine HX.out.mono ?_; rintro e w' ⟨rfl, rfl⟩)
          go_roundw
          case rel => exact ⟨k + 1, left, hlt, by go_num, rfl, hs, trivial⟩
          case measure => simp [intOf]; omega
    · have hkm : m = k := by omega
      subst hkm
      have hF := hide (show left = U by have := hu.out; rwa [List.drop_of_length_le (by have := hlen.out; omega)] at this)
      clear hu
      go_wp2
      go_ret
      exact ⟨ret_int hF.out, rfl⟩
theorem ref22_set {base : Nat} (A : Option Addr) (n c : Nat) (v : List Int) (x : Int) (w : World) (hn : n ≤ 1000000) (hown : w.ownsRow base 3 1 (.slice A n c) n (ivs v)) (hbase : base ≤ w.heap.size) (hg : litGood x = true) (hx : x / 2 < n) :
    Calls Try.prog 98 #[.slice A n c, .int .i64 x] w fun e w' => (∃ v0, e = .returned v0) ∧ w'.ownsRow base 3 1 (.slice A n c) n (ivs (setV v x)) ∧ Below base w w' := by
  have hnI : (n : Int) ≤ 1000000 := by omega
  obtain ⟨h0, h1⟩ := good_iff.1 hg
  obtain ⟨k, hk⟩ : ∃ k : Nat, x / 2 = (k : Int) := ⟨(x / 2).toNat, by omega⟩
  have hkn : k < n := by omega
  have hknI : (k : Int) < n := by omega
  rcases own_cases hown with ⟨_, h⟩ | ⟨g, cap, he, hbg, hgl, _, _⟩
  · omega
  · injection he with hA _ hc
    subst hA hc
    have hset := fun u => own_set hown k u
    have hfz := own_frozen hown k
    have hlen : v.length = n := by have := hown.1; simpa [ivs] using this
    have hcell : w.cell? ⟨g, k, none⟩ = some (.int .i64 (v.getD k 0)) := own_cell hown (by unfold ivs; rw [List.getElem?_map, List.getElem?_eq_getElem (by omega)]; simp [List.getD, show k < v.length by omega])
    have hS := hide (fun (u : Int) (hu : (if x % 2 = 1 then 0 else 1) = u) => show (w.setCell ⟨g, k, none⟩ (.int .i64 u)).ownsRow base 3 1 (.slice (some ⟨g, 0, none⟩) n c) n (ivs (setV v x)) ∧ Below base w (w.setCell ⟨g, k, none⟩ (.int .i64 u)) from ⟨by
      have := hset (.int .i64 u)
      unfold setV
      rw [hk, Int.toNat_natCast, hu]
      unfold ivs at this ⊢
      rw [List.map_set]
      exact this, (Below.refl base w).setCell hbg _⟩)
    clear hset hown hg
    by_cases h2 : x % 2 = 1
    · have ht : (x % 2 == 1) = true := by simpa using h2
      replace hS := hide (hS.out 0 (if_pos h2))
      clear h2
      go_enter Try.func98, Try.ntmps98
      go_wp2
      go_end0
      exact ⟨⟨_, rfl⟩, hS.out⟩
    · have ht : (x % 2 == 1) = false := by simpa using h2
      replace hS := hide (hS.out 1 (if_neg h2))
      clear h2
      go_enter Try.func98, Try.ntmps98
      go_wp2
      go_end0
      exact ⟨⟨_, rfl⟩, hS.out⟩
end Go.Proofs.Ytcjoohaagdihlaa.Learn
end

section
/- The document's Units, whole. -/
namespace Go.Proofs.Ytcjoohaagdihlaa.Learn
open Go.RowKit Go.Lt Go.Proofs.Ytcjoohaagdihlaa.Lit Go.Proofs.Ytcjoohaagdihlaa.Sorted
open Go.Proofs.Ytcjoohaagdihlaa.Kept (Sl Sl.val)
set_option linter.unusedVariables false
set_option linter.unusedSimpArgs false

/-- clauses in memory -/
def RdR (w : World) (A : Option Addr) (n : Nat) (rows : List (List Int)) : Prop :=
  rows.length = n ∧ ∀ k, k < n → ∃ ad row, ∃ s : Sl, A = some ad ∧ ad.block < w.heap.size ∧ rows[k]? = some row ∧ w.cell? (ad.add k) = some s.val ∧ Rd w s.A s.n (ivs row)
theorem RdR.below {w w' : World} {A : Option Addr} {n B : Nat} {rows : List (List Int)} (h : RdR w A n rows) (hb : Below B w w') (hB : w.heap.size ≤ B) : RdR w' A n rows :=
  ⟨h.1, fun k hk => by
    obtain ⟨ad, row, s, h1, h2, h3, h4, h5⟩ := h.2 k hk
    have hh : ad.block < B := Nat.lt_of_lt_of_le h2 hB
    exact ⟨ad, row, s, h1, Nat.lt_of_lt_of_le h2 hb.size, h3, (hb.cell (by rw [add_block]; exact hh)).trans h4, h5.below hb hB⟩⟩
def UnitsV (n : Nat) (r : Option (List Int)) (e : Ending) (w' : World) : Prop :=
  match r with
  | none => e = .returned (.tuple #[.slice none 0 0, .bool false])
  | some out => ∃ A' c', e = .returned (.tuple #[.slice A' n c', .bool true]) ∧ Rd w' A' n (ivs out)
def UnitsO (n : Nat) (w : World) (r : Option (List Int)) (e : Ending) (w' : World) : Prop :=
  match r with
  | none => e = .returned (.tuple #[.slice none 0 0, .bool false])
  | some out => ∃ A' c', e = .returned (.tuple #[.slice A' n c', .bool true]) ∧ w'.ownsRow w.heap.size 3 1 (.slice A' n c') n (ivs out)
set_option maxHeartbeats 2000000 in
theorem ref22_UnitsO (A : Option Addr) (n c : Nat) (vals : List Int) (B : Option Addr) (m d : Nat) (rows : List (List Int)) (w : World) (hn : n ≤ 1000000) (hr : Rd w A n (ivs vals)) (hm : m ≤ 1000000) (hrr : RdR w B m rows)
    (hsz : ∀ row ∈ rows, row.length ≤ 1000000) (hin : ∀ row ∈ rows, ∀ x ∈ row, litGood x = true → x / 2 < n) :
    Calls Try.prog 35 #[.slice A n c, .slice B m d] w fun e w' => ∃ r, UnitsIs rows vals r ∧ UnitsO n w r e w' ∧ Below w.heap.size w w' := by
  have hmI : (m : Int) ≤ 1000000 := by omega
  have hlen := hide hrr.1
  have hvl := hide hr.len
  replace hsz := hide hsz
  replace hin := hide hin
  go_enter Try.func35, Try.ntmps35
  go_wp2_with (at_builtin; refine wpList_fresh rfl _ _ rfl (by rfl) (by rfl) hr (by omega) ?_; intro v1 w1 hown1 hb1; obtain ⟨A2, c2, rfl, _, _, _⟩ := Rd.of_own hown1)
  replace hown1 := hide hown1
  replace hb1 := hide hb1
  clear hr
  go_loopg [7] (openN vals) (fun gk s7 wr => ∃ cur : List Int, cur.length = n ∧ openN cur ≤ gk ∧ Hid (∀ r, UnitsIs rows cur r → UnitsIs rows vals r) ∧ Hid (wr.ownsRow w.heap.size 3 1 (.slice A2 n c2) n (ivs cur)) ∧ Hid (Below w.heap.size w wr))
  case atStart => exact ⟨vals, hvl.out, Nat.le_refl _, hide (fun _ h => h), hown1, hb1⟩
  case round =>
    obtain ⟨cur, hcl, hgk, hU, hown, hb⟩ := hrel
    clear hown1 hb1
    obtain ⟨gO, hgO⟩ : ∃ gO, gO = gk := ⟨_, rfl⟩
    subst hgO
    go_wp2
    go_loopg [7, 8] m (fun gk s7 s8 wr => ∃ (k : Nat) (cu : List Int) (mb : Bool), k ≤ m ∧ m - k ≤ gk ∧ s8 = .int .i64 k ∧ s7 = .bool mb ∧ cu.length = n ∧ Hid (passTo cur false rows k cu mb) ∧ Hid (wr.ownsRow w.heap.size 3 1 (.slice A2 n c2) n (ivs cu)) ∧ Hid (Below w.heap.size w wr) ∧ Hid (openN cu ≤ openN cur ∧ (mb = true → openN cu < openN cur)))
    case atStart => exact ⟨0, cur, false, Nat.zero_le _, Nat.le_refl _, rfl, rfl, hcl, hide (pass_zero _ _ _), hown, hb, hide ⟨Nat.le_refl _, fun h => by cases h⟩⟩
    case round =>
      obtain ⟨k, cu, mb, hk, hkg, rfl, rfl, hcul, hpt, hown2, hb2, hop⟩ := hrel
      clear hown hb
      have hkI : (k : Int) ≤ 1000000 := by omega
      by_cases hlt : k < m
      · have hltI : (k : Int) < m := by omega
        obtain ⟨ad, row, s, rfl, hB, hx, hcx, hrow⟩ := (hrr.below hb2.out (Nat.le_refl _)).2 k hlt
        have hmem := List.mem_of_getElem? hx
        have hrl := hsz.out row hmem
        have hri := hide (hin.out row hmem)
        obtain ⟨sA, sn, sc⟩ := s
        simp only [Sl.val] at hcx hrow
        have hsn : sn ≤ 1000000 := by have := hrow.len; omega
        obtain ⟨_, _, he, _, _, hrd⟩ := Rd.of_own hown2.out
        injection he with he1 _ he2
        subst he1 he2
        have HV := hide (ref20_Value A2 n c2 cu sA sn sc row wr hn hrd hsn hrow)
        obtain ⟨v, hv⟩ : ∃ v, valG (litV cu) 0 row = v := ⟨_, rfl⟩
        rw [hv] at HV
        by_cases h0 : v = 0
        · subst h0
          have hF := hide (hU.out none (.no (pass_no hpt.out hx hv)))
          clear hx hv hpt hrd hrow
          go_wp2_with fail
          refine HV.out.mono ?_
          rintro e w5 ⟨rfl, rfl⟩
          go_wp2
          go_ret2
          exact ⟨none, hF.out, rfl, hb2.out⟩
        · have e0 : (v == 0) = false := by simp [h0]
          have hv0 : ¬ valG (litV cu) 0 row = 0 := by rw [hv]; exact h0
          have HU := hide (ref20_Unit A2 n c2 cu sA sn sc row wr hn hrd hsn hrow)
          obtain ⟨u, hu⟩ : ∃ u, uOf cu row = u := ⟨_, rfl⟩
          rw [hu] at HU
          by_cases h1 : 1 < u
          · have d1 : decide (1 < u) = true := decide_eq_true h1
            have h1' : 1 < uOf cu row := by rw [hu]; exact h1
            obtain ⟨hum, hu2, hug⟩ := unit_in h1'
            have huin := hri.out _ hum hug
            have hos := open_set hug h1' (by omega) hu2
            have hpN := pass_set hpt.out hx hv0 h1'
            rw [hu] at huin hug hos hpN
            have HS := hide (ref22_set A2 n c2 cu u wr hn hown2.out hb2.out.size hug huin)
            have hoN := hide (show openN (setV cu u) ≤ openN cur ∧ (true = true → openN (setV cu u) < openN cur) from ⟨by have := hop.out.1; omega, fun _ => by have := hop.out.1; omega⟩)
            replace hpN := hide hpN
            have hcN : (setV cu u).length = n := by rw [setV_len]; exact hcul
            clear hx hv hu hpt hrd hrow hum hu2 hug huin hos h1' hv0 hop
            go_wp2_with fail
            refine HV.out.mono ?_
            rintro e w5 ⟨rfl, rfl⟩
            go_wp2_with fail
            refine HU.out.mono ?_
            rintro e w5 ⟨rfl, rfl⟩
            go_wp2_with fail
            refine HS.out.mono ?_
            rintro e w5 ⟨⟨v0, rfl⟩, hown5, hb5⟩
            have hbN := hide (hb2.out.trans hb5)
            replace hown5 := hide hown5
            clear hb5
            go_wp2
            go_roundg (m - (k + 1))
            case measure => omega
            case rel => exact ⟨k + 1, _, true, hlt, Nat.le_refl _, by go_num, rfl, hcN, hpN, hown5, hbN, hide ⟨hoN.out.1, fun _ => hoN.out.2 trivial⟩⟩
          · have d1 : decide (1 < u) = false := decide_eq_false h1
            have hpN := hide (pass_next hpt.out hx hv0 (by rw [hu]; exact h1))
            clear hx hv hu hpt hrd hrow hv0
            go_wp2_with fail
            refine HV.out.mono ?_
            rintro e w5 ⟨rfl, rfl⟩
            go_wp2_with fail
            refine HU.out.mono ?_
            rintro e w5 ⟨rfl, rfl⟩
            go_wp2
            go_roundg (m - (k + 1))
            case measure => omega
            case rel => exact ⟨k + 1, _, mb, hlt, Nat.le_refl _, by go_num, rfl, hcul, hpN, hown2, hb2, hop⟩
      · have hkm : m = k := by omega
        subst hkm
        have hpe := pass_end hpt.out hlen.out.symm
        clear hpt
        cases mb with
        | false =>
          have hF := hide (hU.out _ (.done hpe))
          clear hpe
          go_wp2
          go_ret2
          exact ⟨_, hF.out, ⟨A2, c2, rfl, hown2.out⟩, hb2.out⟩
        | true =>
          have hUN := hide (fun r h => hU.out r (.more hpe h))
          clear hpe hU
          go_wp2
          go_roundg (openN cu)
          case measure => have := hop.out.2 trivial; omega
          case rel => exact ⟨cu, hcul, Nat.le_refl _, hUN, hown2, hb2⟩
theorem ref22_Units (A : Option Addr) (n c : Nat) (vals : List Int) (B : Option Addr) (m d : Nat) (rows : List (List Int)) (w : World) (hn : n ≤ 1000000) (hr : Rd w A n (ivs vals)) (hm : m ≤ 1000000) (hrr : RdR w B m rows)
    (hsz : ∀ row ∈ rows, row.length ≤ 1000000) (hin : ∀ row ∈ rows, ∀ x ∈ row, litGood x = true → x / 2 < n) :
    Calls Try.prog 35 #[.slice A n c, .slice B m d] w fun e w' => ∃ r, UnitsIs rows vals r ∧ UnitsV n r e w' ∧ Below w.heap.size w w' := by
  refine (ref22_UnitsO A n c vals B m d rows w hn hr hm hrr hsz hin).mono ?_
  rintro e w' ⟨r, h1, h2, h3⟩
  refine ⟨r, h1, ?_, h3⟩
  cases r with
  | none => exact h2
  | some out =>
    obtain ⟨A', c', he, ho⟩ := h2
    obtain ⟨A3, c3, e3, _, _, hrd⟩ := Rd.of_own ho
    injection e3 with e4 _ e5
    subst e4 e5
    exact ⟨A', c', he, hrd⟩
end Go.Proofs.Ytcjoohaagdihlaa.Learn
end

section
/- A store of kept cubes goes through those that it keeps. -/
namespace Go.Proofs.Ytcjoohaagdihlaa.Kept
open Go.RowKit Go.Shelf Go.Lt
set_option linter.unusedVariables false
set_option linter.unusedSimpArgs false
attribute [local go_sem] Oper.semAt_some

/-- what yield is handed: a place, and what is kept there -/
def zKv : Kv := ⟨⟨none, 0, 0⟩, 0, ⟨none, 0, 0⟩⟩
def kvAt (L : List Kv) (i : Nat) : Kv := L.getD i zKv
def encsF (L : List Kv) (i : Fin L.length) : Array Value := #[.int .i64 (i.1 : Int), .agg (kvAt L i.1).cells]
def upF (n k : Nat) : List (Fin n) := (List.finRange n).take k
theorem upF_succ {n k : Nat} (h : k < n) : upF n (k + 1) = upF n k ++ [⟨k, h⟩] := by
  unfold upF
  rw [List.take_add_one, List.getElem?_eq_getElem (by simpa using h)]
  simp
theorem upF_len {n k : Nat} (h : k ≤ n) : (upF n k).length = k := by unfold upF; simp [h]
theorem upF_all (n : Nat) : upF n n = List.finRange n := by unfold upF; rw [List.take_of_length_le (by simp)]
theorem upF_mem {n k : Nat} {i : Fin n} (h : i ∈ upF n k) : i.1 < k := by
  unfold upF at h
  obtain ⟨j, hj, he⟩ := List.mem_take_iff_getElem.1 h
  simp at he hj
  rw [← he]; simp; omega
set_option maxRecDepth 100000 in
set_option maxHeartbeats 2000000 in
theorem all1_in (F : Fence) (n : Nat) (hf : F.fn 134) (hro : F.round = none) (hn : 1 ≤ n) (l Bs n₀ p c : Nat) (ad : Option Addr) (L : List Kv) (hm : L.length ≤ 1000000) (J Jx : List (Fin L.length) → World → Prop)
    (hJ : ∀ s W o, J s W → J s (W.alloc o))
    (hY : ∀ pre x W, J pre W → pre.length < L.length → YieldAt F (n - 1) Try.prog l (encsF L x) W fun e W' =>
      (e = .returned (.bool true) ∧ J (pre ++ [x]) W' ∧ Below n₀ W W') ∨ (e = .returned (.bool false) ∧ Jx (pre ++ [x]) W'))
    (W : World) (hn₀ : n₀ ≤ W.heap.size) (hBs : W.cell? ⟨Bs, 0, none⟩ = some (.pointer (some ⟨p, 0, none⟩))) (hp : W.cell? ⟨p, 0, none⟩ = some (.slice ad L.length c)) (hr : RdK W ad L.length L) (hlow : ∀ a, ad = some a → a.block < n₀) (h0 : J [] W) :
    CallsIn F n Try.prog 134 #[.func (.yield l) #[] #[], .pointer (some ⟨Bs, 0, none⟩)] W fun e W' => (∃ v, e = .returned v) ∧
      ((∃ ys, ys = upF L.length L.length ∧ J ys W') ∨ (∃ pre, (∃ k, k ≤ L.length ∧ pre = upF L.length k) ∧ Jx pre W')) := by
  obtain ⟨m, hmL⟩ : ∃ m, L.length = m := ⟨_, rfl⟩
  refine callsIn_of_wp Try.func134 rfl hf ?_ hro
  simp only [Try.ntmps134, List.size_toArray, List.length_cons, List.length_nil, Nat.reduceAdd, Nat.reduceSub, Array.replicate_succ, Array.replicate_zero, List.push_toArray, List.append_toArray, List.nil_append, List.cons_append]
  have hmI : (L.length : Int) ≤ 1000000 := by omega
  gi_wp2
  gi_loopw [12] (fun i wr => ∃ k : Nat, k ≤ L.length ∧ i = .int .i64 k ∧ J (upF L.length k) wr ∧ Below n₀ W wr ∧ W.heap.size ≤ wr.heap.size)
    (fun i _ => L.length - (intOf i).toNat)
  case atStart => exact ⟨0, Nat.zero_le _, rfl, h0, Below.refl _ _, Nat.le_refl _⟩
  case round =>
    obtain ⟨k, hk, rfl, hJs, hnx, hsz⟩ := hrel
    have hkI : (k : Int) ≤ 1000000 := by omega
    by_cases hlt : k < L.length
    · have hltI : (k : Int) < L.length := by omega
      obtain ⟨a, x, rfl, hB, hx, c0, c1, c2⟩ := hr.get hlt
      have hlo := hlow a rfl
      have c0 := (hnx.cell (p := a.add (k * 3)) (by rw [add_block]; exact hlo)).trans c0
      have c1 := (hnx.cell (p := ⟨(a.add (k * 3)).block, (a.add (k * 3)).off + 1, none⟩) (by rw [add_block]; exact hlo)).trans c1
      have c2 := (hnx.cell (p := ⟨(a.add (k * 3)).block, (a.add (k * 3)).off + 2, none⟩) (by rw [add_block]; exact hlo)).trans c2
      obtain ⟨fn, tmps, assign, body, hy, hR⟩ := hY _ ⟨k, hlt⟩ (wr.alloc (.cells x.cells 66)) (hJ _ _ _ hJs) (by rw [upF_len (by omega)]; exact hlt)
      have hx' : kvAt L k = x := by unfold kvAt; rw [List.getD_eq_getElem?_getD, hx]; rfl
      unfold encsF at hy
      rw [hx'] at hy
      dsimp only at hy
      gi_wp2
      refine hR.mono ?_
      rintro e W3 (⟨rfl, hJ3, hk3⟩ | ⟨rfl, hJx3⟩)
      · gi_wp2
        go_roundw
        case rel => exact ⟨k + 1, by omega, by simp, by rw [upF_succ hlt]; exact hJ3, (hnx.alloc (Nat.le_trans hn₀ hsz) _).trans hk3, Nat.le_trans hsz (Nat.le_trans (by simp) hk3.size)⟩
        case measure => simp [intOf]; omega
      · gi_wp2
        refine bodyPost_ret (results_none rfl _ _ _) rfl ?_
        exact ⟨⟨_, rfl⟩, .inr ⟨_, ⟨k + 1, by omega, (upF_succ hlt).symm⟩, hJx3⟩⟩
    · obtain rfl : k = L.length := by omega
      gi_wp2
      go_end0
      exact ⟨⟨_, rfl⟩, .inl ⟨_, rfl, hJs⟩⟩
set_option maxRecDepth 100000 in
set_option maxHeartbeats 1000000 in
/-- .. of a nil store: no round -/
theorem all1_none (F : Fence) (n : Nat) (hf : F.fn 134) (hro : F.round = none) (l Bs : Nat) (J : World → Prop) (W : World) (hBs : W.cell? ⟨Bs, 0, none⟩ = some (.pointer none)) (h0 : J W) :
    CallsIn F n Try.prog 134 #[.func (.yield l) #[] #[], .pointer (some ⟨Bs, 0, none⟩)] W fun e W' => (∃ v, e = .returned v) ∧ J W' := by
  refine callsIn_of_wp Try.func134 rfl hf ?_ hro
  simp only [Try.ntmps134, List.size_toArray, List.length_cons, List.length_nil, Nat.reduceAdd, Nat.reduceSub, Array.replicate_succ, Array.replicate_zero, List.push_toArray, List.append_toArray, List.nil_append, List.cons_append]
  gi_wp2
  refine bodyPost_ret (results_none rfl _ _ _) rfl ?_
  exact ⟨⟨_, rfl⟩, h0⟩
set_option maxHeartbeats 1000000 in
/-- the store's sequence: its pointer is boxed -/
theorem all_in (F : Fence) (n : Nat) (hf : F.fn 101) (hro : F.round = none) (p : Option Addr) (w : World) :
    CallsIn F n Try.prog 101 #[.pointer p] w fun e w' => e = .returned (.func (.func 134) #[] #[.pointer (some ⟨w.heap.size, 0, none⟩)]) ∧ w' = w.alloc (.cells #[.pointer p] 61) := by
  refine callsIn_of_wp Try.func101 rfl hf ?_ hro
  simp only [Try.ntmps101, List.size_toArray, List.length_cons, List.length_nil, Nat.reduceAdd, Nat.reduceSub, Array.replicate_succ, Array.replicate_zero, List.push_toArray, List.append_toArray, List.nil_append, List.cons_append]
  gi_wp2
  go_ret
  exact ⟨rfl, rfl⟩
/-- what a store keeps: a slice of them in a cell of its own, all of it below n₀; or there is no store -/
def Keeps (n₀ : Nat) (W : World) (q : Option Addr) (L : List Kv) : Prop :=
  (q = none ∧ L = []) ∨ ∃ p A m c, q = some ⟨p, 0, none⟩ ∧ p < n₀ ∧ W.cell? ⟨p, 0, none⟩ = some (.slice A m c) ∧ RdK W A m L ∧ ∀ a, A = some a → a.block < n₀
theorem Keeps.below {n₀ : Nat} {A B : World} {q : Option Addr} {L : List Kv} (h : Keeps n₀ A q L) (hb : Below n₀ A B) (hn : A.heap.size ≤ B.heap.size) : Keeps n₀ B q L := by
  rcases h with h | ⟨p, a, m, c, h1, h2, h3, h4, h5⟩
  · exact .inl h
  · refine .inr ⟨p, a, m, c, h1, h2, (hb.cell (p := ⟨p, 0, none⟩) h2).trans h3, ⟨h4.1, fun k hk => ?_⟩, h5⟩
    obtain ⟨ad, x, g1, g2, g3, g4, g6, g7⟩ := h4.2 k hk
    have hl := h5 ad g1
    exact ⟨ad, x, g1, Nat.lt_of_lt_of_le g2 hn, g3, (hb.cell (by rw [add_block]; exact hl)).trans g4, (hb.cell (by rw [add_block]; exact hl)).trans g6, (hb.cell (by rw [add_block]; exact hl)).trans g7⟩
theorem all_stops (F : Fence) (n : Nat) (hf : F.fn 134) (hro : F.round = none) (hn : 1 ≤ n) (Bs n₀ : Nat) (q : Option Addr) (L : List Kv) (hm : L.length ≤ 1000000) (w : World) (hBs : Bs < w.heap.size) (hn₀ : n₀ ≤ w.heap.size)
    (hc : w.cell? ⟨Bs, 0, none⟩ = some (.pointer q)) (hI : Keeps n₀ w q L) :
    SeqStopsK F n Try.prog 134 #[.pointer (some ⟨Bs, 0, none⟩)] (encsF L) (Below n₀) (fun ys => ys = upF L.length L.length) (fun pre => ∃ k, k ≤ L.length ∧ pre = upF L.length k) L.length w := fun l J Jx W hW hJ _ hY h0 => by
  have hc' := (hW.cell (p := ⟨Bs, 0, none⟩) hBs).trans hc
  have hal : ∀ s W o, J s W → J s (W.alloc o) := fun s W o h => hJ s W _ none h (World.grownBy_alloc W o none) (fun r e => by cases e)
  rcases hI.below (hW.mono hn₀) hW.size with ⟨rfl, rfl⟩ | ⟨p, A, m, c, rfl, hp, h3, h4, h5⟩
  · exact (all1_none F n hf hro l Bs (J []) W hc' h0).mono fun e W' ⟨he, hj⟩ => ⟨he, .inl ⟨_, rfl, hj⟩⟩
  · have hlm := h4.1
    subst hlm
    exact all1_in F n hf hro hn l Bs n₀ p c A L hm J Jx hal hY W (Nat.le_trans hn₀ hW.size) hc' h3 h4 h5 h0
end Go.Proofs.Ytcjoohaagdihlaa.Kept
end

section
/- A slice's copy in memory of its own. -/
namespace Go.Proofs.Ytcjoohaagdihlaa.Kept
open Go.RowKit Go.Lt
set_option linter.unusedVariables false
set_option linter.unusedSimpArgs false

theorem k_int : (Try.prog.info? 3).map (fun i => (i.zero, i.size, i.bytes)) = some (some (.int .i64 0), 1, 8) := by kernel_rfl
theorem k_bool : (Try.prog.info? 4).map (fun i => (i.zero, i.size, i.bytes)) = some (some (.bool false), 1, 1) := by kernel_rfl
theorem k_kept : (Try.prog.info? 66).map (fun i => (i.zero, i.size, i.bytes)) = some (some (.agg #[.slice none 0 0, .int .i64 0, .slice none 0 0]), 3, 56) := by kernel_rfl
theorem k_ints : (Try.prog.info? 40).map (fun i => (i.zero, i.size, i.bytes)) = some (some (.slice none 0 0), 1, 24) := by kernel_rfl

set_option maxRecDepth 8000 in
set_option maxHeartbeats 1000000 in
theorem clone_ints (A : Option Addr) (n c : Nat) (l : List Int) (w : World) (hr : Rd w A n (l.map (Value.int .i64))) (hn : n ≤ 1000000) :
    Calls Try.prog 108 #[.slice A n c] w fun e w' => ∃ v, e = .returned v ∧ w'.ownsRow w.heap.size 3 1 v l.length (l.map (Value.int .i64)) ∧ Below w.heap.size w w' := by
  have hl := hr.len
  subst hl
  have q22 : ∀ (w : World) (a : Option Addr) (n c n' c' : Nat), (binOp .eql 40 (.slice a n c) (.slice none n' c')).run Try.prog w = .ok (.bool a.isNone) w := fun w a n c n' c' => Lib.run_eql_slice_nil w _ 3 a n c n' c' (by kernel_rfl)
  go_enter Try.func108, Try.ntmps108
  rcases A with _ | ad
  · have h0 := hr.none
    have : l = [] := List.eq_nil_of_length_eq_zero h0
    subst this
    go_wp2
    go_ret
    exact ⟨_, rfl, ⟨by simp, .inl ⟨rfl, rfl⟩⟩, Below.refl _ _⟩
  · go_wp2_with (at_builtin; refine wpList_append_rd (w0 := w) (base := w.heap.size) rfl _ _ _ rfl (by kernel_rfl) k_int rfl rfl rfl (LitAt.new w _ _ (Nat.le_refl _)).own (Below.alloc (Below.refl _ _) (Nat.le_refl _) _) (by simp) (hr.below (Below.alloc (Below.refl w.heap.size w) (Nat.le_refl _) _) (Nat.le_refl _)) (by intro u hu; obtain ⟨x, _, rfl⟩ := List.mem_map.1 hu; rfl) (by unfold maxLen; omega) (by omega) ?_; intro v' w' hown hb; simp only [Nat.zero_add, List.nil_append] at hown)
    go_ret
    exact ⟨_, rfl, hown, hb⟩
set_option maxRecDepth 8000 in
set_option maxHeartbeats 1000000 in
theorem clone_bools (A : Option Addr) (n c : Nat) (l : List Bool) (w : World) (hr : Rd w A n (l.map Value.bool)) (hn : n ≤ 1000000) :
    Calls Try.prog 136 #[.slice A n c] w fun e w' => ∃ v, e = .returned v ∧ w'.ownsRow w.heap.size 4 1 v l.length (l.map Value.bool) ∧ Below w.heap.size w w' := by
  have hl := hr.len
  subst hl
  have q22 : ∀ (w : World) (a : Option Addr) (n c n' c' : Nat), (binOp .eql 59 (.slice a n c) (.slice none n' c')).run Try.prog w = .ok (.bool a.isNone) w := fun w a n c n' c' => Lib.run_eql_slice_nil w _ 4 a n c n' c' (by kernel_rfl)
  go_enter Try.func136, Try.ntmps136
  rcases A with _ | ad
  · have h0 := hr.none
    have : l = [] := List.eq_nil_of_length_eq_zero h0
    subst this
    go_wp2
    go_ret
    exact ⟨_, rfl, ⟨by simp, .inl ⟨rfl, rfl⟩⟩, Below.refl _ _⟩
  · go_wp2_with (at_builtin; refine wpList_append_rd (w0 := w) (base := w.heap.size) rfl _ _ _ rfl (by kernel_rfl) k_bool rfl rfl rfl (LitAt.new w _ _ (Nat.le_refl _)).own (Below.alloc (Below.refl _ _) (Nat.le_refl _) _) (by simp) (hr.below (Below.alloc (Below.refl w.heap.size w) (Nat.le_refl _) _) (Nat.le_refl _)) (by intro u hu; obtain ⟨x, _, rfl⟩ := List.mem_map.1 hu; rfl) (by unfold maxLen; omega) (by omega) ?_; intro v' w' hown hb; simp only [Nat.zero_add, List.nil_append] at hown)
    go_ret
    exact ⟨_, rfl, hown, hb⟩
end Go.Proofs.Ytcjoohaagdihlaa.Kept
end
