/- The document's Units: all that clauses say of values. -/
import Derived.Test.YtcjoohaagdihlaaUnits2
import Derived.Test.YtcjoohaagdihlaaMem3
import Derived.Test.YtcjoohaagdihlaaKept0
import Derived.Deep.LoopGhost
namespace Go.Proofs.Ytcjoohaagdihlaa.Learn
open Go.RowKit Go.Lt Go.Proofs.Ytcjoohaagdihlaa.Lit Go.Proofs.Ytcjoohaagdihlaa.Sorted
open Go.Proofs.Ytcjoohaagdihlaa.Kept (Sl Sl.val)
set_option linter.unusedVariables false
set_option linter.unusedSimpArgs false

theorem drop_one {α : Type} {cs : List α} {k : Nat} {c : α} (hc : cs[k]? = some c) : cs.drop k = c :: cs.drop (k + 1) := by
  obtain ⟨h, e⟩ := List.getElem?_eq_some_iff.1 hc
  rw [List.drop_eq_getElem_cons h, e]
theorem unitG_cons {V : Int → Int} {left x : Int} {c : List Int} : unitG V left (x :: c) = if V x = 1 ∨ (V x = 2 ∧ (litGood x = false ∨ (0 ≤ left ∧ left ≠ x))) then -1 else unitG V (if V x = 2 then x else left) c := rfl
set_option maxHeartbeats 1000000 in
theorem ref20_Unit (A : Option Addr) (n c : Nat) (vals : List Int) (B : Option Addr) (m d : Nat) (cl : List Int) (w : World) (hn : n ≤ 1000000) (hr : Rd w A n (ivs vals)) (hm : m ≤ 1000000) (hrc : Rd w B m (ivs cl)) :
    Calls Try.prog 97 #[.slice A n c, .slice B m d] w fun e w' => e = .returned (.int .i64 (uOf vals cl)) ∧ w = w' := by
  have hmI : (m : Int) ≤ 1000000 := by omega
  have hlen := hide hrc.len
  unfold uOf
  obtain ⟨V, hV⟩ : ∃ V, litV vals = V := ⟨_, rfl⟩
  have HL := hide (fun (x : Int) => ref3_Lit A n c vals x w hn hr)
  rw [hV] at HL ⊢
  clear hV hr
  obtain ⟨U, hU⟩ : ∃ U, unitG V (-1) cl = U := ⟨_, rfl⟩
  rw [hU]
  go_enter Try.func97, Try.ntmps97
  go_wp2
  go_loopw [5, 6] (fun o i wr => ∃ (k : Nat) (left : Int), k ≤ m ∧ i = .int .i64 k ∧ o = .int .i64 left ∧ Hid (unitG V left (cl.drop k) = U) ∧ w = wr) (fun _ i _ => m - (intOf i).toNat)
  case atStart => exact ⟨0, -1, Nat.zero_le _, rfl, rfl, hide hU, rfl⟩
  case round =>
    obtain ⟨k, left, hk, rfl, rfl, hu, rfl⟩ := hrel
    clear hU
    have hkI : (k : Int) ≤ 1000000 := by omega
    by_cases hlt : k < m
    · obtain ⟨ad, x, rfl, hB, hx, hcx⟩ := hrc.get hlt
      have HX := HL.out x
      have hs := hu.out
      rw [drop_one hx, unitG_cons] at hs
      obtain ⟨v, hv⟩ : ∃ v, V x = v := ⟨_, rfl⟩
      rw [hv] at HX hs
      replace HX := hide HX
      have hltI : (k : Int) < m := by omega
      clear hx hv hu
      by_cases h1 : v = 1
      · subst h1
        rw [if_pos (.inl rfl)] at hs
        replace hs := hide hs
        go_wp2_with (go_at_call 99; refine HX.out.mono ?_; rintro e w' ⟨rfl, rfl⟩)
        go_ret
        exact ⟨ret_int hs.out, rfl⟩
      · have e1 : (v == 1) = false := by simp [h1]
        by_cases h2 : v = 2
        · subst h2
          cases hg : litGood x with
          | false =>
            have HG := hide (good_is hg)
            rw [if_pos (.inr ⟨rfl, .inl hg⟩)] at hs
            replace hs := hide hs
            clear hg
            go_wp2_with first | (go_at_call 99; refine HX.out.mono ?_; rintro e w' ⟨rfl, rfl⟩) | (go_at_call 33; refine (HG.out _).mono ?_; rintro e w' ⟨rfl, rfl⟩)
            go_ret
            exact ⟨ret_int hs.out, rfl⟩
          | true =>
            have HG := hide (good_is hg)
            have hgf : ¬ litGood x = false := by rw [hg]; exact Bool.noConfusion
            by_cases h3 : 0 ≤ left
            · have d3 : decide (0 ≤ left) = true := decide_eq_true h3
              by_cases h4 : left = x
              · subst h4
                have d4 : (left != left) = false := by simp
                rw [if_neg (by rintro (h | ⟨_, h | ⟨_, h⟩⟩); omega; exact hgf h; exact h rfl), if_pos rfl] at hs
                replace hs := hide hs
                clear hg hgf
                go_wp2_with first | (go_at_call 99; refine HX.out.mono ?_; rintro e w' ⟨rfl, rfl⟩) | (go_at_call 33; refine (HG.out _).mono ?_; rintro e w' ⟨rfl, rfl⟩)
                go_roundw
                case rel => exact ⟨k + 1, left, hlt, by go_num, rfl, hs, trivial⟩
                case measure => simp [intOf]; omega
              · have d4 : (left != x) = true := by simp [h4]
                have d5 : (left == x) = false := by simp [h4]
                rw [if_pos (.inr ⟨rfl, .inr ⟨h3, h4⟩⟩)] at hs
                replace hs := hide hs
                clear hg hgf
                go_wp2_with first | (go_at_call 99; refine HX.out.mono ?_; rintro e w' ⟨rfl, rfl⟩) | (go_at_call 33; refine (HG.out _).mono ?_; rintro e w' ⟨rfl, rfl⟩)
                go_ret
                exact ⟨ret_int hs.out, rfl⟩
            · have d3 : decide (0 ≤ left) = false := decide_eq_false h3
              rw [if_neg (by rintro (h | ⟨_, h | ⟨h, _⟩⟩); omega; exact hgf h; exact h3 h), if_pos rfl] at hs
              replace hs := hide hs
              clear hg hgf
              go_wp2_with first | (go_at_call 99; refine HX.out.mono ?_; rintro e w' ⟨rfl, rfl⟩) | (go_at_call 33; refine (HG.out _).mono ?_; rintro e w' ⟨rfl, rfl⟩)
              go_roundw
              case rel => exact ⟨k + 1, x, hlt, by go_num, rfl, hs, trivial⟩
              case measure => simp [intOf]; omega
        · have e2 : (v == 2) = false := by simp [h2]
          rw [if_neg (by rintro (h | ⟨h, _⟩); exact h1 h; exact h2 h), if_neg h2] at hs
          replace hs := hide hs
          go_wp2_with (go_at_call 99; refine HX.out.mono ?_; rintro e w' ⟨rfl, rfl⟩)
          go_roundw
          case rel => exact ⟨k + 1, left, hlt, by go_num, rfl, hs, trivial⟩
          case measure => simp [intOf]; omega
    · have hkm : m = k := by omega
      subst hkm
      have hF := hide (show left = U by have := hu.out; rwa [List.drop_of_length_le (by have := hlen.out; omega)] at this)
      clear hu
      go_wp2
      go_ret
      exact ⟨ret_int hF.out, rfl⟩
theorem ref22_set {base : Nat} (A : Option Addr) (n c : Nat) (v : List Int) (x : Int) (w : World) (hn : n ≤ 1000000) (hown : w.ownsRow base 3 1 (.slice A n c) n (ivs v)) (hbase : base ≤ w.heap.size) (hg : litGood x = true) (hx : x / 2 < n) :
    Calls Try.prog 98 #[.slice A n c, .int .i64 x] w fun e w' => (∃ v0, e = .returned v0) ∧ w'.ownsRow base 3 1 (.slice A n c) n (ivs (setV v x)) ∧ Below base w w' := by
  have hnI : (n : Int) ≤ 1000000 := by omega
  obtain ⟨h0, h1⟩ := good_iff.1 hg
  obtain ⟨k, hk⟩ : ∃ k : Nat, x / 2 = (k : Int) := ⟨(x / 2).toNat, by omega⟩
  have hkn : k < n := by omega
  have hknI : (k : Int) < n := by omega
  rcases own_cases hown with ⟨_, h⟩ | ⟨g, cap, he, hbg, hgl, _, _⟩
  · omega
  · injection he with hA _ hc
    subst hA hc
    have hset := fun u => own_set hown k u
    have hfz := own_frozen hown k
    have hlen : v.length = n := by have := hown.1; simpa [ivs] using this
    have hcell : w.cell? ⟨g, k, none⟩ = some (.int .i64 (v.getD k 0)) := own_cell hown (by unfold ivs; rw [List.getElem?_map, List.getElem?_eq_getElem (by omega)]; simp [List.getD, show k < v.length by omega])
    have hS := hide (fun (u : Int) (hu : (if x % 2 = 1 then 0 else 1) = u) => show (w.setCell ⟨g, k, none⟩ (.int .i64 u)).ownsRow base 3 1 (.slice (some ⟨g, 0, none⟩) n c) n (ivs (setV v x)) ∧ Below base w (w.setCell ⟨g, k, none⟩ (.int .i64 u)) from ⟨by
      have := hset (.int .i64 u)
      unfold setV
      rw [hk, Int.toNat_natCast, hu]
      unfold ivs at this ⊢
      rw [List.map_set]
      exact this, (Below.refl base w).setCell hbg _⟩)
    clear hset hown hg
    by_cases h2 : x % 2 = 1
    · have ht : (x % 2 == 1) = true := by simpa using h2
      replace hS := hide (hS.out 0 (if_pos h2))
      clear h2
      go_enter Try.func98, Try.ntmps98
      go_wp2
      go_end0
      exact ⟨⟨_, rfl⟩, hS.out⟩
    · have ht : (x % 2 == 1) = false := by simpa using h2
      replace hS := hide (hS.out 1 (if_neg h2))
      clear h2
      go_enter Try.func98, Try.ntmps98
      go_wp2
      go_end0
      exact ⟨⟨_, rfl⟩, hS.out⟩
end Go.Proofs.Ytcjoohaagdihlaa.Learn
