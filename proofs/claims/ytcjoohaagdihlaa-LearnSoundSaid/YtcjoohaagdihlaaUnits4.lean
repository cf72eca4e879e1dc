/- The document's Units, whole. -/
import Derived.Test.YtcjoohaagdihlaaUnits3
namespace Go.Proofs.Ytcjoohaagdihlaa.Learn
open Go.RowKit Go.Lt Go.Proofs.Ytcjoohaagdihlaa.Lit Go.Proofs.Ytcjoohaagdihlaa.Sorted
open Go.Proofs.Ytcjoohaagdihlaa.Kept (Sl Sl.val)
set_option linter.unusedVariables false
set_option linter.unusedSimpArgs false

/-- clauses in memory -/
def RdR (w : World) (A : Option Addr) (n : Nat) (rows : List (List Int)) : Prop :=
  rows.length = n ∧ ∀ k, k < n → ∃ ad row, ∃ s : Sl, A = some ad ∧ ad.block < w.heap.size ∧ rows[k]? = some row ∧ w.cell? (ad.add k) = some s.val ∧ Rd w s.A s.n (ivs row)
theorem RdR.below {w w' : World} {A : Option Addr} {n B : Nat} {rows : List (List Int)} (h : RdR w A n rows) (hb : Below B w w') (hB : w.heap.size ≤ B) : RdR w' A n rows :=
  ⟨h.1, fun k hk => by
    obtain ⟨ad, row, s, h1, h2, h3, h4, h5⟩ := h.2 k hk
    have hh : ad.block < B := Nat.lt_of_lt_of_le h2 hB
    exact ⟨ad, row, s, h1, Nat.lt_of_lt_of_le h2 hb.size, h3, (hb.cell (by rw [add_block]; exact hh)).trans h4, h5.below hb hB⟩⟩
def UnitsV (n : Nat) (r : Option (List Int)) (e : Ending) (w' : World) : Prop :=
  match r with
  | none => e = .returned (.tuple #[.slice none 0 0, .bool false])
  | some out => ∃ A' c', e = .returned (.tuple #[.slice A' n c', .bool true]) ∧ Rd w' A' n (ivs out)
set_option maxHeartbeats 2000000 in
theorem ref22_Units (A : Option Addr) (n c : Nat) (vals : List Int) (B : Option Addr) (m d : Nat) (rows : List (List Int)) (w : World) (hn : n ≤ 1000000) (hr : Rd w A n (ivs vals)) (hm : m ≤ 1000000) (hrr : RdR w B m rows)
    (hsz : ∀ row ∈ rows, row.length ≤ 1000000) (hin : ∀ row ∈ rows, ∀ x ∈ row, litGood x = true → x / 2 < n) :
    Calls Try.prog 35 #[.slice A n c, .slice B m d] w fun e w' => ∃ r, UnitsIs rows vals r ∧ UnitsV n r e w' ∧ Below w.heap.size w w' := by
  have hmI : (m : Int) ≤ 1000000 := by omega
  have hlen := hide hrr.1
  have hvl := hide hr.len
  replace hsz := hide hsz
  replace hin := hide hin
  go_enter Try.func35, Try.ntmps35
  go_wp2_with (at_builtin; refine wpList_fresh rfl _ _ rfl (by rfl) (by rfl) hr (by omega) ?_; intro v1 w1 hown1 hb1; obtain ⟨A2, c2, rfl, _, _, _⟩ := Rd.of_own hown1)
  replace hown1 := hide hown1
  replace hb1 := hide hb1
  clear hr
  go_loopg [7] (openN vals) (fun gk s7 wr => ∃ cur : List Int, cur.length = n ∧ openN cur ≤ gk ∧ Hid (∀ r, UnitsIs rows cur r → UnitsIs rows vals r) ∧ Hid (wr.ownsRow w.heap.size 3 1 (.slice A2 n c2) n (ivs cur)) ∧ Hid (Below w.heap.size w wr))
  case atStart => exact ⟨vals, hvl.out, Nat.le_refl _, hide (fun _ h => h), hown1, hb1⟩
  case round =>
    obtain ⟨cur, hcl, hgk, hU, hown, hb⟩ := hrel
    clear hown1 hb1
    obtain ⟨gO, hgO⟩ : ∃ gO, gO = gk := ⟨_, rfl⟩
    subst hgO
    go_wp2
    go_loopg [7, 8] m (fun gk s7 s8 wr => ∃ (k : Nat) (cu : List Int) (mb : Bool), k ≤ m ∧ m - k ≤ gk ∧ s8 = .int .i64 k ∧ s7 = .bool mb ∧ cu.length = n ∧ Hid (passTo cur false rows k cu mb) ∧ Hid (wr.ownsRow w.heap.size 3 1 (.slice A2 n c2) n (ivs cu)) ∧ Hid (Below w.heap.size w wr) ∧ Hid (openN cu ≤ openN cur ∧ (mb = true → openN cu < openN cur)))
    case atStart => exact ⟨0, cur, false, Nat.zero_le _, Nat.le_refl _, rfl, rfl, hcl, hide (pass_zero _ _ _), hown, hb, hide ⟨Nat.le_refl _, fun h => by cases h⟩⟩
    case round =>
      obtain ⟨k, cu, mb, hk, hkg, rfl, rfl, hcul, hpt, hown2, hb2, hop⟩ := hrel
      clear hown hb
      have hkI : (k : Int) ≤ 1000000 := by omega
      by_cases hlt : k < m
      · have hltI : (k : Int) < m := by omega
        obtain ⟨ad, row, s, rfl, hB, hx, hcx, hrow⟩ := (hrr.below hb2.out (Nat.le_refl _)).2 k hlt
        have hmem := List.mem_of_getElem? hx
        have hrl := hsz.out row hmem
        have hri := hide (hin.out row hmem)
        obtain ⟨sA, sn, sc⟩ := s
        simp only [Sl.val] at hcx hrow
        have hsn : sn ≤ 1000000 := by have := hrow.len; omega
        obtain ⟨_, _, he, _, _, hrd⟩ := Rd.of_own hown2.out
        injection he with he1 _ he2
        subst he1 he2
        have HV := hide (ref20_Value A2 n c2 cu sA sn sc row wr hn hrd hsn hrow)
        obtain ⟨v, hv⟩ : ∃ v, valG (litV cu) 0 row = v := ⟨_, rfl⟩
        rw [hv] at HV
        by_cases h0 : v = 0
        · subst h0
          have hF := hide (hU.out none (.no (pass_no hpt.out hx hv)))
          clear hx hv hpt hrd hrow
          go_wp2_with fail
          refine HV.out.mono ?_
          rintro e w5 ⟨rfl, rfl⟩
          go_wp2
          go_ret2
          exact ⟨none, hF.out, rfl, hb2.out⟩
        · have e0 : (v == 0) = false := by simp [h0]
          have hv0 : ¬ valG (litV cu) 0 row = 0 := by rw [hv]; exact h0
          have HU := hide (ref20_Unit A2 n c2 cu sA sn sc row wr hn hrd hsn hrow)
          obtain ⟨u, hu⟩ : ∃ u, uOf cu row = u := ⟨_, rfl⟩
          rw [hu] at HU
          by_cases h1 : 1 < u
          · have d1 : decide (1 < u) = true := decide_eq_true h1
            have h1' : 1 < uOf cu row := by rw [hu]; exact h1
            obtain ⟨hum, hu2, hug⟩ := unit_in h1'
            have huin := hri.out _ hum hug
            have hos := open_set hug h1' (by omega) hu2
            have hpN := pass_set hpt.out hx hv0 h1'
            rw [hu] at huin hug hos hpN
            have HS := hide (ref22_set A2 n c2 cu u wr hn hown2.out hb2.out.size hug huin)
            have hoN := hide (show openN (setV cu u) ≤ openN cur ∧ (true = true → openN (setV cu u) < openN cur) from ⟨by have := hop.out.1; omega, fun _ => by have := hop.out.1; omega⟩)
            replace hpN := hide hpN
            have hcN : (setV cu u).length = n := by rw [setV_len]; exact hcul
            clear hx hv hu hpt hrd hrow hum hu2 hug huin hos h1' hv0 hop
            go_wp2_with fail
            refine HV.out.mono ?_
            rintro e w5 ⟨rfl, rfl⟩
            go_wp2_with fail
            refine HU.out.mono ?_
            rintro e w5 ⟨rfl, rfl⟩
            go_wp2_with fail
            refine HS.out.mono ?_
            rintro e w5 ⟨⟨v0, rfl⟩, hown5, hb5⟩
            have hbN := hide (hb2.out.trans hb5)
            replace hown5 := hide hown5
            clear hb5
            go_wp2
            go_roundg (m - (k + 1))
            case measure => omega
            case rel => exact ⟨k + 1, _, true, hlt, Nat.le_refl _, by go_num, rfl, hcN, hpN, hown5, hbN, hide ⟨hoN.out.1, fun _ => hoN.out.2 trivial⟩⟩
          · have d1 : decide (1 < u) = false := decide_eq_false h1
            have hpN := hide (pass_next hpt.out hx hv0 (by rw [hu]; exact h1))
            clear hx hv hu hpt hrd hrow hv0
            go_wp2_with fail
            refine HV.out.mono ?_
            rintro e w5 ⟨rfl, rfl⟩
            go_wp2_with fail
            refine HU.out.mono ?_
            rintro e w5 ⟨rfl, rfl⟩
            go_wp2
            go_roundg (m - (k + 1))
            case measure => omega
            case rel => exact ⟨k + 1, _, mb, hlt, Nat.le_refl _, by go_num, rfl, hcul, hpN, hown2, hb2, hop⟩
      · have hkm : m = k := by omega
        subst hkm
        have hpe := pass_end hpt.out hlen.out.symm
        clear hpt
        cases mb with
        | false =>
          have hF := hide (hU.out _ (.done hpe))
          obtain ⟨_, _, he, _, _, hrd⟩ := Rd.of_own hown2.out
          injection he with he1 _ he2
          subst he1 he2
          replace hrd := hide hrd
          clear hpe
          go_wp2
          go_ret2
          exact ⟨_, hF.out, ⟨A2, c2, rfl, hrd.out⟩, hb2.out⟩
        | true =>
          have hUN := hide (fun r h => hU.out r (.more hpe h))
          clear hpe hU
          go_wp2
          go_roundg (openN cu)
          case measure => have := hop.out.2 trivial; omega
          case rel => exact ⟨cu, hcul, Nat.le_refl _, hUN, hown2, hb2⟩
end Go.Proofs.Ytcjoohaagdihlaa.Learn
