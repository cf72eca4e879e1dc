/- The document's put: literals are put to a clause. -/
import Derived.Test.YtcjoohaagdihlaaLearn6
import Derived.Test.YtcjoohaagdihlaaOwn1
namespace Go.Proofs.Ytcjoohaagdihlaa.Learn
open Go.RowKit Go.Lt Go.Proofs.Ytcjoohaagdihlaa.Lit Go.Proofs.Ytcjoohaagdihlaa.Sorted
open Go.Proofs.Ytcjoohaagdihlaa.Kept (Sl Sl.val addr_off)
set_option linter.unusedVariables false
set_option linter.unusedSimpArgs false

theorem nats_len : ∀ (n : Nat) (l : List Nat), l.Nodup → (∀ x ∈ l, x < n) → l.length ≤ n
  | 0, l, _, h => by
    cases l with
    | nil => exact Nat.le_refl _
    | cons a l => exact absurd (h a List.mem_cons_self) (Nat.not_lt_zero _)
  | n + 1, l, hd, h => by
    by_cases hm : n ∈ l
    · have h1 := nats_len n (l.erase n) (hd.erase _) (fun x hx => by
        have h2 := (List.Nodup.mem_erase_iff hd).1 hx
        have := h x h2.2
        have := h2.1
        omega)
      rw [List.length_erase_of_mem hm] at h1
      omega
    · have := nats_len n l hd (fun x hx => by
        have h1 := h x hx
        have : x ≠ n := fun e => hm (e ▸ hx)
        omega)
      omega
theorem cl_len {l : List St} {c : List Int} (h : ClOk l c) : c.length ≤ l.length := by
  have h1 : (c.map (plN l)).Nodup := by
    rw [List.nodup_iff_pairwise_ne, List.pairwise_map]
    exact (List.Pairwise.and_mem.1 h.nodup).imp (fun {a b} hab e => hab.2.2 (mem_inj (h.mem a hab.1).1 (h.mem b hab.2.1).1 e))
  have := nats_len l.length (c.map (plN l)) h1 (fun x hx => by
    obtain ⟨y, hy, rfl⟩ := List.mem_map.1 hx
    exact (h.mem y hy).1.lt)
  rwa [List.length_map] at this
theorem put_take {l : List St} {out more : List Int} {but x : Int} {q : Nat} (hx : more[q]? = some x) : putP l out (more.take (q + 1)) but = put1 l but (putP l out (more.take q) but) x := by
  rw [List.take_add_one, hx]; exact putP_snoc _ _ _ _ _
theorem put1_no {l : List St} {but : Int} {out : List Int} {x : Int} (h : ¬ 1 < x ∨ x = but ∨ hasB out x = true ∨ ¬ 0 < levOf l x) : put1 l but out x = out := by
  unfold put1 putB
  rw [if_neg]
  intro hb
  simp only [Bool.and_eq_true, decide_eq_true_eq, Bool.not_eq_true'] at hb
  obtain ⟨⟨⟨a, b⟩, c⟩, d⟩ := hb
  rcases h with h | h | h | h
  · exact h a
  · exact b h
  · rw [h] at c; cases c
  · exact h d
theorem put1_yes {l : List St} {but : Int} {out : List Int} {x : Int} (h1 : 1 < x) (h2 : x ≠ but) (h3 : hasB out x = false) (h4 : 0 < levOf l x) : put1 l but out x = out ++ [x] := by
  unfold put1 putB
  rw [if_pos]
  simp [h1, h2, h3, h4]
def PutIs (r : List Int) (w : World) (e : Ending) (w' : World) : Prop := ∃ A' n' c', e = .returned (.slice A' n' c') ∧ Rd w' A' n' (ivs r) ∧ Below w.heap.size w w'
set_option maxRecDepth 8000 in
set_option maxHeartbeats 2000000 in
theorem ref_put (A : Option Addr) (n c : Nat) (l : List St) (C : Option Addr) (m cc : Nat) (out : List Int) (B : Option Addr) (k cb : Nat) (more : List Int) (but : Int) (w : World)
    (hn : n ≤ 1000) (hr : RdT w A n l) (hl : ∀ s ∈ l, 2 ≤ s.lit ∧ s.lit ≤ 33554433) (hm : m ≤ 1000) (hc : Rd w C m (ivs out)) (hk : k ≤ 1000) (hmore : Rd w B k (ivs more))
    (hM : ∀ x ∈ more, 1 < x → x ≠ but → Mem l x) :
    Calls Try.prog 88 #[.slice A n c, .slice C m cc, .slice B k cb, .int .i64 but] w (PutIs (putP l out more but) w) := by
  have hnI : (n : Int) ≤ 1000 := by omega
  have hkI : (k : Int) ≤ 1000 := by omega
  have hml := hide hmore.len
  have hll := hide hr.1
  replace hM := hide hM
  replace hl := hide hl
  go_enter Try.func88, Try.ntmps88
  go_wp2_with (at_builtin; refine wpList_fresh rfl _ _ rfl (by rfl) (by rfl) hc (by omega) ?_; intro v1 w1 hown1 hb1)
  go_loopw [9, 10] (fun v i wr => ∃ q m2 : Nat, q ≤ k ∧ m2 ≤ m + q ∧ i = .int .i64 q ∧ wr.ownsRow w.heap.size 3 1 v m2 (ivs (putP l out (more.take q) but)) ∧ Below w.heap.size w wr) (fun _ i _ => k - (intOf i).toNat)
  case atStart => exact ⟨0, m, Nat.zero_le _, Nat.le_refl _, rfl, hown1, hb1⟩
  case round =>
    obtain ⟨q, m2, hq, hm2, rfl, hown, hb⟩ := hrel
    have hqI : (q : Int) ≤ 1000 := by omega
    obtain ⟨A2, c2, rfl, _, _, hr2⟩ := Rd.of_own hown
    by_cases hlt : q < k
    · obtain ⟨ad, x, rfl, hB, hx, hcx⟩ := (hmore.below hb (Nat.le_refl _)).get hlt
      have hmx := hide (hM.out x (List.mem_of_getElem? hx))
      have hst := put_take (l := l) (out := out) (but := but) hx
      obtain ⟨cur, hcur⟩ : ∃ cur, putP l out (more.take q) but = cur := ⟨_, rfl⟩
      rw [hcur] at hst hown hr2
      replace hst := hide hst
      clear hx hcur
      by_cases h1 : 1 < x
      · have d1 : decide (1 < x) = true := decide_eq_true h1
        by_cases h2 : x = but
        · have d2 : (x != but) = false := by simp [h2]
          have d3 : (x == but) = true := by simp [h2]
          have hF := hide (hst.out.trans (put1_no (.inr (.inl h2))))
          clear hst hmx h2
          go_wp2
          go_roundw
          case rel => exact ⟨q + 1, m2, hlt, by omega, by go_num, by rw [hF.out]; exact hown, hb⟩
          case measure => simp [intOf]; omega
        · have d2 : (x != but) = true := by simp [h2]
          have d3 : (x == but) = false := by simp [h2]
          have hM2 := hmx.out h1 h2
          obtain ⟨hb2, hhb⟩ : ∃ hb2, hasB cur x = hb2 := ⟨_, rfl⟩
          have HH := hide (has_isR (c := c2) hhb (show m2 ≤ 1000000 by omega) wr hr2)
          cases hb2 with
          | true =>
            have hF := hide (hst.out.trans (put1_no (.inr (.inr (.inl hhb)))))
            clear hst hmx h2 hhb hM2
            go_wp2_with fail
            refine HH.out.mono ?_
            rintro e w2 ⟨rfl, rfl⟩
            go_wp2
            go_roundw
            case rel => exact ⟨q + 1, m2, hlt, by omega, by go_num, by rw [hF.out]; exact hown, hb⟩
            case measure => simp [intOf]; omega
          | false =>
            obtain ⟨hx0, hx1⟩ := good_iff.1 hM2.good
            have HP := hide (ref_place A n c l x wr hn (hr.below hb (Nat.le_refl _)) hl.out ⟨hx0, hx1⟩)
            have hp := hM2.place
            have hpl := hM2.lt
            obtain ⟨p, hpe⟩ : ∃ p, plN l x = p := ⟨_, rfl⟩
            have hlev : levOf l x = (stAt l p).lev := by unfold levOf; rw [hpe]
            rw [hpe] at hp hpl
            rw [hp, show placeZ (some p) = (p : Int) from rfl] at HP
            have hpn : p < n := by rw [← hll.out]; exact hpl
            have hpI : (p : Int) < n := by omega
            obtain ⟨ad2, s, z, rfl, hB2, hs, c0, c1, c3, hw⟩ := (hr.below hb (Nat.le_refl _)).get hpn
            have hsl : levOf l x = s.lev := by rw [hlev, stAt_is hs]
            obtain ⟨lt, lv, wy⟩ := s
            simp only at c0 c1 hsl
            clear hs hw c3 c0 hlev hp hpe hpl hM2
            by_cases h4 : 0 < lv
            · have d4 : decide (0 < lv) = true := decide_eq_true h4
              have hF := hide (hst.out.trans (put1_yes h1 h2 hhb (by rw [hsl]; exact h4)))
              clear hst hmx h2 hhb hsl h4
              go_wp2_with fail
              refine HH.out.mono ?_
              rintro e w2 ⟨rfl, rfl⟩
              go_wp2_with fail
              refine HP.out.mono ?_
              rintro e w2 ⟨rfl, rfl⟩
              go_wp2_with (at_builtin; refine wpList_push rfl _ _ _ rfl Try.underlying40 info_n rfl (by decide) rfl rfl hown hb (Nat.le_refl _) rfl (by simp [Value.oneCell']) (by unfold maxLen; omega) (by omega) ?_; intro v3 w3 hown3 hb3)
              go_roundw
              case rel => exact ⟨q + 1, m2 + 1, hlt, by omega, by go_num, by rw [hF.out, ivs_app]; exact hown3, hb3⟩
              case measure => simp [intOf]; omega
            · have d4 : decide (0 < lv) = false := decide_eq_false h4
              have hF := hide (hst.out.trans (put1_no (.inr (.inr (.inr (by rw [hsl]; exact h4))))))
              clear hst hmx h2 hhb hsl h4
              go_wp2_with fail
              refine HH.out.mono ?_
              rintro e w2 ⟨rfl, rfl⟩
              go_wp2_with fail
              refine HP.out.mono ?_
              rintro e w2 ⟨rfl, rfl⟩
              go_wp2
              go_roundw
              case rel => exact ⟨q + 1, m2, hlt, by omega, by go_num, by rw [hF.out]; exact hown, hb⟩
              case measure => simp [intOf]; omega
      · have d1 : decide (1 < x) = false := decide_eq_false h1
        have hF := hide (hst.out.trans (put1_no (.inl h1)))
        clear hst hmx
        go_wp2
        go_roundw
        case rel => exact ⟨q + 1, m2, hlt, by omega, by go_num, by rw [hF.out]; exact hown, hb⟩
        case measure => simp [intOf]; omega
    · have hkq : k = q := by omega
      subst hkq
      have hfull : more.take k = more := by rw [← hml.out, List.take_length]
      rw [hfull] at hr2
      clear hown hfull
      go_wp2
      go_ret
      exact ⟨A2, m2, c2, rfl, hr2, hb⟩
end Go.Proofs.Ytcjoohaagdihlaa.Learn
