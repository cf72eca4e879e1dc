/- A clause in order, of any length that there may be: the program's clause.Norm. -/
import Derived.Test.YtcjoohaagdihlaaBig
import Derived.Test.YtcjoohaagdihlaaMap1
namespace Go.Proofs.Ytcjoohaagdihlaa.Watch
open Go.RowKit Go.Lt Go.Proofs.Ytcjoohaagdihlaa.Lit Go.Proofs.Ytcjoohaagdihlaa.Sorted
set_option linter.unusedVariables false
set_option linter.unusedSimpArgs false

theorem slices_IndexB (A : Option Addr) (n c : Nat) (l : List Int) (x : Int) (w : World) (hn : n ≤ 17592186044416) (hr : Rd w A n (ivs l)) :
    Calls Try.prog 152 #[.slice A n c, .int .i64 x] w (IdxIs (hasB l x) w) := by
  go_enter Try.func152, Try.ntmps152
  go_wp2
  go_loop [8] (fun i => ∃ k : Nat, k ≤ n ∧ i = .int .i64 k ∧ Hid (∀ j : Nat, j < k → l[j]? ≠ some x)) (fun i => n - (intOf i).toNat)
  case atStart => exact ⟨0, Nat.zero_le _, rfl, fun j hj => absurd hj (Nat.not_lt_zero _)⟩
  case round =>
    obtain ⟨k, hk, rfl, hno⟩ := hrel
    by_cases hlt : k < n
    · obtain ⟨ad, y, rfl, hB, hy, hc⟩ := hr.get hlt
      by_cases he : y = x
      · have HY := hide (show decide (0 ≤ (k : Int)) = hasB l x by rw [has_yes (he ▸ hy)]; simp)
        have hb : (x == y) = true := by simp [he]
        clear he hy
        go_wp2
        go_ret
        exact ⟨k, rfl, HY.out, rfl⟩
      · have hb : (x == y) = false := by simp; exact fun h => he h.symm
        have HN := hide (show ∀ j : Nat, j < k + 1 → l[j]? ≠ some x from fun j hj => by
          by_cases h1 : j < k
          · exact hno.out j h1
          · have : j = k := by omega
            subst this
            rw [hy]
            intro h; injection h with h; exact he h)
        clear he hy
        go_wp2
        go_round
        case rel => exact ⟨k + 1, hlt, by go_num, HN.out⟩
        case measure => simp [intOf]; omega
    · have hkn : n = k := by omega
      subst hkn
      have HF := hide (show decide (0 ≤ (-1 : Int)) = hasB l x by rw [has_no (fun j hj => hno.out j (by have := hr.len; omega))]; rfl)
      go_wp2
      go_ret
      exact ⟨-1, rfl, HF.out, rfl⟩
theorem slices_ContainsB (A : Option Addr) (n c : Nat) (l : List Int) (x : Int) (w : World) (hn : n ≤ 17592186044416) (hr : Rd w A n (ivs l)) :
    Calls Try.prog 129 #[.slice A n c, .int .i64 x] w fun e w' => e = .returned (.bool (hasB l x)) ∧ w = w' := by
  go_enter Try.func129, Try.ntmps129
  go_wp2_with (go_at_call 152; refine (slices_IndexB _ _ _ l _ _ hn hr).mono ?_; rintro e w' ⟨i, rfl, hi, rfl⟩)
  go_ret
  exact ⟨rfl, rfl⟩
theorem lit_HasB (A : Option Addr) (n c : Nat) (l : List Int) (x : Int) (w : World) (hn : n ≤ 17592186044416) (hr : Rd w A n (ivs l)) :
    Calls Try.prog 92 #[.slice A n c, .int .i64 x] w fun e w' => e = .returned (.bool (hasB l x)) ∧ w = w' := by
  go_enter Try.func92, Try.ntmps92
  go_wp2_with (go_at_call 129; refine (slices_ContainsB _ _ _ l _ _ hn hr).mono ?_; rintro e w' ⟨rfl, rfl⟩)
  go_ret
  exact ⟨rfl, rfl⟩
def AnyIs (b : Bool) (w : World) (e : Ending) (w' : World) : Prop := e = .returned (.bool b) ∧ Dr w w'
def IdxAny (b : Bool) (w : World) (e : Ending) (w' : World) : Prop := ∃ i : Int, e = .returned (.int .i64 i) ∧ decide (0 ≤ i) = b ∧ Dr w w'
theorem any_hit {l : List Int} {p : Int → Bool} {k : Nat} {x : Int} (hx : l[k]? = some x) (h : p x = true) : l.any p = true := List.any_eq_true.2 ⟨x, List.mem_of_getElem? hx, h⟩
theorem any_miss {l : List Int} {p : Int → Bool} (h : ∀ k : Nat, k < l.length → ∀ x, l[k]? = some x → p x = false) : l.any p = false := by
  rw [List.any_eq_false]
  intro x hx
  obtain ⟨k, hk⟩ := List.getElem?_of_mem hx
  rw [h k (List.getElem?_eq_some_iff.1 hk).1 x hk]; simp
set_option maxRecDepth 8000 in
set_option maxHeartbeats 1000000 in
theorem idx_anyN (A : Option Addr) (n c : Nat) (l : List Int) (p : Int → Bool) (w : World) (hn : n ≤ 17592186044416) (hr : Rd w A n (ivs l))
    (hp : ∀ W, Dr w W → ∀ x ∈ l, Calls Try.prog 139 #[.int .i64 x] W (AnyIs (p x) W)) :
    Calls Try.prog 130 #[.slice A n c, .func (.func 139) #[] #[]] w (IdxAny (l.any p) w) := by
  have hnI : (n : Int) ≤ 17592186044416 := by omega
  have hl := hide hr.len
  replace hp := hide hp
  go_enter Try.func130, Try.ntmps130
  go_wp2
  go_loopw [8] (fun i wr => ∃ k : Nat, k ≤ n ∧ i = .int .i64 k ∧ Dr w wr ∧ Hid (∀ j : Nat, j < k → ∀ x, l[j]? = some x → p x = false)) (fun i _ => n - (intOf i).toNat)
  case atStart => exact ⟨0, Nat.zero_le _, rfl, Dr.refl _, fun j hj => absurd hj (Nat.not_lt_zero _)⟩
  case round =>
    obtain ⟨k, hk, rfl, hd, hno⟩ := hrel
    have hkI : (k : Int) ≤ 17592186044416 := by omega
    by_cases hlt : k < n
    · obtain ⟨ad, x, rfl, hB, hx, hc⟩ := hr.get hlt
      have hc := (hd.cell _).trans hc
      have hcall := hp.out wr hd x (List.mem_of_getElem? hx)
      have hhit := hide (fun h => any_hit (p := p) hx h)
      have hst := hide (fun (h : p x = false) => (show ∀ j : Nat, j < k + 1 → ∀ x, l[j]? = some x → p x = false from fun j hj y hy => by
        by_cases h1 : j = k
        · subst h1; rw [hx] at hy; injection hy with hy; rw [← hy]; exact h
        · exact hno.out j (by omega) y hy))
      obtain ⟨b, hb⟩ : ∃ b, p x = b := ⟨_, rfl⟩
      rw [hb] at hcall hst hhit
      clear hx hb
      cases b with
      | true =>
        have hF := hide (hhit.out rfl)
        clear hhit hst
        go_wp2_with fail
        refine hcall.mono ?_
        rintro e w2 ⟨rfl, hd2⟩
        go_wp2
        go_ret
        exact ⟨k, rfl, by rw [hF.out, decide_eq_true_iff]; omega, hd.trans hd2⟩
      | false =>
        have hS := hide (hst.out rfl)
        clear hhit hst
        go_wp2_with fail
        refine hcall.mono ?_
        rintro e w2 ⟨rfl, hd2⟩
        go_wp2
        go_roundw
        case rel => exact ⟨k + 1, hlt, by go_num, hd.trans hd2, hS⟩
        case measure => simp [intOf]; omega
    · have hkn : n = k := by omega
      subst hkn
      have hF := hide (any_miss (p := p) (fun j hj => hno.out j (by have := hl.out; omega)))
      clear hno
      go_wp2
      go_ret
      exact ⟨-1, rfl, by rw [hF.out]; decide, hd⟩
set_option maxRecDepth 8000 in
set_option maxHeartbeats 1000000 in
theorem anyN_is (A : Option Addr) (n c : Nat) (l : List Int) (p : Int → Bool) (w : World) (hn : n ≤ 17592186044416) (hr : Rd w A n (ivs l))
    (hp : ∀ W, Dr w W → ∀ x ∈ l, Calls Try.prog 139 #[.int .i64 x] W (AnyIs (p x) W)) {b : Bool} (hb : l.any p = b) :
    Calls Try.prog 93 #[.slice A n c, .func (.func 139) #[] #[]] w (AnyIs b w) := by
  have hI := idx_anyN A n c l p w hn hr hp
  rw [hb] at hI
  clear hp hr
  go_enter Try.func93, Try.ntmps93
  go_wp2_with fail
  refine hI.mono ?_
  rintro e w2 ⟨i, rfl, hi, hd⟩
  go_wp2
  go_ret
  exact ⟨by first | rfl | rw [hi], hd⟩
theorem norm1_is (x : Int) (w : World) : Calls Try.prog 139 #[.int .i64 x] w (AnyIs (!litGood x) w) := by
  have HG := hide (lit_Good x)
  obtain ⟨g, hg⟩ : ∃ g, litGood x = g := ⟨_, rfl⟩
  rw [hg] at HG ⊢
  clear hg
  go_enter Try.func139, Try.ntmps139
  go_wp2_with (go_at_call 140; refine (HG.out _).mono ?_; rintro e w' ⟨rfl, rfl⟩)
  go_ret
  cases g <;> exact ⟨rfl, Dr.refl _⟩
/-- a clause in order: none, or its literals but 0 -/
def okC (l : List Int) : Bool := !(hasB l 1 || tiedB l || l.any fun x => !litGood x)
def normC (l : List Int) : List Int := (srt l).filter fun x => decide (x ≠ 0)
theorem okC_srt (l : List Int) : okC (srt l) = okC l := by
  have h1 : hasB (srt l) 1 = hasB l 1 := by unfold hasB; exact decide_eq_decide.2 (by rw [srt_mem])
  have h2 : (srt l).any (fun x => !litGood x) = l.any (fun x => !litGood x) := by
    rw [Bool.eq_iff_iff, List.any_eq_true, List.any_eq_true]
    exact ⟨fun ⟨x, hx, h⟩ => ⟨x, srt_mem.1 hx, h⟩, fun ⟨x, hx, h⟩ => ⟨x, srt_mem.2 hx, h⟩⟩
  unfold okC
  rw [h1, tiedB_srt, h2]
theorem rd_tail {w : World} {ad : Addr} {m : Nat} {x : Value} {r : List Value} (h : Rd w (some ad) m (x :: r)) : Rd w (some ⟨ad.block, ad.off + 1, none⟩) (m - 1) r := by
  obtain ⟨h1, h2⟩ := h
  rw [List.length_cons] at h1
  refine ⟨by omega, fun k hk => ?_⟩
  obtain ⟨a, u, e, hb, hu, hc⟩ := h2 (k + 1) (by omega)
  injection e with e
  subst e
  refine ⟨_, u, rfl, hb, by rw [List.getElem?_cons_succ] at hu; exact hu, ?_⟩
  have : (⟨ad.block, ad.off + 1, none⟩ : Addr).add k = ad.add (k + 1) := by
    unfold Addr.add
    by_cases hk0 : k = 0
    · subst hk0; simp
    · rw [if_neg hk0, if_neg (by omega)]; simp; omega
  rw [this]; exact hc
theorem filter_rise {x : Int} {r : List Int} (hr : Rise (x :: r)) (hg : ∀ y ∈ x :: r, 0 ≤ y) : (x :: r).filter (fun x => decide (x ≠ 0)) = if x = 0 then r else x :: r := by
  have hlt : ∀ y ∈ r, x < y := fun y hy => List.rel_of_pairwise_cons hr hy
  have hx := hg x List.mem_cons_self
  have hf : r.filter (fun x => decide (x ≠ 0)) = r := by
    rw [List.filter_eq_self]
    intro y hy
    have := hlt y hy
    simp; omega
  rw [List.filter_cons, hf]
  by_cases h : x = 0
  · subst h; simp
  · simp [h]
def NormOf (l : List Int) (w : World) (e : Ending) (w' : World) : Prop :=
  Below w.heap.size w w' ∧ ((okC l = false ∧ e = .returned (.tuple #[.slice none 0 0, .bool false])) ∨ (okC l = true ∧ ∃ A c, e = .returned (.tuple #[.slice A (normC l).length c, .bool true]) ∧ Rd w' A (normC l).length (ivs (normC l)) ∧ ∀ ad, A = some ad → w.heap.size ≤ ad.block))
theorem tied_is0 {A : Option Addr} {n c : Nat} {l : List Int} {b : Bool} (h : tiedB l = b) (hn : n ≤ 17592186044416) (w : World) (hr : Rd w A n (ivs l)) : Calls Try.prog 133 #[.slice A n c] w fun e w' => e = .returned (.bool b) ∧ Below w.heap.size w w' := tied_isB hn hr h
theorem has_is1 {A : Option Addr} {n c : Nat} {l : List Int} {x : Int} {b : Bool} (h : hasB l x = b) (hn : n ≤ 17592186044416) (w : World) (hr : Rd w A n (ivs l)) : Calls Try.prog 92 #[.slice A n c, .int .i64 x] w fun e w' => e = .returned (.bool b) ∧ w = w' := by subst h; exact lit_HasB A n c l x w hn hr
set_option maxRecDepth 8000 in
set_option maxHeartbeats 2000000 in
theorem clause_Norm (A : Option Addr) (n c : Nat) (l : List Int) (w : World) (hn : n ≤ 17592186044416) (hr : Rd w A n (ivs l)) :
    Calls Try.prog 112 #[.slice A n c] w (NormOf l w) := by
  have hl := hide hr.len
  have HL := hide (srt_len l)
  have HR := hide (srt_rise l)
  have HO := hide (okC_srt l)
  go_enter Try.func112, Try.ntmps112
  go_wp2_with fail
  refine (lit_SortedB _ _ _ l _ hn hr).mono ?_
  rintro e w1 ⟨v, rfl, hown, hb⟩
  obtain ⟨A1, c1, rfl, hc1, _, hr1⟩ := Rd.of_own hown
  have hA1 := hide (show ∀ ad, A1 = some ad → w.heap.size ≤ ad.block from fun ad he => by
    subst he
    rcases own_cases hown with ⟨he, _⟩ | ⟨g, cap, he, hbg, _⟩
    · cases he
    · injection he with he
      injection he with he
      subst he; exact hbg)
  clear hown
  have hm : (srt l).length ≤ 17592186044416 := by have := HL.out; have := hl.out; omega
  have hnc : normC l = (srt l).filter fun x => decide (x ≠ 0) := rfl
  unfold NormOf
  clear HL hl hr hn
  obtain ⟨s, hs⟩ : ∃ s, srt l = s := ⟨_, rfl⟩
  rw [hs] at hm hr1 HR HO hnc hc1
  rw [hs]
  have hN := hide hnc
  clear hnc
  have HO2 := hide HO.out.symm
  clear hs HO
  obtain ⟨m, hms⟩ : ∃ m, s.length = m := ⟨_, rfl⟩
  rw [hms] at hm hr1 hc1
  rw [hms]
  have hmI : (m : Int) ≤ 17592186044416 := by omega
  replace hb := hide hb
  obtain ⟨b1, hb1⟩ : ∃ b, hasB s 1 = b := ⟨_, rfl⟩
  obtain ⟨b2, hb2⟩ : ∃ b, tiedB s = b := ⟨_, rfl⟩
  obtain ⟨b3, hb3⟩ : ∃ b, (s.any fun x => !litGood x) = b := ⟨_, rfl⟩
  have hok : okC l = !(b1 || b2 || b3) := by rw [HO2.out]; unfold okC; rw [hb1, hb2, hb3]
  have H1 := hide (has_is1 (c := c1) hb1 hm w1 hr1)
  have H2 := hide (tied_is0 (c := c1) hb2 hm w1 hr1)
  have H3 := hide (fun (W : World) (hbb : Below w1.heap.size w1 W) => anyN_is A1 m c1 s (fun x => !litGood x) W hm (hr1.below hbb (Nat.le_refl _)) (fun W' _ x _ => norm1_is x W') hb3)
  have hbad := hide (fun (h : okC l = false) (w' : World) (hb' : Below w.heap.size w w') => show NormOf l w (.returned (.tuple #[.slice none 0 0, .bool false])) w' from ⟨hb', .inl ⟨h, rfl⟩⟩)
  cases b1 with
  | true =>
    replace hok := hide hok
    clear H2 H3 hb1 hb2 hb3 hr1
    go_wp2_with fail
    refine H1.out.mono ?_
    rintro e w2 ⟨rfl, rfl⟩
    go_wp2
    go_ret2
    exact ⟨hb.out, .inl ⟨hok.out, rfl⟩⟩
  | false =>
    cases b2 with
    | true =>
      replace hok := hide hok
      clear H3 hb1 hb2 hb3 hr1
      go_wp2_with fail
      refine H1.out.mono ?_
      rintro e w2 ⟨rfl, rfl⟩
      go_wp2_with fail
      refine H2.out.mono ?_
      rintro e w2 ⟨rfl, hbT⟩
      replace hbT := hide hbT
      go_wp2
      go_ret2
      exact ⟨hb.out.trans (hbT.out.mono hb.out.size), .inl ⟨hok.out, rfl⟩⟩
    | false =>
      cases b3 with
      | true =>
        replace hok := hide hok
        clear hb1 hb2 hb3 hr1
        go_wp2_with fail
        refine H1.out.mono ?_
        rintro e w2 ⟨rfl, rfl⟩
        go_wp2_with fail
        refine H2.out.mono ?_
        rintro e w2 ⟨rfl, hbT⟩
        have H4 := hide (H3.out w2 hbT)
        replace hbT := hide hbT
        go_wp2_with fail
        refine H4.out.mono ?_
        rintro e w3 ⟨rfl, hd⟩
        have hB := hide (hb.out.trans ((hbT.out.trans (hd.below _)).mono hb.out.size))
        clear hd
        go_wp2
        go_ret2
        exact ⟨hB.out, .inl ⟨hok.out, rfl⟩⟩
      | false =>
        have hok : Hid (okC l = true) := hide hok
        have hpos : ∀ y ∈ s, 0 ≤ y := fun y hy => by
          have h := List.any_eq_false.1 hb3 y hy
          have h2 : litGood y = true := by cases hg : litGood y with
            | true => rfl
            | false => rw [hg] at h; exact absurd rfl h
          exact (good_iff.1 h2).1
        have hRd := hide (fun (W : World) (hbb : Below w1.heap.size w1 W) => hr1.below hbb (Nat.le_refl _))
        cases s with
        | nil =>
          have hm0 : m = 0 := by rw [← hms]; rfl
          subst hm0
          clear hb1 hb2 hb3 hr1 HR hpos hms
          go_wp2_with fail
          refine H1.out.mono ?_
          rintro e w2 ⟨rfl, rfl⟩
          go_wp2_with fail
          refine H2.out.mono ?_
          rintro e w2 ⟨rfl, hbT⟩
          have H4 := hide (H3.out w2 hbT)
          replace hbT := hide hbT
          go_wp2_with fail
          refine H4.out.mono ?_
          rintro e w3 ⟨rfl, hd⟩
          have hB := hide (hb.out.trans ((hbT.out.trans (hd.below _)).mono hb.out.size))
          have hrW := hide (hRd.out w3 (hbT.out.trans ((hd.below _).mono hbT.out.size)))
          clear hd
          go_wp2
          go_ret2
          exact ⟨hB.out, .inr ⟨hok.out, A1, c1, by rw [hN.out]; rfl, by rw [hN.out]; exact hrW.out, hA1.out⟩⟩
        | cons x r =>
          have hfr := hide (filter_rise HR.out hpos)
          have hml : m = r.length + 1 := by rw [← hms]; rfl
          have hm0 : decide (0 < (m : Int)) = true := decide_eq_true (by omega)
          have hm1 : (0 : Int) < m := by omega
          have hm2 : 0 < m := by omega
          replace hml := hide hml
          obtain ⟨ad, x', rfl, hBa, hx', hcx⟩ := hr1.get hm2
          have hxe : x' = x := by simpa using hx'.symm
          subst hxe
          have ez : ad.add 0 = ad := by unfold Addr.add; rw [if_pos rfl]
          rw [ez] at hcx
          have hcxW := hide (fun (W : World) (hbb : Below w1.heap.size w1 W) => (hbb.cell hBa).trans hcx)
          have hc1m : 1 ≤ c1 := by omega
          replace hms := hide hms
          clear hb1 hb2 hb3 HR hpos hx' hcx
          by_cases hx0 : x' = 0
          · have e0 : (x' == 0) = true := by simp [hx0]
            rw [if_pos hx0] at hfr
            have hlr := hide (show m - 1 = r.length by have := hml.out; omega)
            clear hx0
            by_cases hc2 : c1 = 1
            · subst hc2
              go_wp2_with fail
              refine H1.out.mono ?_
              rintro e w2 ⟨rfl, rfl⟩
              go_wp2_with fail
              refine H2.out.mono ?_
              rintro e w2 ⟨rfl, hbT⟩
              have H4 := hide (H3.out w2 hbT)
              replace hbT := hide hbT
              go_wp2_with fail
              refine H4.out.mono ?_
              rintro e w3 ⟨rfl, hd⟩
              have hB := hide (hb.out.trans ((hbT.out.trans (hd.below _)).mono hb.out.size))
              have hbW := hbT.out.trans ((hd.below _).mono hbT.out.size)
              have hrW := hide (hRd.out w3 hbW)
              have hcW := hcxW.out w3 hbW
              clear hd hbW
              have hrT := hide (rd_tail hrW.out)
              clear hrW
              go_wp2
              go_ret2
              exact ⟨hB.out, .inr ⟨hok.out, some ad, 0, by have h1 := hlr.out; have h2 : r = [] := List.eq_nil_of_length_eq_zero (by omega); rw [hN.out, hfr.out, h2]; rfl, by rw [hN.out, hfr.out]; have h1 := hlr.out; have h2 : r = [] := List.eq_nil_of_length_eq_zero (by omega); rw [h2]; exact Rd.nil _ _, hA1.out⟩⟩
            have hc3 : ¬ c1 - 1 = 0 := by omega
            have hc4 : ¬ c1 ≤ 1 := by omega
            go_wp2_with fail
            refine H1.out.mono ?_
            rintro e w2 ⟨rfl, rfl⟩
            go_wp2_with fail
            refine H2.out.mono ?_
            rintro e w2 ⟨rfl, hbT⟩
            have H4 := hide (H3.out w2 hbT)
            replace hbT := hide hbT
            go_wp2_with fail
            refine H4.out.mono ?_
            rintro e w3 ⟨rfl, hd⟩
            have hB := hide (hb.out.trans ((hbT.out.trans (hd.below _)).mono hb.out.size))
            have hbW := hbT.out.trans ((hd.below _).mono hbT.out.size)
            have hrW := hide (hRd.out w3 hbW)
            have hcW := hcxW.out w3 hbW
            clear hd hbW
            have hrT := hide (rd_tail hrW.out)
            clear hrW
            go_wp2
            go_ret2
            exact ⟨hB.out, .inr ⟨hok.out, _, c1 - 1, by rw [hN.out, hfr.out, ← hlr.out]; rfl, by rw [hN.out, hfr.out, ← hlr.out]; exact hrT.out, fun ad' he => by injection he with he; subst he; exact hA1.out ad rfl⟩⟩
          · have e0 : (x' == 0) = false := by simp [hx0]
            rw [if_neg hx0] at hfr
            clear hx0
            go_wp2_with fail
            refine H1.out.mono ?_
            rintro e w2 ⟨rfl, rfl⟩
            go_wp2_with fail
            refine H2.out.mono ?_
            rintro e w2 ⟨rfl, hbT⟩
            have H4 := hide (H3.out w2 hbT)
            replace hbT := hide hbT
            go_wp2_with fail
            refine H4.out.mono ?_
            rintro e w3 ⟨rfl, hd⟩
            have hB := hide (hb.out.trans ((hbT.out.trans (hd.below _)).mono hb.out.size))
            have hbW := hbT.out.trans ((hd.below _).mono hbT.out.size)
            have hrW := hide (hRd.out w3 hbW)
            have hcW := hcxW.out w3 hbW
            clear hd hbW
            go_wp2
            go_ret2
            exact ⟨hB.out, .inr ⟨hok.out, some ad, c1, by rw [hN.out, hfr.out, hms.out]; rfl, by rw [hN.out, hfr.out, hms.out]; exact hrW.out, hA1.out⟩⟩
end Go.Proofs.Ytcjoohaagdihlaa.Watch
