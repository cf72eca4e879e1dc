/- The document's First: what is learned of steps. -/
import Derived.Test.YtcjoohaagdihlaaLearn7
import Derived.Test.YtcjoohaagdihlaaSorted3
namespace Go.Proofs.Ytcjoohaagdihlaa.Learn
open Go.RowKit Go.Lt Go.Proofs.Ytcjoohaagdihlaa.Lit Go.Proofs.Ytcjoohaagdihlaa.Sorted Go.Instr
open Go.Proofs.Ytcjoohaagdihlaa.Kept (Sl Sl.val addr_off)
set_option linter.unusedVariables false
set_option linter.unusedSimpArgs false

/-- what the document's First hands back -/
def FirstV (r : Option (List Int × Int)) (e : Ending) (w' : World) : Prop :=
  match r with
  | none => e = .returned (.tuple #[.slice none 0 0, .int .i64 (-1)])
  | some (c, b) => ∃ A' n' c', e = .returned (.tuple #[.slice A' n' c', .int .i64 b]) ∧ n' ≤ 1000 ∧ Rd w' A' n' (ivs c)
def FirstR (l : List St) (bad : List Int) (w : World) (e : Ending) (w' : World) : Prop := ∃ r, FirstIs l bad r ∧ FirstV r e w' ∧ Below w.heap.size w w'
theorem first_bad {l : List St} {bad : List Int} {w w' : World} (h : goodB l bad = false ∨ l = []) (hb : Below w.heap.size w w') : FirstR l bad w (.returned (.tuple #[.slice none 0 0, .int .i64 (-1)])) w' :=
  ⟨none, .inl ⟨h, rfl⟩, rfl, hb⟩
theorem first_flat {l : List St} {bad : List Int} {w w' : World} (h : goodB l bad = true) (hl : l ≠ []) (h0 : lastL l = 0) (hb : Below w.heap.size w w') : FirstR l bad w (.returned (.tuple #[.slice none 0 0, .int .i64 (-1)])) w' := by
  have hg := good_of h
  have hc := cl_zero hg
  have hno : hereP l (cN l bad 0) = 0 := by
    unfold hereP
    rw [List.length_eq_zero_iff, List.filter_eq_nil_iff]
    intro x hx
    have := (hc.mem x hx).2
    simp only [decide_eq_true_eq]
    rw [h0]; omega
  exact ⟨none, .inr ⟨h, hl, 0, fun j hj => absurd hj (Nat.not_lt_zero _), by omega, by rw [if_neg (by omega)]⟩, rfl, hb⟩
theorem first_none {l : List St} {bad : List Int} {w w' : World} {n : Nat} (h : goodB l bad = true) (hl : l ≠ []) (hj : ∀ j, j < n → 2 ≤ hereP l (cN l bad j)) (h0 : hereP l (cN l bad n) = 0) (hb : Below w.heap.size w w') : FirstR l bad w (.returned (.tuple #[.slice none 0 0, .int .i64 (-1)])) w' :=
  ⟨none, .inr ⟨h, hl, n, hj, by omega, by rw [if_neg (by omega)]⟩, rfl, hb⟩
theorem first_some {l : List St} {bad : List Int} {w w' : World} {n : Nat} {A' : Option Addr} {n' c' : Nat} {b : Int} (h : goodB l bad = true) (hl : l ≠ []) (hj : ∀ j, j < n → 2 ≤ hereP l (cN l bad j)) (h1 : hereP l (cN l bad n) = 1) (hn' : n' ≤ 1000) (hr : Rd w' A' n' (ivs (srt (cN l bad n)))) (hbk : backP l (cN l bad n) = b) (hb : Below w.heap.size w w') : FirstR l bad w (.returned (.tuple #[.slice A' n' c', .int .i64 b])) w' :=
  ⟨some (srt (cN l bad n), b), .inr ⟨h, hl, n, hj, by omega, by rw [if_pos h1, hbk]⟩, ⟨A', n', c', rfl, hn', hr⟩, hb⟩
theorem here_take {l : List St} {c : List Int} {q : Nat} {x : Int} (hx : c[q]? = some x) : hereP l (c.take (q + 1)) = (if levOf l x = lastL l then hereP l (c.take q) + 1 else hereP l (c.take q)) ∧ topP l (c.take (q + 1)) = top1 l (topP l (c.take q)) x := by
  rw [List.take_add_one, hx]; exact ⟨here_snoc _ _ _, top_snoc _ _ _⟩
theorem rest_take {l : List St} {a : Int} {c : List Int} {q : Nat} {x : Int} (hx : c[q]? = some x) : restP l a (c.take (q + 1)) = if (plN l x : Int) = a then restP l a (c.take q) else restP l a (c.take q) ++ [x] := by
  rw [List.take_add_one, hx]
  unfold restP
  rw [List.filter_append]
  by_cases h : (plN l x : Int) = a <;> simp [h]
theorem back_take {l : List St} {c : List Int} {q : Nat} {x : Int} (hx : c[q]? = some x) : backP l (c.take (q + 1)) = back1 l (backP l (c.take q)) x := by
  rw [List.take_add_one, hx]; exact back_snoc _ _ _
/-- how much is left: the place taken last -/
def mz : Value → Nat
  | .int _ z => z.toNat
  | _ => 100000
theorem ref_GoodB {A : Option Addr} {n c : Nat} {l : List St} {B : Option Addr} {m cb : Nat} {bad : List Int} {b : Bool} (hg : goodB l bad = b) (w : World) (hn : n ≤ 1000) (hnc : n ≤ c) (hr : RdT w A n l) (hw : ∀ s ∈ l, s.why.length ≤ 1000) (hm : m ≤ 1000) (hrb : Rd w B m (ivs bad)) :
    Calls Try.prog 31 #[.slice A n c, .slice B m cb] w fun e w' => e = .returned (.bool b) ∧ Below w.heap.size w w' := by
  subst hg; exact ref_GoodS A n c l B m cb bad w hn hnc hr hw hm hrb
set_option maxRecDepth 8000 in
set_option maxHeartbeats 4000000 in
theorem ref_FirstS (A : Option Addr) (n c : Nat) (l : List St) (B : Option Addr) (m cb : Nat) (bad : List Int) (w : World) (hn : n ≤ 1000) (hnc : n ≤ c) (hr : RdT w A n l) (hw : ∀ s ∈ l, s.why.length ≤ 1000) (hm : m ≤ 1000) (hrb : Rd w B m (ivs bad)) :
    Calls Try.prog 29 #[.slice A n c, .slice B m cb] w (FirstR l bad w) := by
  have hnI : (n : Int) ≤ 1000 := by omega
  have hmI : (m : Int) ≤ 1000 := by omega
  have hll := hide hr.1
  obtain ⟨g, hg⟩ : ∃ g, goodB l bad = g := ⟨_, rfl⟩
  have HG := hide (ref_GoodB (c := c) (cb := cb) hg w hn hnc hr hw hm hrb)
  replace hw := hide hw
  cases g with
  | false =>
    have hF := hide (fun w' hb => first_bad (w := w) (w' := w') (.inl hg) hb)
    clear hg
    go_enter Try.func29, Try.ntmps29
    go_wp2_with fail
    refine HG.out.mono ?_
    rintro e w2 ⟨rfl, hb2⟩
    go_wp2
    go_ret2
    exact hF.out _ hb2
  | true =>
    by_cases hn0 : n = 0
    · subst hn0
      have hF := hide (fun w' hb => first_bad (w := w) (w' := w') (bad := bad) (.inr (List.eq_nil_of_length_eq_zero hll.out)) hb)
      clear hg
      go_enter Try.func29, Try.ntmps29
      go_wp2_with fail
      refine HG.out.mono ?_
      rintro e w2 ⟨rfl, hb2⟩
      go_wp2
      go_ret2
      exact hF.out _ hb2
    · have hz1 : ((n : Int) == 0) = false := by simp; omega
      have hz2 : (n == 0) = false := by simp; omega
      have hne := hide (show l ≠ [] from fun h => by rw [h] at hll; have := hll.out; simp at this; omega)
      have hgp := hide (good_of hg)
      have hlits := hide (fun s (hs : s ∈ l) => hgp.out.1.lits (Nat.le_refl _) s (by rw [List.take_length]; exact hs))
      have hix : (n : Int) - 1 = ((n - 1 : Nat) : Int) := by omega
      have hixw : IntKind.i64.wrap ((n : Int) - 1) = ((n - 1 : Nat) : Int) := by rw [IntWalk.i64_in _ (by omega)]; omega
      obtain ⟨N1, hN1⟩ : ∃ N1, n - 1 = N1 := ⟨_, rfl⟩
      have hN1n : N1 < n := by omega
      have hN1w : IntKind.i64.wrap ((N1 : Nat) : Int) = (N1 : Int) := IntWalk.i64_in _ (by omega)
      have hlastS := hide (show lastL l = (stAt l N1).lev by unfold lastL; rw [hll.out, hN1])
      rw [hN1] at hix hixw
      obtain ⟨ad, s, z, rfl, hB, hs, c0, c1, c3, hwy⟩ := hr.get hN1n
      have hst := stAt_is hs
      obtain ⟨lt, lv, wy⟩ := s
      have hlast := hide (show lastL l = lv by rw [hlastS.out, hst])
      simp only at c1
      clear hs hst hlastS hwy c3 c0 hN1
      by_cases hlv : lv = 0
      · have hF := hide (fun w' hb => first_flat (w := w) (w' := w') (bad := bad) hg hne.out (by rw [hlast.out, hlv]) hb)
        have d1 : (lv == 0) = true := by simp [hlv]
        subst hlv
        clear hg
        go_enter Try.func29, Try.ntmps29
        go_wp2_with fail
        refine HG.out.mono ?_
        rintro e w2 ⟨rfl, hb2⟩
        have c1 := hb2.cell (by rw [add_block]; exact hB) |>.trans c1
        go_wp2
        go_ret2
        exact hF.out _ hb2
      · have d1 : (lv == 0) = false := by simp [hlv]
        go_enter Try.func29, Try.ntmps29
        go_wp2_with fail
        refine HG.out.mono ?_
        rintro e w2 ⟨rfl, hb2⟩
        have c1 := hb2.cell (by rw [add_block]; exact hB) |>.trans c1
        have hr2 := hr.below hb2 (Nat.le_refl _)
        have hrb2 := hrb.below hb2 (Nat.le_refl _)
        have hB2 := Nat.lt_of_lt_of_le hB hb2.size
        have HP := hide (fun W (hb : Below w2.heap.size w2 W) => ref_put (some ad) n c l none 0 0 [] B m cb bad 0 W hn (hr2.below hb (Nat.le_refl _)) hlits.out (by omega) (Rd.nil W none) hm (hrb2.below hb (Nat.le_refl _)) (fun x hx h1 _ => (mem_zero hgp.out.1 (Nat.le_refl _) h1 (by rw [List.take_length]; exact hgp.out.2 x hx)).1))
        clear HG
        go_wp2
        refine wp_region_slots [36, 37, 38, 39, 40, 41, 42, 43, 44, 45, 6, 7] (fun D g wz => g 0 = .slice (some ad) n c ∧ g 1 = .slice B m cb ∧ Below w2.heap.size w2 wz ∧ (D 0 → g 36 = .slice (some ad) n c) ∧ (D 1 → g 37 = .slice (some ad) n c) ∧ (D 2 → g 38 = .int .i64 n) ∧ (D 3 → g 39 = .int .i64 N1) ∧ (D 4 → g 40 = .pointer (some (ad.add (N1 * 3)))) ∧ (D 5 → g 41 = .pointer (some ⟨(ad.add (N1 * 3)).block, (ad.add (N1 * 3)).off + 1, none⟩)) ∧ (D 6 → g 42 = .int .i64 lv) ∧ (D 7 → g 43 = .slice (some ad) n c) ∧ (D 8 → g 44 = .slice B m cb) ∧ (D 9 → ∃ s : Sl, g 45 = s.val ∧ Rd wz s.A s.n (ivs (putP l [] bad 0))) ∧ (D 10 → g 6 = .int .i64 lv) ∧ (D 11 → ∃ s : Sl, g 7 = s.val ∧ Rd wz s.A s.n (ivs (putP l [] bad 0)))) (by kernel_rfl) (by kernel_rfl) 138 rfl (by kernel_rfl) ?h0 ?hstep ?hdone
        case h0 => exact ⟨rfl, rfl, (Dr.refl w2).drew.below _, nt0, nt0, nt0, nt0, nt0, nt0, nt0, nt0, nt0, nt0, nt0, nt0⟩
        case hstep =>
          intro D g wz i hi' hn hd' hI2
          obtain ⟨r0, r1, hbz, f0, f1, f2, f3, f4, f5, f6, f7, f8, f9, f10, f11⟩ := hI2
          have hi' : i < 12 := hi'
          rcases (show i = 0 ∨ i = 1 ∨ i = 2 ∨ i = 3 ∨ i = 4 ∨ i = 5 ∨ i = 6 ∨ i = 7 ∨ i = 8 ∨ i = 9 ∨ i = 10 ∨ i = 11 by omega) with rfl | rfl | rfl | rfl | rfl | rfl | rfl | rfl | rfl | rfl | rfl | rfl
          · -- 0
            refine slot_step rfl rfl (fun az hs K hK => ?_)
            have hK : Shut _ := hK
            have e0 := hs.get 0
            rw [r0] at e0
            go_simp
            exact hK.out _ _ ⟨r0, r1, hbz, fun _ => rfl, kp f1, kp f2, kp f3, kp f4, kp f5, kp f6, kp f7, kp f8, kp f9, kp f10, kp f11⟩
          · -- 1
            refine slot_step rfl rfl (fun az hs K hK => ?_)
            have hK : Shut _ := hK
            have e0 := hs.get 0
            rw [r0] at e0
            go_simp
            exact hK.out _ _ ⟨r0, r1, hbz, kp f0, fun _ => rfl, kp f2, kp f3, kp f4, kp f5, kp f6, kp f7, kp f8, kp f9, kp f10, kp f11⟩
          · -- 2
            have d1 := f1 (hd' 1 (by kernel_rfl))
            refine slot_step rfl rfl (fun az hs K hK => ?_)
            have hK : Shut _ := hK
            have e37 := hs.get 37
            rw [d1] at e37
            go_simp
            exact hK.out _ _ ⟨r0, r1, hbz, kp f0, kp f1, fun _ => rfl, kp f3, kp f4, kp f5, kp f6, kp f7, kp f8, kp f9, kp f10, kp f11⟩
          · -- 3
            have d2 := f2 (hd' 2 (by kernel_rfl))
            refine slot_step rfl rfl (fun az hs K hK => ?_)
            have hK : Shut _ := hK
            have e38 := hs.get 38
            rw [d2] at e38
            go_simp
            exact hK.out _ _ ⟨r0, r1, hbz, kp f0, kp f1, kp f2, fun _ => rfl, kp f4, kp f5, kp f6, kp f7, kp f8, kp f9, kp f10, kp f11⟩
          · -- 4
            have d0 := f0 (hd' 0 (by kernel_rfl))
            have d3 := f3 (hd' 3 (by kernel_rfl))
            refine slot_step rfl rfl (fun az hs K hK => ?_)
            have hK : Shut _ := hK
            have e36 := hs.get 36
            rw [d0] at e36
            have e39 := hs.get 39
            rw [d3] at e39
            go_simp
            exact hK.out _ _ ⟨r0, r1, hbz, kp f0, kp f1, kp f2, kp f3, fun _ => rfl, kp f5, kp f6, kp f7, kp f8, kp f9, kp f10, kp f11⟩
          · -- 5
            have d4 := f4 (hd' 4 (by kernel_rfl))
            refine slot_step rfl rfl (fun az hs K hK => ?_)
            have hK : Shut _ := hK
            have e40 := hs.get 40
            rw [d4] at e40
            go_simp
            exact hK.out _ _ ⟨r0, r1, hbz, kp f0, kp f1, kp f2, kp f3, kp f4, fun _ => rfl, kp f6, kp f7, kp f8, kp f9, kp f10, kp f11⟩
          · -- 6
            have d5 := f5 (hd' 5 (by kernel_rfl))
            refine slot_step rfl rfl (fun az hs K hK => ?_)
            have hK : Shut _ := hK
            have cz := (hbz.cell (by rw [add_block]; exact hB2)).trans c1
            have e41 := hs.get 41
            rw [d5] at e41
            go_simp
            exact hK.out _ _ ⟨r0, r1, hbz, kp f0, kp f1, kp f2, kp f3, kp f4, kp f5, fun _ => rfl, kp f7, kp f8, kp f9, kp f10, kp f11⟩
          · -- 7
            refine slot_step rfl rfl (fun az hs K hK => ?_)
            have hK : Shut _ := hK
            have e0 := hs.get 0
            rw [r0] at e0
            go_simp
            exact hK.out _ _ ⟨r0, r1, hbz, kp f0, kp f1, kp f2, kp f3, kp f4, kp f5, kp f6, fun _ => rfl, kp f8, kp f9, kp f10, kp f11⟩
          · -- 8
            refine slot_step rfl rfl (fun az hs K hK => ?_)
            have hK : Shut _ := hK
            have e1 := hs.get 1
            rw [r1] at e1
            go_simp
            exact hK.out _ _ ⟨r0, r1, hbz, kp f0, kp f1, kp f2, kp f3, kp f4, kp f5, kp f6, kp f7, fun _ => rfl, kp f9, kp f10, kp f11⟩
          · -- 9
            have d7 := f7 (hd' 7 (by kernel_rfl))
            have d8 := f8 (hd' 8 (by kernel_rfl))
            refine slot_step rfl rfl (fun az hs K hK => ?_)
            have hK : Shut _ := hK
            have e43 := hs.get 43
            rw [d7] at e43
            have e44 := hs.get 44
            rw [d8] at e44
            go_wp2_with (go_at_call 88; refine (HP.out wz hbz).mono ?_; rintro e wy ⟨A2, n2, c2, rfl, hr3, hbs⟩)
            exact ⟨r0, r1, hbz.trans (hbs.mono hbz.size), kp f0, kp f1, kp f2, kp f3, kp f4, kp f5, kp f6, kp f7, kp f8, fun _ => ⟨⟨A2, n2, c2⟩, rfl, hr3⟩, kp f10, fun h => h.elim (fun e => absurd e (by decide)) (fun h => by obtain ⟨s2, h1, h2⟩ := (f11 h); exact ⟨s2, h1, h2.below hbs (Nat.le_refl _)⟩)⟩
          · -- 10
            have d6 := f6 (hd' 6 (by kernel_rfl))
            refine slot_step rfl rfl (fun az hs K hK => ?_)
            have hK : Shut _ := hK
            have e42 := hs.get 42
            rw [d6] at e42
            go_simp
            exact hK.out _ _ ⟨r0, r1, hbz, kp f0, kp f1, kp f2, kp f3, kp f4, kp f5, kp f6, kp f7, kp f8, kp f9, fun _ => rfl, kp f11⟩
          · -- 11
            have d9 := f9 (hd' 9 (by kernel_rfl))
            refine slot_step rfl rfl (fun az hs K hK => ?_)
            have hK : Shut _ := hK
            obtain ⟨s2, hs2, hrs2⟩ := d9
            have e45 := hs.get 45
            rw [hs2] at e45
            go_simp
            exact hK.out _ _ ⟨r0, r1, hbz, kp f0, kp f1, kp f2, kp f3, kp f4, kp f5, kp f6, kp f7, kp f8, kp f9, kp f10, fun _ => ⟨s2, rfl, hrs2⟩⟩
        case hdone =>
          rintro D g wz hD ⟨r0, r1, hbz, f0, f1, f2, f3, f4, f5, f6, f7, f8, f9, f10, f11⟩
          simp only [setAll, List.foldl_cons, List.foldl_nil, List.setIfInBounds_toArray, List.set_cons_succ, List.set_cons_zero]
          have e6 := f10 (hD 10)
          obtain ⟨s3, e7, hrs⟩ := f11 (hD 11)
          rw [e6, e7]
          have hbw := hide (hb2.trans (hbz.mono hb2.size))
          clear f0 f1 f2 f3 f4 f5 f6 f7 f8 f9 f10 f11 e6 e7 hD r0 r1 HP hbz
          obtain ⟨w4, hw4⟩ : ∃ w4, w4 = wz := ⟨_, rfl⟩
          subst hw4
          clear c1 hr2 hrb2 hB2 hb2
          go_wp2
          go_loopw [7, 9] (fun v a wr => ∃ (N n2 c2 : Nat) (A2 : Option Addr), v = .slice A2 n2 c2 ∧ Rd wr A2 n2 (ivs (cN l bad N)) ∧ Hid (∀ j, j < N → 2 ≤ hereP l (cN l bad j)) ∧ Hid ((N = 0 ∧ mz a = 100000) ∨ ∃ M, N = M + 1 ∧ a = .int .i64 (topP l (cN l bad M))) ∧ Hid (Below w.heap.size w wr)) (fun _ a _ => mz a)
          case atStart => exact ⟨0, s3.n, s3.c, s3.A, rfl, hrs, hide (fun j hj => absurd hj (Nat.not_lt_zero _)), hide (.inl ⟨rfl, rfl⟩), hbw⟩
          case round =>
            obtain ⟨K, n5, c5, A5, rfl, hr5, hge, hat, hb5⟩ := hrel
            have hcl := hide (cl_all hgp.out K hge.out)
            have hcn := cl_len hcl.out
            have h5l := hr5.len
            have hr6 := hr.below hb5.out (Nat.le_refl _)
            have hMe := hide (show ∀ tp : Nat, topP l (cN l bad K) = tp → 1 ≤ hereP l (cN l bad K) → tp ≤ 1000 → mz (.int .i64 tp) < mz u9 from fun tp ht hh hle => by
              rcases hat.out with ⟨_, h⟩ | ⟨M, rfl, h⟩
              · rw [h]; show ((tp : Nat) : Int).toNat < 100000; omega
              · have hgm := fun j (hj : j < M) => hge.out j (by omega)
                have hc2 := (cl_step hgp.out (cl_all hgp.out M hgm) (by have := hge.out M (by omega); omega)).2
                obtain ⟨y, hy, hyl, hyt, _⟩ := top_lt hcl.out hh
                have h3 := hc2 y hy hyl
                rw [h]
                show ((tp : Nat) : Int).toNat < (topP l (cN l bad M)).toNat
                omega)
            obtain ⟨C, hC⟩ : ∃ C, cN l bad K = C := ⟨_, rfl⟩
            rw [hC] at hr5 hcl hcn h5l hMe
            have hC := hide hC
            clear hat
            have h5n : n5 ≤ 1000 := by have := hll.out; omega
            clear hcn
            go_wp2
            go_loop [8, 9, 10] (fun h a i => ∃ q : Nat, q ≤ n5 ∧ i = .int .i64 q ∧ h = .int .i64 (hereP l (C.take q)) ∧ a = .int .i64 (topP l (C.take q))) (fun _ _ i => n5 - (intOf i).toNat)
            case atStart => exact ⟨0, Nat.zero_le _, rfl, rfl, rfl⟩
            case round =>
              obtain ⟨q, hq, rfl, rfl, rfl⟩ := hrel
              have hqI : (q : Int) ≤ 1000 := by omega
              by_cases hlt : q < n5
              · obtain ⟨ax, x, rfl, hBx, hx, hcx⟩ := hr5.get hlt
                have hM2 := (hcl.out.mem x (List.mem_of_getElem? hx)).1
                have hht := here_take (l := l) hx
                have hHl : hereP l (C.take q) ≤ 1000 := by have : hereP l (C.take q) ≤ (C.take q).length := List.length_filter_le _ _; rw [List.length_take] at this; omega
                obtain ⟨hh, hH⟩ : ∃ hh, hereP l (C.take q) = hh := ⟨_, rfl⟩
                obtain ⟨T, hT⟩ : ∃ T, topP l (C.take q) = T := ⟨_, rfl⟩
                rw [hH, hT] at hht
                rw [hH] at hHl ⊢
                rw [hT]
                have hHI : (hh : Int) ≤ 1000 := by omega
                obtain ⟨hx0, hx1⟩ := good_iff.1 hM2.good
                have HPl := hide (ref_place (some ad) n c l x wr hn hr6 hlits.out ⟨hx0, hx1⟩)
                have hp := hM2.place
                have hpl := hM2.lt
                have hlev : levOf l x = (stAt l (plN l x)).lev := rfl
                unfold top1 at hht
                obtain ⟨p, hpe⟩ : ∃ p, plN l x = p := ⟨_, rfl⟩
                rw [hpe] at hp hpl hlev hht
                rw [hp, show placeZ (some p) = (p : Int) from rfl] at HPl
                have hpn : p < n := by rw [← hll.out]; exact hpl
                have hpI : (p : Int) < n := by omega
                obtain ⟨ad2, s, z2, had, hB2, hs, c0, c1, c3, hwy⟩ := hr6.get hpn
                injection had with had
                subst had
                rw [stAt_is hs] at hlev
                obtain ⟨lt2, lv2, wy2⟩ := s
                simp only at c1 hlev
                rw [hlev, hlast.out] at hht
                replace hht := hide hht
                clear hx hM2 hH hT hp hpl hlev hpe hs c0 c3 hwy
                by_cases h1 : lv2 = lv
                · have e1 : (lv2 == lv) = true := by simp [h1]
                  subst h1
                  have hF1 := hide (show hereP l (C.take (q + 1)) = hh + 1 by have := hht.out.1; simpa using this)
                  by_cases h2 : T < (p : Int)
                  · have e2 : decide (T < (p : Int)) = true := decide_eq_true h2
                    have hF2 := hide (show topP l (C.take (q + 1)) = p by have := hht.out.2; simpa [h2] using this)
                    clear hht
                    go_wp2_with fail
                    refine HPl.out.mono ?_
                    rintro e w5 ⟨rfl, rfl⟩
                    go_wp2
                    go_round
                    case rel => exact ⟨q + 1, hlt, by go_num, by rw [hF1.out]; go_num, by rw [hF2.out]⟩
                    case measure => simp [intOf]; omega
                  · have e2 : decide (T < (p : Int)) = false := decide_eq_false h2
                    have hF2 := hide (show topP l (C.take (q + 1)) = T by have := hht.out.2; simpa [h2] using this)
                    clear hht
                    go_wp2_with fail
                    refine HPl.out.mono ?_
                    rintro e w5 ⟨rfl, rfl⟩
                    go_wp2
                    go_round
                    case rel => exact ⟨q + 1, hlt, by go_num, by rw [hF1.out]; go_num, by rw [hF2.out]⟩
                    case measure => simp [intOf]; omega
                · have e1 : (lv2 == lv) = false := by simp [h1]
                  have hF1 := hide (show hereP l (C.take (q + 1)) = hh by have := hht.out.1; simpa [h1] using this)
                  have hF2 := hide (show topP l (C.take (q + 1)) = T by have := hht.out.2; simpa [h1] using this)
                  clear hht
                  go_wp2_with fail
                  refine HPl.out.mono ?_
                  rintro e w5 ⟨rfl, rfl⟩
                  go_wp2
                  go_round
                  case rel => exact ⟨q + 1, hlt, by go_num, by rw [hF1.out], by rw [hF2.out]⟩
                  case measure => simp [intOf]; omega
              · have hqn : n5 = q := by omega
                subst hqn
                have hfull : C.take n5 = C := by rw [← h5l, List.take_length]
                rw [hfull]
                obtain ⟨hh, hH⟩ : ∃ hh, hereP l C = hh := ⟨_, rfl⟩
                rw [hH] at hMe ⊢
                clear hfull hlt
                by_cases h0 : hh = 0
                · subst h0
                  have hF := hide (first_none hg hne.out hge.out (by rw [hC.out]; exact hH) hb5.out)
                  clear hMe hge
                  go_wp2
                  go_ret2
                  exact hF.out
                · by_cases h1 : hh = 1
                  · subst h1
                    have hF := hide (fun (w' : World) (A' : Option Addr) (n' c' : Nat) (b : Int) h1 h2 h3 h4 => first_some (w := w) (w' := w') (A' := A') (n' := n') (c' := c') (b := b) hg hne.out hge.out (by rw [hC.out]; exact hH) h1 h2 h3 h4)
                    rw [hC.out] at hF
                    clear hMe hge hH h0
                    go_wp2
                    go_loop [14, 15] (fun b i => ∃ q : Nat, q ≤ n5 ∧ i = .int .i64 q ∧ b = .int .i64 (backP l (C.take q))) (fun _ i => n5 - (intOf i).toNat)
                    case atStart => exact ⟨0, Nat.zero_le _, rfl, rfl⟩
                    case round =>
                      obtain ⟨q, hq, rfl, rfl⟩ := hrel
                      have hqI : (q : Int) ≤ 1000 := by omega
                      by_cases hlt : q < n5
                      · obtain ⟨ax, x, rfl, hBx, hx, hcx⟩ := hr5.get hlt
                        have hM2 := (hcl.out.mem x (List.mem_of_getElem? hx)).1
                        have hbk := back_take (l := l) hx
                        obtain ⟨T, hT⟩ : ∃ T, backP l (C.take q) = T := ⟨_, rfl⟩
                        rw [hT] at hbk ⊢
                        obtain ⟨hx0, hx1⟩ := good_iff.1 hM2.good
                        have HPl := hide (ref_place (some ad) n c l x wr hn hr6 hlits.out ⟨hx0, hx1⟩)
                        have hp := hM2.place
                        have hpl := hM2.lt
                        have hlev : levOf l x = (stAt l (plN l x)).lev := rfl
                        obtain ⟨p, hpe⟩ : ∃ p, plN l x = p := ⟨_, rfl⟩
                        rw [hpe] at hp hpl hlev
                        rw [hp, show placeZ (some p) = (p : Int) from rfl] at HPl
                        have hpn : p < n := by rw [← hll.out]; exact hpl
                        have hpI : (p : Int) < n := by omega
                        obtain ⟨ad2, s, z2, had, hB2, hs, c0, c1, c3, hwy⟩ := hr6.get hpn
                        injection had with had
                        subst had
                        rw [stAt_is hs] at hlev
                        obtain ⟨lt2, lv2, wy2⟩ := s
                        simp only at c1 hlev
                        unfold back1 at hbk
                        rw [hlev, hlast.out] at hbk
                        replace hbk := hide hbk
                        clear hx hM2 hT hp hpl hlev hpe hs c0 c3 hwy
                        by_cases h1 : lv2 < lv
                        · have e1 : decide (lv2 < lv) = true := decide_eq_true h1
                          by_cases h2 : T < lv2
                          · have e2 : decide (T < lv2) = true := decide_eq_true h2
                            have hF1 := hide (show backP l (C.take (q + 1)) = lv2 by rw [hbk.out, if_pos ⟨h1, h2⟩])
                            clear hbk
                            go_wp2_with fail
                            refine HPl.out.mono ?_
                            rintro e w5 ⟨rfl, rfl⟩
                            go_wp2
                            go_round
                            case rel => exact ⟨q + 1, hlt, by go_num, by rw [hF1.out]⟩
                            case measure => simp [intOf]; omega
                          · have e2 : decide (T < lv2) = false := decide_eq_false h2
                            have hF1 := hide (show backP l (C.take (q + 1)) = T by rw [hbk.out, if_neg (fun h => h2 h.2)])
                            clear hbk
                            go_wp2_with fail
                            refine HPl.out.mono ?_
                            rintro e w5 ⟨rfl, rfl⟩
                            go_wp2
                            go_round
                            case rel => exact ⟨q + 1, hlt, by go_num, by rw [hF1.out]⟩
                            case measure => simp [intOf]; omega
                        · have e1 : decide (lv2 < lv) = false := decide_eq_false h1
                          have hF1 := hide (show backP l (C.take (q + 1)) = T by rw [hbk.out, if_neg (fun h => h1 h.1)])
                          clear hbk
                          go_wp2_with fail
                          refine HPl.out.mono ?_
                          rintro e w5 ⟨rfl, rfl⟩
                          go_wp2
                          go_round
                          case rel => exact ⟨q + 1, hlt, by go_num, by rw [hF1.out]⟩
                          case measure => simp [intOf]; omega
                      · have hqn : n5 = q := by omega
                        subst hqn
                        have hfull : C.take n5 = C := by rw [← h5l, List.take_length]
                        rw [hfull]
                        obtain ⟨T, hT⟩ : ∃ T, backP l C = T := ⟨_, rfl⟩
                        rw [hT]
                        clear hfull hlt
                        go_wp2_with fail
                        refine (ref_Sorted _ _ _ C wr h5n hr5).mono ?_
                        rintro e w5 ⟨A7, n7, c7, rfl, hn7, hr7, hb7⟩
                        go_wp2
                        go_ret2
                        exact hF.out _ A7 n7 c7 T (by omega) hr7 hT (hb5.out.trans (hb7.mono hb5.out.size))
                  · have hge2 : 2 ≤ hh := by omega
                    have e0 : ((hh : Int) == 0) = false := by simp; omega
                    have e1 : ((hh : Int) == 1) = false := by simp; omega
                    obtain ⟨zt, hzt, hztl, hzT, hztn⟩ := top_lt hcl.out (by omega)
                    obtain ⟨tp, htp⟩ : ∃ tp, plN l zt = tp := ⟨_, rfl⟩
                    rw [htp] at hzT hztn
                    have htn : tp < n := by rw [← hll.out]; exact hztn
                    have htI : (tp : Int) < n := by omega
                    have hMe2 := hide (hMe.out tp hzT (by omega) (by omega))
                    have hge3 := hide (show ∀ j, j < K + 1 → 2 ≤ hereP l (cN l bad j) from fun j hj => by
                      by_cases h : j = K
                      · subst h; rw [hC.out, hH]; exact hge2
                      · exact hge.out j (by omega))
                    have hst := hgp.out.1 tp hztn
                    have hnext := hide (show cN l bad (K + 1) = putP l (restP l tp C) (stAt l tp).why (stAt l tp).lit by
                      show stepP l (cN l bad K) = _
                      rw [hC.out]; unfold stepP; rw [hzT]; rfl)
                    have hnew := hide (show ∀ x ∈ (stAt l tp).why, 1 < x → x ≠ (stAt l tp).lit → Mem l x from fun x hx h1 hne => by
                      have hw := hst.why x hx
                      unfold whyB at hw
                      rw [Bool.or_eq_true] at hw
                      rcases hw with hw | hw
                      · exact absurd (by simpa using hw) hne
                      · exact (mem_zero hgp.out.1 (Nat.le_of_lt hztn) h1 hw).1)
                    rw [hzT]
                    have hzT2 := hide hzT
                    clear hMe hge hH hzT hzt hztl htp hst h0 h1
                    go_wp2
                    obtain ⟨wo, hwo⟩ : ∃ wo, wo = wr := ⟨_, rfl⟩
                    subst hwo
                    go_loopw [12, 13] (fun v i wr => ∃ q m2 : Nat, q ≤ n5 ∧ m2 ≤ q ∧ i = .int .i64 q ∧ wr.ownsRow wo.heap.size 3 1 v m2 (ivs (restP l tp (C.take q))) ∧ Below wo.heap.size wo wr) (fun _ i _ => n5 - (intOf i).toNat)
                    case atStart => exact ⟨0, 0, Nat.zero_le _, Nat.le_refl _, rfl, World.ownsRow_lit wo #[] 0 (Nat.le_refl _) (by unfold maxLen; omega) rfl, (Below.refl _ _).alloc (Nat.le_refl _) _⟩
                    case round =>
                      obtain ⟨q, m2, hq, hm2, rfl, hown, hb6⟩ := hrel
                      have hqI : (q : Int) ≤ 1000 := by omega
                      by_cases hlt : q < n5
                      · obtain ⟨ax, x, rfl, hBx, hx, hcx⟩ := (hr5.below hb6 (Nat.le_refl _)).get hlt
                        have hM2 := (hcl.out.mem x (List.mem_of_getElem? hx)).1
                        have hbk := rest_take (l := l) (a := tp) hx
                        obtain ⟨D2, hT⟩ : ∃ D2, restP l tp (C.take q) = D2 := ⟨_, rfl⟩
                        rw [hT] at hbk hown
                        obtain ⟨hx0, hx1⟩ := good_iff.1 hM2.good
                        have HPl := hide (ref_place (some ad) n c l x wr hn (hr6.below hb6 (Nat.le_refl _)) hlits.out ⟨hx0, hx1⟩)
                        have hp := hM2.place
                        have hpl := hM2.lt
                        obtain ⟨p, hpe⟩ : ∃ p, plN l x = p := ⟨_, rfl⟩
                        rw [hpe] at hp hpl hbk
                        rw [hp, show placeZ (some p) = (p : Int) from rfl] at HPl
                        replace hbk := hide hbk
                        clear hx hM2 hT hp hpl hpe
                        by_cases h1 : (p : Int) = tp
                        · have d2 : ((p : Int) != tp) = false := by simp [h1]
                          have d3 : ((p : Int) == tp) = true := by simp [h1]
                          have hF1 := hide (hbk.out.trans (if_pos h1))
                          clear hbk h1
                          go_wp2_with fail
                          refine HPl.out.mono ?_
                          rintro e w5 ⟨rfl, rfl⟩
                          go_wp2
                          go_roundw
                          case rel => exact ⟨q + 1, m2, hlt, by omega, by go_num, by rw [hF1.out]; exact hown, hb6⟩
                          case measure => simp [intOf]; omega
                        · have d2 : ((p : Int) != tp) = true := by simp [h1]
                          have d3 : ((p : Int) == tp) = false := by simp [h1]
                          have hF1 := hide (hbk.out.trans (if_neg h1))
                          clear hbk
                          go_wp2_with fail
                          refine HPl.out.mono ?_
                          rintro e w5 ⟨rfl, rfl⟩
                          go_wp2_with (at_builtin; refine wpList_push rfl _ _ _ rfl Try.underlying40 info_n rfl (by decide) rfl rfl hown hb6 (Nat.le_refl _) rfl (by simp [Value.oneCell']) (by unfold maxLen; omega) (by omega) ?_; intro v3 w3 hown3 hb3)
                          go_roundw
                          case rel => exact ⟨q + 1, m2 + 1, hlt, by omega, by go_num, by rw [hF1.out, ivs_app]; exact hown3, hb3⟩
                          case measure => simp [intOf]; omega
                      · have hqn : n5 = q := by omega
                        subst hqn
                        have hfull : C.take n5 = C := by rw [← h5l, List.take_length]
                        rw [hfull] at hown
                        obtain ⟨A7, c7, rfl, _, _, hr7⟩ := Rd.of_own hown
                        have hbw6 := hide (hb5.out.trans (hb6.mono hb5.out.size))
                        have hr8 := hr6.below hb6 (Nat.le_refl _)
                        obtain ⟨ad2, s, z2, had, hB2, hs, c0, c1, c3, hwy⟩ := hr8.get htn
                        injection had with had
                        subst had
                        rw [stAt_is hs] at hnext hnew
                        have hwl : z2.n ≤ 1000 := by have := hw.out s (List.mem_of_getElem? hs); have h2 := hwy.len; omega
                        obtain ⟨lt2, lv2, wy2⟩ := s
                        simp only at c0 c1 c3 hnext hnew hwy
                        obtain ⟨w6, hw6⟩ : ∃ w6, w6 = wr := ⟨_, rfl⟩
                        subst hw6
                        obtain ⟨zA, zn, zc⟩ := z2
                        simp only at hwl hwy
                        simp only [Sl.val] at c3
                        have HP := hide (fun W (hb : Below w6.heap.size w6 W) => ref_put (some ad) n c l A7 m2 c7 (restP l tp C) zA zn zc wy2 lt2 W hn (hr8.below hb (Nat.le_refl _)) hlits.out (by omega) (hr7.below hb (Nat.le_refl _)) hwl (hwy.below hb (Nat.le_refl _)) hnew.out)
                        clear hown hs hfull hlt
                        have hB6 : (ad.add (tp * 3)).block < w6.heap.size := by rw [add_block]; exact hB2
                        go_wp2
                        refine wp_region_slots [97, 98, 99, 100, 101, 102, 103, 104, 105, 106, 107, 108, 109, 7] (fun D g wz => g 0 = .slice (some ad) n c ∧ g 12 = .slice A7 m2 c7 ∧ g 9 = .int .i64 tp ∧ Below w6.heap.size w6 wz ∧ (D 0 → g 97 = .slice (some ad) n c) ∧ (D 1 → g 98 = .slice A7 m2 c7) ∧ (D 2 → g 99 = .slice (some ad) n c) ∧ (D 3 → g 100 = .int .i64 tp) ∧ (D 4 → g 101 = .pointer (some (ad.add (tp * 3)))) ∧ (D 5 → g 102 = .pointer (some ⟨(ad.add (tp * 3)).block, (ad.add (tp * 3)).off + 2, none⟩)) ∧ (D 6 → g 103 = .slice zA zn zc) ∧ (D 7 → g 104 = .slice (some ad) n c) ∧ (D 8 → g 105 = .int .i64 tp) ∧ (D 9 → g 106 = .pointer (some (ad.add (tp * 3)))) ∧ (D 10 → g 107 = .pointer (some (ad.add (tp * 3)))) ∧ (D 11 → g 108 = .int .i64 lt2) ∧ (D 12 → ∃ s : Sl, g 109 = s.val ∧ Rd wz s.A s.n (ivs (cN l bad (K + 1)))) ∧ (D 13 → ∃ s : Sl, g 7 = s.val ∧ Rd wz s.A s.n (ivs (cN l bad (K + 1))))) (by kernel_rfl) (by kernel_rfl) 138 rfl (by kernel_rfl) ?h0 ?hstep ?hdone
                        case h0 => exact ⟨rfl, rfl, rfl, (Dr.refl w6).drew.below _, nt0, nt0, nt0, nt0, nt0, nt0, nt0, nt0, nt0, nt0, nt0, nt0, nt0, nt0⟩
                        case hstep =>
                          intro D g wz i hi' hn hd' hI2
                          obtain ⟨r0, r12, r9, hbz, f0, f1, f2, f3, f4, f5, f6, f7, f8, f9, f10, f11, f12, f13⟩ := hI2
                          have hi' : i < 14 := hi'
                          rcases (show i = 0 ∨ i = 1 ∨ i = 2 ∨ i = 3 ∨ i = 4 ∨ i = 5 ∨ i = 6 ∨ i = 7 ∨ i = 8 ∨ i = 9 ∨ i = 10 ∨ i = 11 ∨ i = 12 ∨ i = 13 by omega) with rfl | rfl | rfl | rfl | rfl | rfl | rfl | rfl | rfl | rfl | rfl | rfl | rfl | rfl
                          · -- 0
                            refine slot_step rfl rfl (fun az hs K hK => ?_)
                            have hK : Shut _ := hK
                            have e0 := hs.get 0
                            rw [r0] at e0
                            go_simp
                            exact hK.out _ _ ⟨r0, r12, r9, hbz, fun _ => rfl, kp f1, kp f2, kp f3, kp f4, kp f5, kp f6, kp f7, kp f8, kp f9, kp f10, kp f11, kp f12, kp f13⟩
                          · -- 1
                            refine slot_step rfl rfl (fun az hs K hK => ?_)
                            have hK : Shut _ := hK
                            have e12 := hs.get 12
                            rw [r12] at e12
                            go_simp
                            exact hK.out _ _ ⟨r0, r12, r9, hbz, kp f0, fun _ => rfl, kp f2, kp f3, kp f4, kp f5, kp f6, kp f7, kp f8, kp f9, kp f10, kp f11, kp f12, kp f13⟩
                          · -- 2
                            refine slot_step rfl rfl (fun az hs K hK => ?_)
                            have hK : Shut _ := hK
                            have e0 := hs.get 0
                            rw [r0] at e0
                            go_simp
                            exact hK.out _ _ ⟨r0, r12, r9, hbz, kp f0, kp f1, fun _ => rfl, kp f3, kp f4, kp f5, kp f6, kp f7, kp f8, kp f9, kp f10, kp f11, kp f12, kp f13⟩
                          · -- 3
                            refine slot_step rfl rfl (fun az hs K hK => ?_)
                            have hK : Shut _ := hK
                            have e9 := hs.get 9
                            rw [r9] at e9
                            go_simp
                            exact hK.out _ _ ⟨r0, r12, r9, hbz, kp f0, kp f1, kp f2, fun _ => rfl, kp f4, kp f5, kp f6, kp f7, kp f8, kp f9, kp f10, kp f11, kp f12, kp f13⟩
                          · -- 4
                            have d2 := f2 (hd' 2 (by kernel_rfl))
                            have d3 := f3 (hd' 3 (by kernel_rfl))
                            refine slot_step rfl rfl (fun az hs K hK => ?_)
                            have hK : Shut _ := hK
                            have e99 := hs.get 99
                            rw [d2] at e99
                            have e100 := hs.get 100
                            rw [d3] at e100
                            go_simp
                            exact hK.out _ _ ⟨r0, r12, r9, hbz, kp f0, kp f1, kp f2, kp f3, fun _ => rfl, kp f5, kp f6, kp f7, kp f8, kp f9, kp f10, kp f11, kp f12, kp f13⟩
                          · -- 5
                            have d4 := f4 (hd' 4 (by kernel_rfl))
                            refine slot_step rfl rfl (fun az hs K hK => ?_)
                            have hK : Shut _ := hK
                            have e101 := hs.get 101
                            rw [d4] at e101
                            go_simp
                            exact hK.out _ _ ⟨r0, r12, r9, hbz, kp f0, kp f1, kp f2, kp f3, kp f4, fun _ => rfl, kp f6, kp f7, kp f8, kp f9, kp f10, kp f11, kp f12, kp f13⟩
                          · -- 6
                            have d5 := f5 (hd' 5 (by kernel_rfl))
                            refine slot_step rfl rfl (fun az hs K hK => ?_)
                            have hK : Shut _ := hK
                            have cz := (hbz.cell (by show (ad.add (tp * 3)).block < w6.heap.size; exact hB6)).trans c3
                            have e102 := hs.get 102
                            rw [d5] at e102
                            go_simp
                            exact hK.out _ _ ⟨r0, r12, r9, hbz, kp f0, kp f1, kp f2, kp f3, kp f4, kp f5, fun _ => rfl, kp f7, kp f8, kp f9, kp f10, kp f11, kp f12, kp f13⟩
                          · -- 7
                            refine slot_step rfl rfl (fun az hs K hK => ?_)
                            have hK : Shut _ := hK
                            have e0 := hs.get 0
                            rw [r0] at e0
                            go_simp
                            exact hK.out _ _ ⟨r0, r12, r9, hbz, kp f0, kp f1, kp f2, kp f3, kp f4, kp f5, kp f6, fun _ => rfl, kp f8, kp f9, kp f10, kp f11, kp f12, kp f13⟩
                          · -- 8
                            refine slot_step rfl rfl (fun az hs K hK => ?_)
                            have hK : Shut _ := hK
                            have e9 := hs.get 9
                            rw [r9] at e9
                            go_simp
                            exact hK.out _ _ ⟨r0, r12, r9, hbz, kp f0, kp f1, kp f2, kp f3, kp f4, kp f5, kp f6, kp f7, fun _ => rfl, kp f9, kp f10, kp f11, kp f12, kp f13⟩
                          · -- 9
                            have d7 := f7 (hd' 7 (by kernel_rfl))
                            have d8 := f8 (hd' 8 (by kernel_rfl))
                            refine slot_step rfl rfl (fun az hs K hK => ?_)
                            have hK : Shut _ := hK
                            have e104 := hs.get 104
                            rw [d7] at e104
                            have e105 := hs.get 105
                            rw [d8] at e105
                            go_simp
                            exact hK.out _ _ ⟨r0, r12, r9, hbz, kp f0, kp f1, kp f2, kp f3, kp f4, kp f5, kp f6, kp f7, kp f8, fun _ => rfl, kp f10, kp f11, kp f12, kp f13⟩
                          · -- 10
                            have d9 := f9 (hd' 9 (by kernel_rfl))
                            refine slot_step rfl rfl (fun az hs K hK => ?_)
                            have hK : Shut _ := hK
                            have e106 := hs.get 106
                            rw [d9] at e106
                            go_simp
                            exact hK.out _ _ ⟨r0, r12, r9, hbz, kp f0, kp f1, kp f2, kp f3, kp f4, kp f5, kp f6, kp f7, kp f8, kp f9, fun _ => rfl, kp f11, kp f12, kp f13⟩
                          · -- 11
                            have d10 := f10 (hd' 10 (by kernel_rfl))
                            refine slot_step rfl rfl (fun az hs K hK => ?_)
                            have hK : Shut _ := hK
                            have cz := (hbz.cell hB6).trans c0
                            have e107 := hs.get 107
                            rw [d10] at e107
                            go_simp
                            exact hK.out _ _ ⟨r0, r12, r9, hbz, kp f0, kp f1, kp f2, kp f3, kp f4, kp f5, kp f6, kp f7, kp f8, kp f9, kp f10, fun _ => rfl, kp f12, kp f13⟩
                          · -- 12
                            have d0 := f0 (hd' 0 (by kernel_rfl))
                            have d1 := f1 (hd' 1 (by kernel_rfl))
                            have d6 := f6 (hd' 6 (by kernel_rfl))
                            have d11 := f11 (hd' 11 (by kernel_rfl))
                            refine slot_step rfl rfl (fun az hs K hK => ?_)
                            have hK : Shut _ := hK
                            have e97 := hs.get 97
                            rw [d0] at e97
                            have e98 := hs.get 98
                            rw [d1] at e98
                            have e103 := hs.get 103
                            rw [d6] at e103
                            have e108 := hs.get 108
                            rw [d11] at e108
                            go_wp2_with (go_at_call 88; refine (HP.out wz hbz).mono ?_; rintro e wy ⟨A2, n2, c2, rfl, hr3, hbs⟩)
                            exact ⟨r0, r12, r9, hbz.trans (hbs.mono hbz.size), kp f0, kp f1, kp f2, kp f3, kp f4, kp f5, kp f6, kp f7, kp f8, kp f9, kp f10, kp f11, fun _ => ⟨⟨A2, n2, c2⟩, rfl, by rw [hnext.out]; exact hr3⟩, fun h => h.elim (fun e => absurd e (by decide)) (fun h => by obtain ⟨s2, h1, h2⟩ := (f13 h); exact ⟨s2, h1, h2.below hbs (Nat.le_refl _)⟩)⟩
                          · -- 13
                            have d12 := f12 (hd' 12 (by kernel_rfl))
                            refine slot_step rfl rfl (fun az hs K hK => ?_)
                            have hK : Shut _ := hK
                            obtain ⟨s2, hs2, hrs2⟩ := d12
                            have e109 := hs.get 109
                            rw [hs2] at e109
                            go_simp
                            exact hK.out _ _ ⟨r0, r12, r9, hbz, kp f0, kp f1, kp f2, kp f3, kp f4, kp f5, kp f6, kp f7, kp f8, kp f9, kp f10, kp f11, kp f12, fun _ => ⟨s2, rfl, hrs2⟩⟩
                        case hdone =>
                          rintro D g wz hD ⟨r0, r12, r9, hbz, f0, f1, f2, f3, f4, f5, f6, f7, f8, f9, f10, f11, f12, f13⟩
                          simp only [setAll, List.foldl_cons, List.foldl_nil, List.setIfInBounds_toArray, List.set_cons_succ, List.set_cons_zero]
                          obtain ⟨s3, e7, hrs⟩ := f13 (hD 13)
                          rw [e7]
                          have hbw := hide (hbw6.out.trans (hbz.mono hbw6.out.size))
                          clear f0 f1 f2 f3 f4 f5 f6 f7 f8 f9 f10 f11 f12 f13 e7 hD r0 r12 r9 HP hbz
                          go_wp2
                          go_roundw
                          case rel => exact ⟨K + 1, s3.n, s3.c, s3.A, rfl, hrs, hge3, hide (.inr ⟨K, rfl, by rw [hC.out, hzT2.out]⟩), hbw⟩
                          case measure => exact hMe2.out
end Go.Proofs.Ytcjoohaagdihlaa.Learn
