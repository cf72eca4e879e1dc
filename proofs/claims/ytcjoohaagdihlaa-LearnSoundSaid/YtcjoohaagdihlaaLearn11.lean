/- The program's First: what is learned of steps. -/
import Derived.Test.YtcjoohaagdihlaaLearn10
import Derived.Test.YtcjoohaagdihlaaSorted2
namespace Go.Proofs.Ytcjoohaagdihlaa.Learn
open Go.RowKit Go.Lt Go.Proofs.Ytcjoohaagdihlaa.Lit Go.Proofs.Ytcjoohaagdihlaa.Sorted Go.Instr
open Go.Proofs.Ytcjoohaagdihlaa.Kept (Sl Sl.val addr_off)
set_option linter.unusedVariables false
set_option linter.unusedSimpArgs false

def FirstW (r : Option (List Int × Int)) (e : Ending) (w' : World) : Prop :=
  match r with
  | none => e = .returned (.tuple #[.slice none 0 0, .int .i64 0, .bool false])
  | some (c, b) => ∃ A' n' c', e = .returned (.tuple #[.slice A' n' c', .int .i64 b, .bool true]) ∧ n' ≤ 1000 ∧ Rd w' A' n' (ivs c)
def FirstQ (l : List St) (bad : List Int) (w : World) (e : Ending) (w' : World) : Prop := ∃ r, FirstIs l bad r ∧ FirstW r e w' ∧ Below w.heap.size w w'
abbrev noneV : Ending := .returned (.tuple #[.slice none 0 0, .int .i64 0, .bool false])
theorem q_bad {l : List St} {bad : List Int} {w w' : World} (h : goodB l bad = false ∨ l = []) (hb : Below w.heap.size w w') : FirstQ l bad w noneV w' := ⟨none, .inl ⟨h, rfl⟩, rfl, hb⟩
theorem q_none {l : List St} {bad : List Int} {w w' : World} {n : Nat} (h : goodB l bad = true) (hl : l ≠ []) (hj : ∀ j, j < n → 2 ≤ hereP l (cN l bad j)) (h0 : hereP l (cN l bad n) = 0) (hb : Below w.heap.size w w') : FirstQ l bad w noneV w' :=
  ⟨none, .inr ⟨h, hl, n, hj, by omega, by rw [if_neg (by omega)]⟩, rfl, hb⟩
theorem q_some {l : List St} {bad : List Int} {w w' : World} {n : Nat} {A' : Option Addr} {n' c' : Nat} {b : Int} (h : goodB l bad = true) (hl : l ≠ []) (hj : ∀ j, j < n → 2 ≤ hereP l (cN l bad j)) (h1 : hereP l (cN l bad n) = 1) (hn' : n' ≤ 1000) (hr : Rd w' A' n' (ivs (srt (cN l bad n)))) (hbk : backP l (cN l bad n) = b) (hb : Below w.heap.size w w') : FirstQ l bad w (.returned (.tuple #[.slice A' n' c', .int .i64 b, .bool true])) w' :=
  ⟨some (srt (cN l bad n), b), .inr ⟨h, hl, n, hj, by omega, by rw [if_pos h1, hbk]⟩, ⟨A', n', c', rfl, hn', hr⟩, hb⟩
theorem learn_GoodB {A : Option Addr} {n c : Nat} {l : List St} {B : Option Addr} {m cb : Nat} {bad : List Int} {b : Bool} (hg : goodB l bad = b) (w : World) (hn : n ≤ 1000) (hr : RdT w A n l) (hw : ∀ s ∈ l, s.why.length ≤ 1000) (hm : m ≤ 1000) (hrb : Rd w B m (ivs bad)) :
    Calls Try.prog 30 #[.slice A n c, .slice B m cb] w fun e w' => e = .returned (.bool b) ∧ Below w.heap.size w w' := by
  subst hg; exact learn_Good A n c l B m cb bad w hn hr hw hm hrb
/-- what the program's First keeps, ahead of the clause's map -/
structure Mq (w0 : World) (A : Option Addr) (n c : Nat) (c2 c7 M1 : Nat) (pl : List (Int × Value)) (W : World) : Prop where
  bel : Below w0.heap.size w0 W
  b2 : Blk W c2 44 #[.slice A n c]
  b7 : Blk W c7 107 #[.map (some M1)]
  m1 : MapS W encI M1 pl
  hM1 : w0.heap.size ≤ M1
theorem Mq.step {w0 : World} {A : Option Addr} {n c c2 c7 M1 : Nat} {pl : List (Int × Value)} {W W' : World} (h : Mq w0 A n c c2 c7 M1 pl W) (hb : Below W.heap.size W W') : Mq w0 A n c c2 c7 M1 pl W' :=
  ⟨h.bel.trans (hb.mono h.bel.size), h.b2.below hb h.b2.lt, h.b7.below hb h.b7.lt, h.m1.below hb h.m1.lt, h.hM1⟩
theorem Mq.turn {w0 : World} {A : Option Addr} {n c c2 c7 M1 : Nat} {pl pl' : List (Int × Value)} {W W' : World} (h : Mq w0 A n c c2 c7 M1 pl W) (hm : MapS W' encI M1 pl') (hf : Fr (fun q => q = M1) W W') : Mq w0 A n c c2 c7 M1 pl' W' :=
  ⟨h.bel.trans (hf.below h.bel.size (fun k e => by rw [e]; exact h.hM1)), hf.blk h.b2 (map_blk_ne h.m1 h.b2), hf.blk h.b7 (map_blk_ne h.m1 h.b7), hm, h.hM1⟩
/-- what the main loop keeps -/
structure FI (w0 : World) (A : Option Addr) (n c : Nat) (l : List St) (bad : List Int) (c2 c7 c10 M1 M2 : Nat) (pl : List (Int × Value)) (K a : Nat) (ml : List (Int × Value)) (W : World) : Prop where
  mp : Mp w0 A n c l c2 c7 c10 M1 M2 pl ml (cN l bad K) W
  two : ∀ j, j < K → 2 ≤ hereP l (cN l bad j)
  at_ : ∀ x ∈ cN l bad K, levOf l x = lastL l → plN l x < a
theorem rng_dr {w w' : World} {B r : Nat} {l todo : List (Int × Value)} (h : RngO w encI B r l todo) (hd : Dr w w') : RngO w' encI B r l todo := by obtain ⟨m, rfl⟩ := hd; exact h
theorem here_step {l : List St} {u v todo : List (Int × Value)} {x : Int} {y : Value} {q H0 : Nat} (h : q + hereP l (todo.map (·.1)) = H0) (ht : todo = u ++ (x, y) :: v) : (levOf l x = lastL l → q + 1 + hereP l ((u ++ v).map (·.1)) = H0) ∧ (levOf l x ≠ lastL l → q + hereP l ((u ++ v).map (·.1)) = H0) := by
  rw [ht, List.map_append, List.map_cons, here_mid] at h
  rw [List.map_append]
  refine ⟨fun e => ?_, fun e => ?_⟩
  · rw [if_pos e] at h; omega
  · rw [if_neg e] at h; omega
theorem here_flat {l : List St} {c : List Int} (hc : ClOk l c) (h : lastL l = 0) : hereP l c = 0 := by
  unfold hereP
  rw [List.length_eq_zero_iff, List.filter_eq_nil_iff]
  intro x hx
  have := (hc.mem x hx).2
  simp only [decide_eq_true_eq]
  omega
theorem here_le {l : List St} {c : List Int} (hc : ClOk l c) : hereP l c ≤ l.length := Nat.le_trans (List.length_filter_le _ _) (cl_len hc)
set_option maxRecDepth 8000 in
set_option maxHeartbeats 8000000 in
theorem learn_First (A : Option Addr) (n c : Nat) (l : List St) (B : Option Addr) (m cb : Nat) (bad : List Int) (w : World) (hn : n ≤ 1000) (hr : RdT w A n l) (hw : ∀ s ∈ l, s.why.length ≤ 1000) (hm : m ≤ 1000) (hrb : Rd w B m (ivs bad)) :
    Calls Try.prog 27 #[.slice A n c, .slice B m cb] w (FirstQ l bad w) := by
  have hnI : (n : Int) ≤ 1000 := by omega
  have hmI : (m : Int) ≤ 1000 := by omega
  have hll := hide hr.1
  have hmm := @run_makeMap Try.prog
  have hsf := store_func Try.prog
  obtain ⟨g, hg⟩ : ∃ g, goodB l bad = g := ⟨_, rfl⟩
  have hb0 := (Below.refl w.heap.size w).alloc (Nat.le_refl _) (.cells #[.slice A n c] 44)
  have k2 := Blk.new w 44 #[.slice A n c]
  obtain ⟨w1, hw1⟩ : ∃ w1, w.alloc (.cells #[.slice A n c] 44) = w1 := ⟨_, rfl⟩
  have hz1 : w1.heap.size = w.heap.size + 1 := by rw [← hw1]; simp
  have HG := hide (learn_GoodB (c := c) (cb := cb) hg w1 hn (by rw [← hw1]; exact hr.below hb0 (Nat.le_refl _)) hw hm (by rw [← hw1]; exact hrb.below hb0 (Nat.le_refl _)))
  rw [hw1] at hb0 k2
  have b2 : w1.cell? ⟨w.heap.size, 0, none⟩ = some (.slice A n c) := k2.cell 0
  replace hw := hide hw
  cases g with
  | false =>
    have hF := hide (fun w' hb => q_bad (w := w) (w' := w') (.inl hg) hb)
    clear hg
    go_enter Try.func27, Try.ntmps27
    go_wp2
    go_step3
    go_wp2_with fail
    refine HG.out.mono ?_
    rintro e w2 ⟨rfl, hb2⟩
    go_wp2
    rw [Exit.noGoto_ret]
    go_ret3
    exact hF.out _ (hb0.trans (hb2.mono (by omega)))
  | true =>
    by_cases hn0 : n = 0
    · subst hn0
      have hF := hide (fun w' hb => q_bad (w := w) (w' := w') (bad := bad) (.inr (List.eq_nil_of_length_eq_zero hll.out)) hb)
      clear hg
      go_enter Try.func27, Try.ntmps27
      go_wp2
      go_step3
      go_wp2_with fail
      refine HG.out.mono ?_
      rintro e w2 ⟨rfl, hb2⟩
      have b2 : w2.cell? ⟨w.heap.size, 0, none⟩ = some (.slice A 0 c) := (k2.below hb2 (by omega)).cell 0
      go_wp2
      rw [Exit.noGoto_ret]
      go_ret3
      exact hF.out _ (hb0.trans (hb2.mono (by omega)))
    · have hz1 : ((n : Int) == 0) = false := by simp; omega
      have hz2 : (n == 0) = false := by simp; omega
      have hne := hide (show l ≠ [] from fun h => by rw [h] at hll; have := hll.out; simp at this; omega)
      have hgp := hide (good_of hg)
      have hix : (n : Int) - 1 = ((n - 1 : Nat) : Int) := by omega
      have hixw : IntKind.i64.wrap ((n : Int) - 1) = ((n - 1 : Nat) : Int) := by rw [IntWalk.i64_in _ (by omega)]; omega
      obtain ⟨N1, hN1⟩ : ∃ N1, n - 1 = N1 := ⟨_, rfl⟩
      have hN1n : N1 < n := by omega
      have hN1w : IntKind.i64.wrap ((N1 : Nat) : Int) = (N1 : Int) := IntWalk.i64_in _ (by omega)
      have hlastS := hide (show lastL l = (stAt l N1).lev by unfold lastL; rw [hll.out, hN1])
      rw [hN1] at hix hixw
      go_enter Try.func27, Try.ntmps27
      go_wp2
      go_step3
      go_wp2_with fail
      refine HG.out.mono ?_
      rintro e w2 ⟨rfl, hb2⟩
      have b2 : w2.cell? ⟨w.heap.size, 0, none⟩ = some (.slice A n c) := (k2.below hb2 (by omega)).cell 0
      have hlits := hide (fun s (hs : s ∈ l) => hgp.out.1.lits (Nat.le_refl _) s (by rw [List.take_length]; exact hs))
      obtain ⟨W3, hW3⟩ : ∃ W3, (w2.alloc (.map #[] 0)).alloc (.cells #[.map (some w2.heap.size)] 107) = W3 := ⟨_, rfl⟩
      have hb3 : Below w2.heap.size w2 W3 := by rw [← hW3]; exact ((Below.refl w2.heap.size w2).alloc (Nat.le_refl _) _).alloc (by simp) _
      have k3 : Blk W3 w.heap.size 44 #[.slice A n c] := (k2.below hb2 (by omega)).below hb3 (by have := hb2.size; omega)
      have b3 : W3.cell? ⟨w.heap.size, 0, none⟩ = some (.slice A n c) := k3.cell 0
      have k7 : Blk W3 (w2.heap.size + 1) 107 #[.map (some w2.heap.size)] := by
        have := Blk.new (w2.alloc (.map #[] 0)) 107 #[.map (some w2.heap.size)]
        rw [hW3] at this; simpa using this
      have hm3 : MapS W3 encI w2.heap.size [] := by rw [← hW3]; exact (MapS.made w2 encI).alloc _
      have hb03 := hide (hb0.trans ((hb2.mono (by omega)).trans (hb3.mono (by have := hb2.size; omega))))
      obtain ⟨ad, s0, z0, rfl, hB, _⟩ := hr.get hN1n
      have hMq0 := hide (show Mq w (some ad) n c w.heap.size (w2.heap.size + 1) w2.heap.size [] W3 from ⟨hb03.out, k3, k7, hm3, by have := hb2.size; omega⟩)
      have hM1b : w.heap.size + 1 ≤ w2.heap.size := by have := hb2.size; omega
      clear k2 hb2 hb3 k3 k7 hm3 hb03 hb0 HG
      go_wp2
      clear b3 hW3 b2 hw1 hz1
      obtain ⟨M1, hM1⟩ : ∃ M1, w2.heap.size = M1 := ⟨_, rfl⟩
      rw [hM1] at hMq0 hM1b ⊢
      go_loopw [32] (fun i wr => ∃ (k : Nat) (pl : List (Int × Value)), k ≤ n ∧ i = .int .i64 k ∧ Hid (PlTo l k pl) ∧ Hid (Mq w (some ad) n c w.heap.size (M1 + 1) M1 pl wr)) (fun i _ => n - (intOf i).toNat)
      case atStart => exact ⟨0, [], Nat.zero_le _, rfl, hide (pl_nil l), hMq0⟩
      case round =>
        obtain ⟨k, pl, hk, rfl, hpl, hMq⟩ := hrel
        have hkI : (k : Int) ≤ 1000 := by omega
        by_cases hlt : k < n
        · have hltI : (k : Int) < n := by omega
          obtain ⟨ad2, s, z, had, hB2, hs, d0, d1, d3, hwy⟩ := (hr.below hMq.out.bel (Nat.le_refl _)).get hlt
          injection had with had
          subst had
          have hkl : k < l.length := by rw [hll.out]; exact hlt
          have hst := stAt_is hs
          have hplN := hide (pl_put hgp.out hkl hpl.out)
          rw [hst] at hplN
          obtain ⟨lt, lv, wy⟩ := s
          obtain ⟨zA, zn, zc⟩ := z
          simp only [Sl.val] at d0 d1 d3 hplN
          have hbs := (Below.refl wr.heap.size wr).alloc (Nat.le_refl _) (.cells #[.int .i64 lt, .int .i64 lv, .slice zA zn zc] 106)
          have bX := Blk.new wr 106 #[.int .i64 lt, .int .i64 lv, .slice zA zn zc]
          obtain ⟨W1, hW1⟩ : ∃ W1, wr.alloc (.cells #[.int .i64 lt, .int .i64 lv, .slice zA zn zc] 106) = W1 := ⟨_, rfl⟩
          rw [hW1] at hbs bX
          have hMq1 := hide (hMq.out.step hbs)
          have hc9w := hMq.out.b7.lt
          have hcM := hMq.out.m1.lt
          obtain ⟨c9, hc9⟩ : ∃ c9, wr.heap.size = c9 := ⟨_, rfl⟩
          rw [hc9] at bX hc9w hcM
          have b0 : W1.cell? ⟨c9, 0, none⟩ = some (.int .i64 lt) := bX.cell 0
          have k7 : W1.cell? ⟨M1 + 1, 0, none⟩ = some (.map (some M1)) := hMq1.out.b7.cell 0
          have hmap := hide hMq1.out.m1
          obtain ⟨V, hV⟩ : ∃ V, litVar lt = V := ⟨_, rfl⟩
          have HV := hide (fun W => lit_Var lt W)
          rw [hV] at HV hplN
          clear hs hst hwy hV hpl bX hbs
          go_wp2
          refine wp_region_slots [37, 38, 39, 40, 41] (fun D g wz => g 7 = .pointer (some ⟨M1 + 1, 0, none⟩) ∧ g 9 = .pointer (some ⟨c9, 0, none⟩) ∧ g 8 = .int .i64 k ∧ Fr (fun q => q = M1) W1 wz ∧ (¬ D 5 → MapS wz encI M1 pl) ∧ (D 0 → g 37 = .map (some M1)) ∧ (D 1 → g 38 = .pointer (some ⟨c9, 0, none⟩)) ∧ (D 2 → g 39 = .int .i64 lt) ∧ (D 3 → g 40 = .int .i64 V) ∧ (D 4 → g 41 = .int .i64 k) ∧ (D 5 → MapS wz encI M1 (mput pl V (.int .i64 k)))) (by kernel_rfl) (by kernel_rfl) 144 rfl (by kernel_rfl) ?h0 ?hstep ?hdone
          case h0 => exact ⟨rfl, rfl, rfl, Fr.of_below (Dr.below (Dr.refl W1).drew _), (fun _ => hmap.out.dr (Dr.refl W1).drew), nt0, nt0, nt0, nt0, nt0, nt0⟩
          case hstep =>
            intro D g wz i hi' hn hd' hI2
            obtain ⟨r7, r9, r8, hfz, g5, f0, f1, f2, f3, f4, f5⟩ := hI2
            have hi' : i < 6 := hi'
            rcases (show i = 0 ∨ i = 1 ∨ i = 2 ∨ i = 3 ∨ i = 4 ∨ i = 5 by omega) with rfl | rfl | rfl | rfl | rfl | rfl
            · -- 0
              refine slot_step rfl rfl (fun az hs K hK => ?_)
              have hK : Shut _ := hK
              have cz := hfz.cell k7 (by show ¬ M1 + 1 = M1; omega)
              have e7 := hs.get 7
              rw [r7] at e7
              go_simp
              exact hK.out _ _ ⟨r7, r9, r8, hfz, (fun h => g5 (fun e => h (Or.inr e))), fun _ => rfl, kp f1, kp f2, kp f3, kp f4, kp f5⟩
            · -- 1
              refine slot_step rfl rfl (fun az hs K hK => ?_)
              have hK : Shut _ := hK
              have e9 := hs.get 9
              rw [r9] at e9
              go_simp
              exact hK.out _ _ ⟨r7, r9, r8, hfz, (fun h => g5 (fun e => h (Or.inr e))), kp f0, fun _ => rfl, kp f2, kp f3, kp f4, kp f5⟩
            · -- 2
              have d1 := f1 (hd' 1 (by kernel_rfl))
              refine slot_step rfl rfl (fun az hs K hK => ?_)
              have hK : Shut _ := hK
              have cz := hfz.cell b0 (by show ¬ c9 = M1; omega)
              have e38 := hs.get 38
              rw [d1] at e38
              go_simp
              exact hK.out _ _ ⟨r7, r9, r8, hfz, (fun h => g5 (fun e => h (Or.inr e))), kp f0, kp f1, fun _ => rfl, kp f3, kp f4, kp f5⟩
            · -- 3
              have d2 := f2 (hd' 2 (by kernel_rfl))
              refine slot_step rfl rfl (fun az hs K hK => ?_)
              have hK : Shut _ := hK
              have e39 := hs.get 39
              rw [d2] at e39
              go_wp2_with (go_at_call 84; refine (HV.out wz).mono ?_; rintro e wy ⟨rfl, rfl⟩; have hdr := Dr.refl wz)
              exact ⟨r7, r9, r8, hfz.trans (Fr.of_below (hdr.below _)), (fun h => (g5 (fun e => h (Or.inr e))).dr hdr), kp f0, kp f1, kp f2, fun _ => rfl, kp f4, fun h => h.elim (fun e => absurd e (by decide)) (fun h => MapS.dr (f5 h) hdr)⟩
            · -- 4
              refine slot_step rfl rfl (fun az hs K hK => ?_)
              have hK : Shut _ := hK
              have e8 := hs.get 8
              rw [r8] at e8
              go_simp
              exact hK.out _ _ ⟨r7, r9, r8, hfz, (fun h => g5 (fun e => h (Or.inr e))), kp f0, kp f1, kp f2, kp f3, fun _ => rfl, kp f5⟩
            · -- 5
              have d0 := f0 (hd' 0 (by kernel_rfl))
              have d3 := f3 (hd' 3 (by kernel_rfl))
              have d4 := f4 (hd' 4 (by kernel_rfl))
              refine slot_step rfl rfl (fun az hs K hK => ?_)
              have hK : Shut _ := hK
              have e37 := hs.get 37
              rw [d0] at e37
              have e40 := hs.get 40
              rw [d3] at e40
              have e41 := hs.get 41
              rw [d4] at e41
              refine oper_updateS (keyLaw_int Try.underlying3) mapI (.tmp 37) (.tmp 40) (.tmp 41) rfl (g5 hn) V (.int .i64 k) (hs.eval d0) (hs.eval d3) (hs.eval d4) ?_
              intro w2 hm2 hgr2 hsz2
              exact hK.out _ _ ⟨r7, r9, r8, hfz.trans (Fr.of_grown hgr2 (fun q e => .inl (by cases e; rfl))), (fun h => (h (by simp)).elim), kp f0, kp f1, kp f2, kp f3, kp f4, fun _ => hm2⟩
          case hdone =>
            rintro D g wz hD ⟨r7, r9, r8, hfz, g5, f0, f1, f2, f3, f4, f5⟩
            simp only [setAll, List.foldl_cons, List.foldl_nil, List.setIfInBounds_toArray, List.set_cons_succ, List.set_cons_zero]
            have hmN := hide (f5 (hD 5))
            have hfN := hide hfz
            clear f0 f1 f2 f3 f4 f5 g5 hfz hD r9 r7 r8
            go_wp2
            go_roundw
            case rel => exact ⟨k + 1, _, hlt, by go_num, hplN, hide (hMq1.out.turn hmN.out hfN.out)⟩
            case measure => simp [intOf]; omega
        · have hkn : n = k := by omega
          subst hkn
          obtain ⟨ad2, s, z, had, hB2, hs, _, d1, _, _⟩ := (hr.below hMq.out.bel (Nat.le_refl _)).get hN1n
          injection had with had
          subst had
          rw [stAt_is hs] at hlastS
          obtain ⟨lt, lv, wy⟩ := s
          simp only at d1 hlastS
          have k2 : wr.cell? ⟨w.heap.size, 0, none⟩ = some (.slice (some ad) n c) := hMq.out.b2.cell 0
          have hlt2 := hMq.out.b2.lt
          have hPl := hide (show PlIs l pl from fun i hi => hpl.out i (by rw [← hll.out]; exact hi))
          clear hs hpl
          go_wp2
          refine wp_region_slots [43, 44, 45, 46, 47, 48, 49, 50, 10, 11] (fun D g wz => g 2 = .pointer (some ⟨w.heap.size, 0, none⟩) ∧ Below wr.heap.size wr wz ∧ (D 9 → D 0 ∧ D 8) ∧ (D 0 → ∃ M, g 43 = .map (some M) ∧ MapS wz encI M ([] : List (Int × Value)) ∧ wr.heap.size ≤ M) ∧ (D 1 → g 44 = .slice (some ad) n c) ∧ (D 2 → g 45 = .slice (some ad) n c) ∧ (D 3 → g 46 = .int .i64 n) ∧ (D 4 → g 47 = .int .i64 N1) ∧ (D 5 → g 48 = .pointer (some (ad.add (N1 * 3)))) ∧ (D 6 → g 49 = .pointer (some ⟨(ad.add (N1 * 3)).block, (ad.add (N1 * 3)).off + 1, none⟩)) ∧ (D 7 → g 50 = .int .i64 lv) ∧ (D 8 → ∃ p x, g 10 = .pointer (some ⟨p, 0, none⟩) ∧ Blk wz p 108 #[x] ∧ wr.heap.size ≤ p) ∧ (D 9 → ∃ M p, g 43 = .map (some M) ∧ g 10 = .pointer (some ⟨p, 0, none⟩) ∧ Blk wz p 108 #[.map (some M)] ∧ MapS wz encI M ([] : List (Int × Value)) ∧ wr.heap.size ≤ M ∧ wr.heap.size ≤ p) ∧ (D 10 → g 11 = .int .i64 lv)) (by kernel_rfl) (by kernel_rfl) 144 rfl (by kernel_rfl) ?h0 ?hstep ?hdone
          case h0 => exact ⟨rfl, (Dr.refl wr).drew.below _, nt0, nt0, nt0, nt0, nt0, nt0, nt0, nt0, nt0, nt0, nt0, nt0⟩
          case hstep =>
            intro D g wz i hi' hn hd' hI2
            obtain ⟨r2, hbz, h9, f0, f1, f2, f3, f4, f5, f6, f7, f8, f9, f10⟩ := hI2
            have hi' : i < 11 := hi'
            rcases (show i = 0 ∨ i = 1 ∨ i = 2 ∨ i = 3 ∨ i = 4 ∨ i = 5 ∨ i = 6 ∨ i = 7 ∨ i = 8 ∨ i = 9 ∨ i = 10 by omega) with rfl | rfl | rfl | rfl | rfl | rfl | rfl | rfl | rfl | rfl | rfl
            · -- 0
              refine slot_step rfl rfl (fun az hs K hK => ?_)
              have hK : Shut _ := hK
              go_simp
              exact hK.out _ _ ⟨r2, hbz.alloc hbz.size _, (fun h => h.elim (fun e => absurd e (by decide)) (fun h => ⟨Or.inr (h9 h).1, Or.inr (h9 h).2⟩)), fun _ => ⟨wz.heap.size, rfl, MapS.made wz encI, hbz.size⟩, kp f1, kp f2, kp f3, kp f4, kp f5, kp f6, kp f7, fun h => h.elim (fun e => absurd e (by decide)) (fun h => let ⟨p, x, e1, e2, e3⟩ := (f8 h); ⟨p, x, e1, e2.alloc _, e3⟩), fun h => h.elim (fun e => absurd e (by decide)) (fun h => absurd (h9 h).1 hn), kp f10⟩
            · -- 1
              refine slot_step rfl rfl (fun az hs K hK => ?_)
              have hK : Shut _ := hK
              have cz := (hbz.cell hlt2).trans k2
              have e2 := hs.get 2
              rw [r2] at e2
              go_simp
              exact hK.out _ _ ⟨r2, hbz, (fun h => h.elim (fun e => absurd e (by decide)) (fun h => ⟨Or.inr (h9 h).1, Or.inr (h9 h).2⟩)), kp f0, fun _ => rfl, kp f2, kp f3, kp f4, kp f5, kp f6, kp f7, kp f8, kp f9, kp f10⟩
            · -- 2
              refine slot_step rfl rfl (fun az hs K hK => ?_)
              have hK : Shut _ := hK
              have cz := (hbz.cell hlt2).trans k2
              have e2 := hs.get 2
              rw [r2] at e2
              go_simp
              exact hK.out _ _ ⟨r2, hbz, (fun h => h.elim (fun e => absurd e (by decide)) (fun h => ⟨Or.inr (h9 h).1, Or.inr (h9 h).2⟩)), kp f0, kp f1, fun _ => rfl, kp f3, kp f4, kp f5, kp f6, kp f7, kp f8, kp f9, kp f10⟩
            · -- 3
              have d2 := f2 (hd' 2 (by kernel_rfl))
              refine slot_step rfl rfl (fun az hs K hK => ?_)
              have hK : Shut _ := hK
              have e45 := hs.get 45
              rw [d2] at e45
              go_simp
              exact hK.out _ _ ⟨r2, hbz, (fun h => h.elim (fun e => absurd e (by decide)) (fun h => ⟨Or.inr (h9 h).1, Or.inr (h9 h).2⟩)), kp f0, kp f1, kp f2, fun _ => rfl, kp f4, kp f5, kp f6, kp f7, kp f8, kp f9, kp f10⟩
            · -- 4
              have d3 := f3 (hd' 3 (by kernel_rfl))
              refine slot_step rfl rfl (fun az hs K hK => ?_)
              have hK : Shut _ := hK
              have e46 := hs.get 46
              rw [d3] at e46
              go_simp
              exact hK.out _ _ ⟨r2, hbz, (fun h => h.elim (fun e => absurd e (by decide)) (fun h => ⟨Or.inr (h9 h).1, Or.inr (h9 h).2⟩)), kp f0, kp f1, kp f2, kp f3, fun _ => rfl, kp f5, kp f6, kp f7, kp f8, kp f9, kp f10⟩
            · -- 5
              have d1 := f1 (hd' 1 (by kernel_rfl))
              have d4 := f4 (hd' 4 (by kernel_rfl))
              refine slot_step rfl rfl (fun az hs K hK => ?_)
              have hK : Shut _ := hK
              have e44 := hs.get 44
              rw [d1] at e44
              have e47 := hs.get 47
              rw [d4] at e47
              go_simp
              exact hK.out _ _ ⟨r2, hbz, (fun h => h.elim (fun e => absurd e (by decide)) (fun h => ⟨Or.inr (h9 h).1, Or.inr (h9 h).2⟩)), kp f0, kp f1, kp f2, kp f3, kp f4, fun _ => rfl, kp f6, kp f7, kp f8, kp f9, kp f10⟩
            · -- 6
              have d5 := f5 (hd' 5 (by kernel_rfl))
              refine slot_step rfl rfl (fun az hs K hK => ?_)
              have hK : Shut _ := hK
              have e48 := hs.get 48
              rw [d5] at e48
              go_simp
              exact hK.out _ _ ⟨r2, hbz, (fun h => h.elim (fun e => absurd e (by decide)) (fun h => ⟨Or.inr (h9 h).1, Or.inr (h9 h).2⟩)), kp f0, kp f1, kp f2, kp f3, kp f4, kp f5, fun _ => rfl, kp f7, kp f8, kp f9, kp f10⟩
            · -- 7
              have d6 := f6 (hd' 6 (by kernel_rfl))
              refine slot_step rfl rfl (fun az hs K hK => ?_)
              have hK : Shut _ := hK
              have cz := (hbz.cell (by show (ad.add (N1 * 3)).block < _; rw [add_block]; exact hB2)).trans d1
              have e49 := hs.get 49
              rw [d6] at e49
              go_simp
              exact hK.out _ _ ⟨r2, hbz, (fun h => h.elim (fun e => absurd e (by decide)) (fun h => ⟨Or.inr (h9 h).1, Or.inr (h9 h).2⟩)), kp f0, kp f1, kp f2, kp f3, kp f4, kp f5, kp f6, fun _ => rfl, kp f8, kp f9, kp f10⟩
            · -- 8
              refine slot_step rfl rfl (fun az hs K hK => ?_)
              have hK : Shut _ := hK
              go_simp
              exact hK.out _ _ ⟨r2, hbz.alloc hbz.size _, (fun h => h.elim (fun e => absurd e (by decide)) (fun h => ⟨Or.inr (h9 h).1, Or.inr (h9 h).2⟩)), fun h => h.elim (fun e => absurd e (by decide)) (fun h => let ⟨M, e1, e2, e3⟩ := (f0 h); ⟨M, e1, e2.alloc _, e3⟩), kp f1, kp f2, kp f3, kp f4, kp f5, kp f6, kp f7, fun _ => ⟨wz.heap.size, _, rfl, Blk.new wz _ _, hbz.size⟩, fun h => h.elim (fun e => absurd e (by decide)) (fun h => absurd (h9 h).2 hn), kp f10⟩
            · -- 9
              have d0 := f0 (hd' 0 (by kernel_rfl))
              have d8 := f8 (hd' 8 (by kernel_rfl))
              refine slot_step rfl rfl (fun az hs K hK => ?_)
              have hK : Shut _ := hK
              obtain ⟨M, eM, hM, hMb⟩ := d0
              obtain ⟨p, x, ep, hp, hpb⟩ := d8
              have cz := hp.cell 0
              have fz := hp.frozen 0
              have hMp := hM.setCell (p := ⟨p, 0, none⟩) (fun e => map_blk_ne hM hp e.symm) (.map (some M))
              have e43 := hs.get 43
              rw [eM] at e43
              have e10 := hs.get 10
              rw [ep] at e10
              go_simp
              exact hK.out undef _ ⟨r2, hbz.setCell hpb _, (fun _ => ⟨Or.inr (hd' 0 (by kernel_rfl)), Or.inr (hd' 8 (by kernel_rfl))⟩), fun _ => ⟨M, eM, hMp, hMb⟩, kp f1, kp f2, kp f3, kp f4, kp f5, kp f6, kp f7, fun _ => ⟨p, _, ep, hp.set_ 0 _, hpb⟩, fun _ => ⟨M, p, eM, ep, hp.set_ 0 _, hMp, hMb, hpb⟩, kp f10⟩
            · -- 10
              have d7 := f7 (hd' 7 (by kernel_rfl))
              refine slot_step rfl rfl (fun az hs K hK => ?_)
              have hK : Shut _ := hK
              have e50 := hs.get 50
              rw [d7] at e50
              go_simp
              exact hK.out _ _ ⟨r2, hbz, (fun h => h.elim (fun e => absurd e (by decide)) (fun h => ⟨Or.inr (h9 h).1, Or.inr (h9 h).2⟩)), kp f0, kp f1, kp f2, kp f3, kp f4, kp f5, kp f6, kp f7, kp f8, kp f9, fun _ => rfl⟩
          case hdone =>
            rintro D g wz hD ⟨r2, hbz, h9, f0, f1, f2, f3, f4, f5, f6, f7, f8, f9, f10⟩
            simp only [setAll, List.foldl_cons, List.foldl_nil, List.setIfInBounds_toArray, List.set_cons_succ, List.set_cons_zero]
            obtain ⟨M2, p10, e43, e10, hp10, hM2, hMb, hpb⟩ := f9 (hD 9)
            have e11 := f10 (hD 10)
            rw [e43, e10, e11]
            clear f0 f1 f2 f3 f4 f5 f6 f7 f8 f9 f10 hD r2 e43 e10 e11
            have hMq2 := hMq.out.step hbz
            have hM2w : w.heap.size ≤ M2 := Nat.le_trans hMq.out.bel.size hMb
            have hMp0 := hide (show Mp w (some ad) n c l w.heap.size (M1 + 1) p10 M1 M2 pl [] [] wz from ⟨hMq2.bel, hMq2.b2, hMq2.b7, hMq2.m1, hp10, hM2, hM2w, (by have := hMq.out.m1.lt; omega), hPl.out, ⟨fun x => rfl⟩⟩)
            clear hMq2 hp10 hM2 hbz hMq k2 hlt2 hB2 d1
            obtain ⟨w8, hw8⟩ : ∃ w8, w8 = wz := ⟨_, rfl⟩
            subst hw8
            have hPut := hide (first_put w (some ad) n c l w.heap.size (M1 + 1) p10 M1 M2 pl B m cb bad 0 w8 [] [] hn hr hMp0.out hm hrb (fun x hx h1 _ => (mem_zero hgp.out.1 (Nat.le_refl _) h1 (by rw [List.take_length]; exact hgp.out.2 x hx)).1))
            clear hMp0
            go_wp2_with fail
            refine hPut.out.mono ?_
            rintro e w9 ⟨⟨v, rfl⟩, ml1, hMp1⟩
            clear hPut
            replace hMp1 := hide hMp1
            have k2 : w9.cell? ⟨w.heap.size, 0, none⟩ = some (.slice (some ad) n c) := hMp1.out.b2.cell 0
            go_wp2
            go_step3
            go_wp2
            clear k2
            go_loopg [13] n (fun gk s13 wr => ∃ (a K : Nat) (ml : List (Int × Value)), s13 = .int .i64 a ∧ a ≤ n ∧ a ≤ gk ∧ Hid (FI w (some ad) n c l bad w.heap.size (M1 + 1) p10 M1 M2 pl K a ml wr))
            case atStart => exact ⟨n, 0, ml1, rfl, Nat.le_refl _, Nat.le_refl _, hide ⟨hMp1.out, fun j hj => absurd hj (Nat.not_lt_zero _), fun x hx _ => by rw [← hll.out]; exact ((cl_zero hgp.out).mem x hx).1.lt⟩⟩
            case round =>
              obtain ⟨a, K, ml, rfl, han, hagk, hF⟩ := hrel
              obtain ⟨wo, hwo⟩ : ∃ wo, wo = wr := ⟨_, rfl⟩
              subst hwo
              obtain ⟨gO, hgO⟩ : ∃ gO, gO = gk := ⟨_, rfl⟩
              subst hgO
              clear hMp1
              have hcl := hide (cl_all hgp.out K hF.out.two)
              obtain ⟨C, hC⟩ : ∃ C, cN l bad K = C := ⟨_, rfl⟩
              have hMp := hF.out.mp
              rw [hC] at hcl hMp
              replace hMp := hide hMp
              obtain ⟨H0, hH0⟩ : ∃ H0, hereP l C = H0 := ⟨_, rfl⟩
              have hH1 : H0 ≤ 1000 := by have := here_le hcl.out; rw [hll.out, hH0] at this; omega
              have hH1I : (H0 : Int) ≤ 1000 := by omega
              have hkeys := hide (in_keys hMp.out.in_ hMp.out.m2.keys hcl.out.nodup)
              have hvals := hide (hMp.out.in_.vals hMp.out.m2.keys)
              have k10 : wo.cell? ⟨p10, 0, none⟩ = some (.map (some M2)) := hMp.out.b10.cell 0
              replace hH0 := hide hH0
              replace hC := hide hC
              go_wp2_with (at_range; refine wpList_rangeO mapB rfl _ rfl hMp.out.m2 (by rfl) ?_; intro w6 hrng hbr hzr)
              go_frame
              clear k10
              have hbr := hide hbr
              have hrng := hide hrng
              go_loopg [14] ml.length (fun gk s14 wr => ∃ (q : Nat) (todo : List (Int × Value)), s14 = .int .i64 q ∧ todo.length ≤ gk ∧ Hid (q + hereP l (todo.map (·.1)) = H0) ∧ Hid (∀ p ∈ todo, p.1 ∈ C ∧ p.2 = .bool true) ∧ Hid (RngO wr encI M2 wo.heap.size ml todo) ∧ Hid (Below wo.heap.size wo wr))
              case atStart => exact ⟨0, ml, rfl, Nat.le_refl _, hide (by rw [Nat.zero_add, here_perm hkeys.out, hH0.out]), hvals, hrng, hbr⟩
              case round =>
                obtain ⟨q, todo, rfl, hgk2, hq, htd, hrg, hbe⟩ := hrel
                have hqI : (q : Int) ≤ 1000 := by have := hq.out; omega
                by_cases h0 : todo = []
                · subst h0
                  have hq0 : q = H0 := by have := hq.out; simpa [hereP] using this
                  subst hq0
                  have hMpR := hide (hMp.out.step hbe.out)
                  have hbw := hide (hMp.out.bel.trans (hbe.out.mono hMp.out.bel.size))
                  clear hq htd hrng hbr hmm
                  by_cases hz : q = 0
                  · subst hz
                    have hQ := hide (q_none hg hne.out hF.out.two (by rw [hC.out, hH0.out]) hbw.out)
                    clear hMp hMpR
                    go_wp2_with (at_next; refine wpList_nextI (mkV := fun _ : Unit => .bool true) rfl _ rfl (by rfl) hrg.out (fun p hp => absurd hp (List.not_mem_nil)) (fun _ => ?_) (fun x _ u0 u1 w7 htd2 _ _ _ _ => absurd htd2 (by simp)))
                    go_ret3
                    exact hQ.out
                  · have hlv : ¬ lv = 0 := fun e => hz (by rw [← hH0.out]; exact here_flat hcl.out (by rw [hlastS, e]))
                    have hlv2 : (lv == 0) = false := by simp [hlv]
                    have hqz : ¬ (q : Int) = 0 := by omega
                    have hqz2 : ((q : Int) == 0) = false := by simp; omega
                    by_cases hq1 : q = 1
                    · subst hq1
                      clear hMp hqz hqz2
                      have k10 : wr.cell? ⟨p10, 0, none⟩ = some (.map (some M2)) := hMpR.out.b10.cell 0
                      go_wp2_with first | (at_next; refine wpList_nextI (mkV := fun _ : Unit => .bool true) rfl _ rfl (by rfl) hrg.out (fun p hp => absurd hp (List.not_mem_nil)) (fun _ => ?_) (fun x _ u0 u1 w7 htd2 _ _ _ _ => absurd htd2 (by simp))) | (at_range; refine wpList_rangeO mapB rfl _ rfl hMpR.out.m2 (by rfl) ?_; intro w6 hrng hbr hzr)
                      obtain ⟨wq, hwq⟩ : ∃ wq, wq = wr := ⟨_, rfl⟩
                      subst hwq
                      clear k10
                      obtain ⟨B6, hB6⟩ : ∃ B6, w6.heap.size = B6 := ⟨_, rfl⟩
                      have hrB : wq.heap.size < B6 := by omega
                      have hMB : M2 < wq.heap.size := hMpR.out.m2.lt
                      replace hrng := hide hrng
                      replace hbr := hide hbr
                      clear hzr
                      go_loopg [16, 17] ml.length (fun gk s16 s17 wr => ∃ (don : List Int) (todo : List (Int × Value)), s17 = .int .i64 (backP l don) ∧ todo.length ≤ gk ∧ Hid (List.Perm (don ++ todo.map (·.1)) C) ∧ Hid (∀ p ∈ todo, p.1 ∈ C ∧ p.2 = .bool true) ∧ Hid (RngO wr encI M2 wq.heap.size ml todo) ∧ Hid (Below wq.heap.size wq wr) ∧ wr.ownsRow B6 3 1 s16 don.length (ivs don) ∧ B6 ≤ wr.heap.size)
                      case atStart => exact ⟨[], ml, rfl, Nat.le_refl _, hide (by simpa using hkeys.out), hvals, hrng, hbr, World.ownsRow_nil _ _ _ _, by omega⟩
                      case round =>
                        obtain ⟨don, todo, rfl, hgk2, hpm, htd, hrg, hbe5, hown, hBz⟩ := hrel
                        clear hkeys hvals hrng hbr hB6
                        have hdl : don.length ≤ 1000 := by
                          have h1 := hpm.out.length_eq
                          have h2 := cl_len hcl.out
                          rw [hll.out] at h2
                          rw [List.length_append] at h1
                          omega
                        have hdlI : (don.length : Int) ≤ 1000 := by omega
                        obtain ⟨bk, hbk⟩ : ∃ bk, backP l don = bk := ⟨_, rfl⟩
                        by_cases h0 : todo = []
                        · subst h0
                          obtain ⟨A2, c2, rfl, _, _, hr2⟩ := Rd.of_own hown
                          have HS := hide (lit_Sorted A2 don.length c2 don wr (by omega) hr2)
                          have hpm2 : List.Perm don C := by simpa using hpm.out
                          have hQ := hide (fun (w' : World) (A' : Option Addr) (n' c' : Nat) (hn' : n' ≤ 1000) (hr' : Rd w' A' n' (ivs (srt don))) (hb' : Below w.heap.size w w') => q_some (c' := c') (b := bk) hg hne.out hF.out.two (by rw [hC.out, hH0.out]) hn' (by rw [hC.out, ← srt_same (fun x => hpm2.mem_iff)]; exact hr') (by rw [hC.out, ← back_perm hpm2]; exact hbk) hb')
                          have hbw5 := hide (hbw.out.trans (hbe5.out.mono (by have := hMpR.out.bel.size; omega)))
                          have hsl := srt_len don
                          have hwz : w.heap.size ≤ wr.heap.size := hbw5.out.size
                          rw [hbk]
                          clear hpm hpm2 hown hr2 hbk htd hMpR hF
                          go_wp2_with (at_next; refine wpList_nextI (mkV := fun _ : Unit => .bool true) rfl _ rfl (by rfl) hrg.out (fun p hp => absurd hp (List.not_mem_nil)) (fun _ => ?_) (fun x _ u0 u1 w7 htd2 _ _ _ _ => absurd htd2 (by simp)))
                          refine HS.out.mono ?_
                          rintro e w9 ⟨v9, rfl, hown9, hb9⟩
                          obtain ⟨A9, c9, rfl, _, _, hr9⟩ := Rd.of_own hown9
                          clear HS hown9
                          go_wp2
                          go_ret3
                          exact hQ.out _ _ _ _ (by omega) hr9 (hbw5.out.trans (hb9.mono hwz))
                        · obtain ⟨A2, c2, rfl, _, _, _⟩ := Rd.of_own hown
                          rw [hbk]
                          go_wp2_with first | (at_next; refine wpList_nextI (mkV := fun _ : Unit => .bool true) rfl _ rfl (by rfl) hrg.out (fun p hp => ⟨(), (htd.out p hp).2⟩) (fun e => absurd e h0) (fun x _ u0 u1 w7 htd2 hrg7 hgr7 hsz7 hen => ?_); have hown7 := hown.kept hgr7 (.inr (fun e => own_low_ne hown hrB e.symm)); have hB7 : B6 ≤ w7.heap.size := (by omega); clear hsz7) | (at_builtin; refine wpList_push rfl _ _ _ rfl Try.underlying40 info_n rfl (by decide) rfl rfl hown7 (Below.refl B6 w7) hB7 rfl (by simp [Value.oneCell']) (by unfold maxLen; omega) (by omega) ?_; intro v8 w8 hown8 hb8)
                          have hb7 := hbe5.out.trans ((Fr.of_grown hgr7 (fun q e => .inl (by cases e; rfl)) : Fr (fun q => q = wq.heap.size) wr w7).below hbe5.out.size (fun k e => by rw [e]; exact Nat.le_refl _))
                          have hrg8 := hide (hrg7.below hb8 (by omega) hrB)
                          have hb78 := hide (hb7.trans (hb8.mono (Nat.le_of_lt hrB)))
                          have hMp8 := hide (hMpR.out.step hb78.out)
                          have hB8 : B6 ≤ w8.heap.size := by have := hb8.size; omega
                          have hxC := hide ((htd.out (x, .bool true) (by rw [htd2]; simp)).1)
                          have hpmN := hide (show List.Perm ((don ++ [x]) ++ (u0 ++ u1).map (·.1)) C from by
                            refine List.Perm.trans ?_ hpm.out
                            rw [htd2, List.append_assoc, List.map_append, List.map_append, List.map_cons]
                            exact List.Perm.append_left don (show List.Perm (x :: (u0.map (·.1) ++ u1.map (·.1))) (u0.map (·.1) ++ x :: u1.map (·.1)) from List.perm_middle.symm))
                          have htdN := hide (fun p (hp : p ∈ u0 ++ u1) => htd.out p (by rw [htd2]; exact (List.mem_append.1 hp).elim (fun h => List.mem_append.2 (.inl h)) (fun h => List.mem_append.2 (.inr (List.mem_cons_of_mem _ h)))))
                          have hlen : (u0 ++ u1).length < gk := by rw [htd2] at hgk2; simp at hgk2 ⊢; omega
                          have hbs := hide (back_snoc l don x)
                          rw [hbk] at hbs
                          replace hown8 := hide hown8
                          clear hen hgr7 hb7 hb8 hrg7 hown7 hown hrg htd2 hpm
                          have hMx := (hcl.out.mem x hxC.out).1
                          have hget := pl_mem hMp8.out.pl_ hMx
                          obtain ⟨V, hV⟩ : ∃ V, litVar x = V := ⟨_, rfl⟩
                          have HV := lit_Var x
                          rw [hV] at hget HV
                          replace HV := hide HV
                          have hpl := hMx.lt
                          have hlev : levOf l x = (stAt l (plN l x)).lev := rfl
                          obtain ⟨P, hpe⟩ : ∃ P, plN l x = P := ⟨_, rfl⟩
                          rw [hpe] at hpl hlev hget
                          replace hget := hide hget
                          have hpn : P < n := by rw [← hll.out]; exact hpl
                          have hpI : (P : Int) < n := by omega
                          obtain ⟨ad3, s1, z1, had, hB2, hs1, _, c1, _, _⟩ := (hr.below hMp8.out.bel (Nat.le_refl _)).get hpn
                          injection had with had
                          subst had
                          rw [stAt_is hs1] at hlev
                          obtain ⟨lt1, lv1, wy1⟩ := s1
                          simp only at c1 hlev
                          have k2 := hMp8.out.b2.cell 0
                          have k7 := hMp8.out.b7.cell 0
                          have hm1 := hide hMp8.out.m1
                          clear hs1 hV hpl hpe hMx
                          replace hbs := hide (show backP l (don ++ [x]) = if lv1 < lv ∧ bk < lv1 then lv1 else bk by rw [hbs.out]; unfold back1; rw [hlev, hlastS])
                          clear hlev hbk
                          refine wp_region_slots [127, 128, 129, 130, 131, 132, 133, 134, 19] (fun D g wz => g 2 = .pointer (some ⟨w.heap.size, 0, none⟩) ∧ g 7 = .pointer (some ⟨M1 + 1, 0, none⟩) ∧ g 18 = .int .i64 x ∧ Dr w8 wz ∧ (D 0 → g 127 = .slice (some ad) n c) ∧ (D 1 → g 128 = .map (some M1)) ∧ (D 2 → g 129 = .int .i64 x) ∧ (D 3 → g 130 = .int .i64 V) ∧ (D 4 → g 131 = .int .i64 P) ∧ (D 5 → g 132 = .pointer (some (ad.add (P * 3)))) ∧ (D 6 → g 133 = .pointer (some ⟨(ad.add (P * 3)).block, (ad.add (P * 3)).off + 1, none⟩)) ∧ (D 7 → g 134 = .int .i64 lv1) ∧ (D 8 → g 19 = .int .i64 lv1)) (by kernel_rfl) (by kernel_rfl) 144 rfl (by kernel_rfl) ?h0 ?hstep ?hdone
                          case h0 => exact ⟨rfl, rfl, rfl, (Dr.refl w8).drew, nt0, nt0, nt0, nt0, nt0, nt0, nt0, nt0, nt0⟩
                          case hstep =>
                            intro D g wz i hi' hn hd' hI2
                            obtain ⟨r2, r7, r18, hbz, f0, f1, f2, f3, f4, f5, f6, f7, f8⟩ := hI2
                            have hi' : i < 9 := hi'
                            rcases (show i = 0 ∨ i = 1 ∨ i = 2 ∨ i = 3 ∨ i = 4 ∨ i = 5 ∨ i = 6 ∨ i = 7 ∨ i = 8 by omega) with rfl | rfl | rfl | rfl | rfl | rfl | rfl | rfl | rfl
                            · -- 0
                              refine slot_step rfl rfl (fun az hs K hK => ?_)
                              have hK : Shut _ := hK
                              have cz := (hbz.cell _).trans k2
                              have e2 := hs.get 2
                              rw [r2] at e2
                              go_simp
                              exact hK.out _ _ ⟨r2, r7, r18, hbz, fun _ => rfl, kp f1, kp f2, kp f3, kp f4, kp f5, kp f6, kp f7, kp f8⟩
                            · -- 1
                              refine slot_step rfl rfl (fun az hs K hK => ?_)
                              have hK : Shut _ := hK
                              have cz := (hbz.cell _).trans k7
                              have e7 := hs.get 7
                              rw [r7] at e7
                              go_simp
                              exact hK.out _ _ ⟨r2, r7, r18, hbz, kp f0, fun _ => rfl, kp f2, kp f3, kp f4, kp f5, kp f6, kp f7, kp f8⟩
                            · -- 2
                              refine slot_step rfl rfl (fun az hs K hK => ?_)
                              have hK : Shut _ := hK
                              have e18 := hs.get 18
                              rw [r18] at e18
                              go_simp
                              exact hK.out _ _ ⟨r2, r7, r18, hbz, kp f0, kp f1, fun _ => rfl, kp f3, kp f4, kp f5, kp f6, kp f7, kp f8⟩
                            · -- 3
                              have d2 := f2 (hd' 2 (by kernel_rfl))
                              refine slot_step rfl rfl (fun az hs K hK => ?_)
                              have hK : Shut _ := hK
                              have e129 := hs.get 129
                              rw [d2] at e129
                              go_wp2_with (go_at_call 84; refine (HV.out wz).mono ?_; rintro e wy ⟨rfl, rfl⟩; have hdr := Dr.refl wz)
                              exact ⟨r2, r7, r18, hbz.trans hdr, kp f0, kp f1, kp f2, fun _ => rfl, kp f4, kp f5, kp f6, kp f7, kp f8⟩
                            · -- 4
                              have d1 := f1 (hd' 1 (by kernel_rfl))
                              have d3 := f3 (hd' 3 (by kernel_rfl))
                              refine slot_step rfl rfl (fun az hs K hK => ?_)
                              have hK : Shut _ := hK
                              have e128 := hs.get 128
                              rw [d1] at e128
                              have e130 := hs.get 130
                              rw [d3] at e130
                              refine oper_lookupO (keyLaw_int Try.underlying3) mapI zero_int2 (.tmp 128) (.tmp 130) rfl (hm1.out.toO.dr hbz) V (hs.eval d1) (hs.eval d3) ?_
                              rw [hget.out]
                              exact hK.out _ _ ⟨r2, r7, r18, hbz, kp f0, kp f1, kp f2, kp f3, fun _ => rfl, kp f5, kp f6, kp f7, kp f8⟩
                            · -- 5
                              have d0 := f0 (hd' 0 (by kernel_rfl))
                              have d4 := f4 (hd' 4 (by kernel_rfl))
                              refine slot_step rfl rfl (fun az hs K hK => ?_)
                              have hK : Shut _ := hK
                              have e127 := hs.get 127
                              rw [d0] at e127
                              have e131 := hs.get 131
                              rw [d4] at e131
                              go_simp
                              exact hK.out _ _ ⟨r2, r7, r18, hbz, kp f0, kp f1, kp f2, kp f3, kp f4, fun _ => rfl, kp f6, kp f7, kp f8⟩
                            · -- 6
                              have d5 := f5 (hd' 5 (by kernel_rfl))
                              refine slot_step rfl rfl (fun az hs K hK => ?_)
                              have hK : Shut _ := hK
                              have e132 := hs.get 132
                              rw [d5] at e132
                              go_simp
                              exact hK.out _ _ ⟨r2, r7, r18, hbz, kp f0, kp f1, kp f2, kp f3, kp f4, kp f5, fun _ => rfl, kp f7, kp f8⟩
                            · -- 7
                              have d6 := f6 (hd' 6 (by kernel_rfl))
                              refine slot_step rfl rfl (fun az hs K hK => ?_)
                              have hK : Shut _ := hK
                              have cz := (hbz.cell _).trans c1
                              have e133 := hs.get 133
                              rw [d6] at e133
                              go_simp
                              exact hK.out _ _ ⟨r2, r7, r18, hbz, kp f0, kp f1, kp f2, kp f3, kp f4, kp f5, kp f6, fun _ => rfl, kp f8⟩
                            · -- 8
                              have d7 := f7 (hd' 7 (by kernel_rfl))
                              refine slot_step rfl rfl (fun az hs K hK => ?_)
                              have hK : Shut _ := hK
                              have e134 := hs.get 134
                              rw [d7] at e134
                              go_simp
                              exact hK.out _ _ ⟨r2, r7, r18, hbz, kp f0, kp f1, kp f2, kp f3, kp f4, kp f5, kp f6, kp f7, fun _ => rfl⟩
                          case hdone =>
                            rintro D g wz hD ⟨r2, r7, r18, hbz, f0, f1, f2, f3, f4, f5, f6, f7, f8⟩
                            simp only [setAll, List.foldl_cons, List.foldl_nil, List.setIfInBounds_toArray, List.set_cons_succ, List.set_cons_zero]
                            have e19 := f8 (hD 8)
                            rw [e19]
                            clear f0 f1 f2 f3 f4 f5 f6 f7 f8 hD r2 r7 r18 e19
                            have hrg9 := hide (rng_dr hrg8.out hbz)
                            have hb9 := hide (hb78.out.trans (hbz.below _))
                            have hown9 := own_keep hown8.out (hbz.below _)
                            have hB9 : B6 ≤ wz.heap.size := by have := (hbz.below 0).size; omega
                            obtain ⟨w9, hw9⟩ : ∃ w9, w9 = wz := ⟨_, rfl⟩
                            subst hw9
                            clear hbz hMp8 k2 k7 hm1 c1 hB2 hrg8 hb78 hown8
                            replace hown9 := hide hown9
                            by_cases hla : lv1 < lv
                            · have dla : decide (lv1 < lv) = true := decide_eq_true hla
                              by_cases hlb : bk < lv1
                              · have hbN := hide (hbs.out.trans (if_pos ⟨hla, hlb⟩))
                                clear hbs
                                go_wp2
                                go_roundg ((u0 ++ u1).length)
                                case measure => exact hlen
                                case rel => exact ⟨don ++ [x], u0 ++ u1, by rw [hbN.out, show max bk lv1 = lv1 by omega], Nat.le_refl _, hpmN, htdN, hrg9, hb9, by rw [List.length_append, ivs_app]; exact hown9.out, hB9⟩
                              · have hbN := hide (hbs.out.trans (if_neg (fun h => hlb h.2)))
                                clear hbs
                                go_wp2
                                go_roundg ((u0 ++ u1).length)
                                case measure => exact hlen
                                case rel => exact ⟨don ++ [x], u0 ++ u1, by rw [hbN.out, show max bk lv1 = bk by omega], Nat.le_refl _, hpmN, htdN, hrg9, hb9, by rw [List.length_append, ivs_app]; exact hown9.out, hB9⟩
                            · have dla : decide (lv1 < lv) = false := decide_eq_false hla
                              have hbN := hide (hbs.out.trans (if_neg (fun h => hla h.1)))
                              clear hbs
                              go_wp2
                              go_roundg ((u0 ++ u1).length)
                              case measure => exact hlen
                              case rel => exact ⟨don ++ [x], u0 ++ u1, by rw [hbN.out], Nat.le_refl _, hpmN, htdN, hrg9, hb9, by rw [List.length_append, ivs_app]; exact hown9.out, hB9⟩
                    · have hq2 : ¬ (q : Int) = 1 := by omega
                      have hq3 : ((q : Int) == 1) = false := by simp; omega
                      have h2q : 2 ≤ q := by omega
                      obtain ⟨z, hzC, hzl, hzt, hzn⟩ := top_lt hcl.out (by rw [hH0.out]; omega)
                      have hza := hF.out.at_ z (by rw [hC.out]; exact hzC) hzl
                      have hdy := hide (down_yes hcl.out hzC)
                      have hir := hide (in_rest hMpR.out.in_ hcl.out hzC)
                      obtain ⟨tp, htp⟩ : ∃ tp, plN l z = tp := ⟨_, rfl⟩
                      rw [htp] at hzt hzn hza hdy hir
                      have hdn := hide (fun a (h1 : tp < a) (h2 : a < l.length) => down_no hgp.out hcl.out hzt (by rw [hH0.out]; omega) h1 h2)
                      have hcs := hide (cl_step hgp.out hcl.out (by rw [hH0.out]; omega))
                      replace hcs := hide (show (∀ x ∈ cN l bad (K + 1), levOf l x = lastL l → plN l x < tp) from fun x hx hl => by
                        have := hcs.out.2 x (by rw [← hC.out]; exact hx) hl
                        rw [hzt] at this; omega)
                      have hstepC := hide (show putP l (restP l tp C) (stAt l tp).why (stAt l tp).lit = cN l bad (K + 1) by
                        show _ = stepP l (cN l bad K)
                        rw [hC.out]; unfold stepP
                        rw [hzt, show ((tp : Nat) : Int).toNat = tp from rfl])
                      have htwo := hide (show ∀ j, j < K + 1 → 2 ≤ hereP l (cN l bad j) from fun j hj => by
                        by_cases h : j = K
                        · subst h; rw [hC.out, hH0.out]; exact h2q
                        · exact hF.out.two j (by omega))
                      have hzC2 := hide hzC
                      clear hzC hzl hzt htp hcl hkeys hvals hbw
                      have ha1 : 1 ≤ a := by omega
                      obtain ⟨a1, ha1e⟩ : ∃ a1, a = a1 + 1 := ⟨a - 1, by omega⟩
                      subst ha1e
                      have ha2 : IntKind.i64.wrap (((a1 + 1 : Nat) : Int) - 1) = (a1 : Int) := by rw [IntWalk.i64_in _ (by omega)]; omega
                      clear hMp
                      go_wp2_with (at_next; refine wpList_nextI (mkV := fun _ : Unit => .bool true) rfl _ rfl (by rfl) hrg.out (fun p hp => absurd hp (List.not_mem_nil)) (fun _ => ?_) (fun x _ u0 u1 w7 htd2 _ _ _ _ => absurd htd2 (by simp)))
                      obtain ⟨wq, hwq⟩ : ∃ wq, wq = wr := ⟨_, rfl⟩
                      subst hwq
                      clear hrg hbe hF
                      have htpa : tp ≤ a1 := by omega
                      go_loopg [13] a1 (fun gk s13 wr => ∃ b : Nat, s13 = .int .i64 b ∧ b ≤ gk ∧ tp ≤ b ∧ b ≤ a1 ∧ Hid (Dr wq wr))
                      case atStart => exact ⟨a1, rfl, Nat.le_refl _, htpa, Nat.le_refl _, hide (Dr.refl wq)⟩
                      case round =>
                        obtain ⟨b, rfl, hbg, htb, hba, hdq⟩ := hrel
                        have hMp4 := hide (hMpR.out.step (hdq.out.below _))
                        have hbn : b < n := by omega
                        have hbI : (b : Int) < n := by omega
                        have hb1I : (b : Int) ≤ 1000 := by omega
                        obtain ⟨ad4, s4, z4, had, hB4, hs4, c4w, _, c6w, hwy⟩ := hr.get hbn
                        injection had with had
                        subst had
                        have hwl := hide (hw.out s4 (List.mem_of_getElem? hs4))
                        have hst4 := hide (stAt_is hs4)
                        obtain ⟨lt4, lv4, wy4⟩ := s4
                        obtain ⟨zA, zn, zc⟩ := z4
                        simp only [Sl.val] at c4w c6w hwl hwy
                        have c4 := (hMp4.out.bel.cell (show (ad.add (b * 3)).block < w.heap.size by rw [add_block]; exact hB4)).trans c4w
                        obtain ⟨NV, hNV⟩ : ∃ NV, litNot lt4 = NV := ⟨_, rfl⟩
                        have HN := lit_Not lt4
                        rw [hNV] at HN
                        replace HN := hide HN
                        have k2 := hMp4.out.b2.cell 0
                        have k10 := hMp4.out.b10.cell 0
                        have hm2 := hide hMp4.out.m2
                        have hgetN := hMp4.out.in_.get_ NV
                        clear hs4
                        by_cases hbt : b = tp
                        · subst hbt
                          have hNz : NV = z := by rw [← hNV]; have := hdy.out; rw [hst4.out] at this; exact this
                          rw [show decide (NV ∈ C) = true from decide_eq_true (by rw [hNz]; exact hzC2.out)] at hgetN
                          replace hNz := hide hNz
                          replace hNV := hide hNV
                          clear htb hdn
                          replace hgetN := hide hgetN
                          go_wp2
                          refine wp_region_slots [87, 88, 89, 90, 91, 92, 93, 94, 95] (fun D g wz => g 2 = .pointer (some ⟨w.heap.size, 0, none⟩) ∧ g 10 = .pointer (some ⟨p10, 0, none⟩) ∧ g 13 = .int .i64 b ∧ Dr wr wz ∧ (D 0 → g 87 = .map (some M2)) ∧ (D 1 → g 88 = .slice (some ad) n c) ∧ (D 2 → g 89 = .int .i64 b) ∧ (D 3 → g 90 = .pointer (some (ad.add (b * 3)))) ∧ (D 4 → g 91 = .pointer (some (ad.add (b * 3)))) ∧ (D 5 → g 92 = .int .i64 lt4) ∧ (D 6 → g 93 = .int .i64 NV) ∧ (D 7 → g 94 = .bool true) ∧ (D 8 → g 95 = .bool false)) (by kernel_rfl) (by kernel_rfl) 144 rfl (by kernel_rfl) ?h0 ?hstep ?hdone
                          case h0 => exact ⟨rfl, rfl, rfl, (Dr.refl wr).drew, nt0, nt0, nt0, nt0, nt0, nt0, nt0, nt0, nt0⟩
                          case hstep =>
                            intro D g wz i hi' hn hd' hI2
                            obtain ⟨r2, r10, r13, hbz, f0, f1, f2, f3, f4, f5, f6, f7, f8⟩ := hI2
                            have hi' : i < 9 := hi'
                            rcases (show i = 0 ∨ i = 1 ∨ i = 2 ∨ i = 3 ∨ i = 4 ∨ i = 5 ∨ i = 6 ∨ i = 7 ∨ i = 8 by omega) with rfl | rfl | rfl | rfl | rfl | rfl | rfl | rfl | rfl
                            · -- 0
                              refine slot_step rfl rfl (fun az hs K hK => ?_)
                              have hK : Shut _ := hK
                              have cz := (hbz.cell _).trans k10
                              have e10 := hs.get 10
                              rw [r10] at e10
                              go_simp
                              exact hK.out _ _ ⟨r2, r10, r13, hbz, fun _ => rfl, kp f1, kp f2, kp f3, kp f4, kp f5, kp f6, kp f7, kp f8⟩
                            · -- 1
                              refine slot_step rfl rfl (fun az hs K hK => ?_)
                              have hK : Shut _ := hK
                              have cz := (hbz.cell _).trans k2
                              have e2 := hs.get 2
                              rw [r2] at e2
                              go_simp
                              exact hK.out _ _ ⟨r2, r10, r13, hbz, kp f0, fun _ => rfl, kp f2, kp f3, kp f4, kp f5, kp f6, kp f7, kp f8⟩
                            · -- 2
                              refine slot_step rfl rfl (fun az hs K hK => ?_)
                              have hK : Shut _ := hK
                              have e13 := hs.get 13
                              rw [r13] at e13
                              go_simp
                              exact hK.out _ _ ⟨r2, r10, r13, hbz, kp f0, kp f1, fun _ => rfl, kp f3, kp f4, kp f5, kp f6, kp f7, kp f8⟩
                            · -- 3
                              have d1 := f1 (hd' 1 (by kernel_rfl))
                              have d2 := f2 (hd' 2 (by kernel_rfl))
                              refine slot_step rfl rfl (fun az hs K hK => ?_)
                              have hK : Shut _ := hK
                              have e88 := hs.get 88
                              rw [d1] at e88
                              have e89 := hs.get 89
                              rw [d2] at e89
                              go_simp
                              exact hK.out _ _ ⟨r2, r10, r13, hbz, kp f0, kp f1, kp f2, fun _ => rfl, kp f4, kp f5, kp f6, kp f7, kp f8⟩
                            · -- 4
                              have d3 := f3 (hd' 3 (by kernel_rfl))
                              refine slot_step rfl rfl (fun az hs K hK => ?_)
                              have hK : Shut _ := hK
                              have e90 := hs.get 90
                              rw [d3] at e90
                              go_simp
                              exact hK.out _ _ ⟨r2, r10, r13, hbz, kp f0, kp f1, kp f2, kp f3, fun _ => rfl, kp f5, kp f6, kp f7, kp f8⟩
                            · -- 5
                              have d4 := f4 (hd' 4 (by kernel_rfl))
                              refine slot_step rfl rfl (fun az hs K hK => ?_)
                              have hK : Shut _ := hK
                              have cz := (hbz.cell _).trans c4
                              have e91 := hs.get 91
                              rw [d4] at e91
                              go_simp
                              exact hK.out _ _ ⟨r2, r10, r13, hbz, kp f0, kp f1, kp f2, kp f3, kp f4, fun _ => rfl, kp f6, kp f7, kp f8⟩
                            · -- 6
                              have d5 := f5 (hd' 5 (by kernel_rfl))
                              refine slot_step rfl rfl (fun az hs K hK => ?_)
                              have hK : Shut _ := hK
                              have e92 := hs.get 92
                              rw [d5] at e92
                              go_wp2_with (go_at_call 86; refine (HN.out wz).mono ?_; rintro e wy ⟨rfl, rfl⟩; have hdr := Dr.refl wz)
                              exact ⟨r2, r10, r13, hbz.trans hdr, kp f0, kp f1, kp f2, kp f3, kp f4, kp f5, fun _ => rfl, kp f7, kp f8⟩
                            · -- 7
                              have d0 := f0 (hd' 0 (by kernel_rfl))
                              have d6 := f6 (hd' 6 (by kernel_rfl))
                              refine slot_step rfl rfl (fun az hs K hK => ?_)
                              have hK : Shut _ := hK
                              have e87 := hs.get 87
                              rw [d0] at e87
                              have e93 := hs.get 93
                              rw [d6] at e93
                              refine oper_lookupO (keyLaw_int Try.underlying3) mapB zero_bool (.tmp 87) (.tmp 93) rfl (hm2.out.toO.dr hbz) NV (hs.eval d0) (hs.eval d6) ?_
                              rw [hgetN.out]
                              exact hK.out _ _ ⟨r2, r10, r13, hbz, kp f0, kp f1, kp f2, kp f3, kp f4, kp f5, kp f6, fun _ => rfl, kp f8⟩
                            · -- 8
                              have d7 := f7 (hd' 7 (by kernel_rfl))
                              refine slot_step rfl rfl (fun az hs K hK => ?_)
                              have hK : Shut _ := hK
                              have e94 := hs.get 94
                              rw [d7] at e94
                              go_simp
                              exact hK.out _ _ ⟨r2, r10, r13, hbz, kp f0, kp f1, kp f2, kp f3, kp f4, kp f5, kp f6, kp f7, fun _ => rfl⟩
                          case hdone =>
                            rintro D g wz hD ⟨r2, r10, r13, hbz, f0, f1, f2, f3, f4, f5, f6, f7, f8⟩
                            simp only [setAll, List.foldl_cons, List.foldl_nil, List.setIfInBounds_toArray, List.set_cons_succ, List.set_cons_zero]
                            have e95 := f8 (hD 8)
                            rw [e95]
                            clear f0 f1 f2 f3 f4 f5 f6 f7 f8 hD r2 r10 r13 e95
                            have hdq5 := hide (hdq.out.trans hbz)
                            obtain ⟨w5, hw5⟩ : ∃ w5, w5 = wz := ⟨_, rfl⟩
                            subst hw5
                            clear hbz k2 k10 hm2 hgetN c4 hMp4 hdq
                            have hMp5 := hide (hMpR.out.step (hdq5.out.below _))
                            clear hMpR hdq5
                            have hltA : (ad.add (b * 3)).block < w.heap.size := by rw [add_block]; exact hB4
                            have k2 := hMp5.out.b2.cell 0
                            have k10 := hMp5.out.b10.cell 0
                            have c4 := (hMp5.out.bel.cell hltA).trans c4w
                            have hn2 : ¬ w.heap.size = M2 := map_blk_ne hMp5.out.m2 hMp5.out.b2
                            have hn10 : ¬ p10 = M2 := map_blk_ne hMp5.out.m2 hMp5.out.b10
                            have hnA : ¬ (ad.add (b * 3)).block = M2 := by have := hMp5.out.hM2; omega
                            have hm2 := hide hMp5.out.m2
                            go_wp2
                            refine wp_region_slots [98, 99, 100, 101, 102, 103, 104] (fun D g wz => g 2 = .pointer (some ⟨w.heap.size, 0, none⟩) ∧ g 10 = .pointer (some ⟨p10, 0, none⟩) ∧ g 13 = .int .i64 b ∧ Fr (fun q => q = M2) w5 wz ∧ (¬ D 7 → MapS wz encI M2 ml) ∧ (D 0 → g 98 = .map (some M2)) ∧ (D 1 → g 99 = .slice (some ad) n c) ∧ (D 2 → g 100 = .int .i64 b) ∧ (D 3 → g 101 = .pointer (some (ad.add (b * 3)))) ∧ (D 4 → g 102 = .pointer (some (ad.add (b * 3)))) ∧ (D 5 → g 103 = .int .i64 lt4) ∧ (D 6 → g 104 = .int .i64 NV) ∧ (D 7 → MapS wz encI M2 (mdel ml NV))) (by kernel_rfl) (by kernel_rfl) 144 rfl (by kernel_rfl) ?h0 ?hstep ?hdone
                            case h0 => exact ⟨rfl, rfl, rfl, Fr.of_below (Dr.below (Dr.refl w5).drew _), (fun _ => hm2.out.dr (Dr.refl w5).drew), nt0, nt0, nt0, nt0, nt0, nt0, nt0, nt0⟩
                            case hstep =>
                              intro D g wz i hi' hn hd' hI2
                              obtain ⟨r2, r10, r13, hfz, g7, f0, f1, f2, f3, f4, f5, f6, f7⟩ := hI2
                              have hi' : i < 8 := hi'
                              rcases (show i = 0 ∨ i = 1 ∨ i = 2 ∨ i = 3 ∨ i = 4 ∨ i = 5 ∨ i = 6 ∨ i = 7 by omega) with rfl | rfl | rfl | rfl | rfl | rfl | rfl | rfl
                              · -- 0
                                refine slot_step rfl rfl (fun az hs K hK => ?_)
                                have hK : Shut _ := hK
                                have cz := hfz.cell k10 hn10
                                have e10 := hs.get 10
                                rw [r10] at e10
                                go_simp
                                exact hK.out _ _ ⟨r2, r10, r13, hfz, (fun h => g7 (fun e => h (Or.inr e))), fun _ => rfl, kp f1, kp f2, kp f3, kp f4, kp f5, kp f6, kp f7⟩
                              · -- 1
                                refine slot_step rfl rfl (fun az hs K hK => ?_)
                                have hK : Shut _ := hK
                                have cz := hfz.cell k2 hn2
                                have e2 := hs.get 2
                                rw [r2] at e2
                                go_simp
                                exact hK.out _ _ ⟨r2, r10, r13, hfz, (fun h => g7 (fun e => h (Or.inr e))), kp f0, fun _ => rfl, kp f2, kp f3, kp f4, kp f5, kp f6, kp f7⟩
                              · -- 2
                                refine slot_step rfl rfl (fun az hs K hK => ?_)
                                have hK : Shut _ := hK
                                have e13 := hs.get 13
                                rw [r13] at e13
                                go_simp
                                exact hK.out _ _ ⟨r2, r10, r13, hfz, (fun h => g7 (fun e => h (Or.inr e))), kp f0, kp f1, fun _ => rfl, kp f3, kp f4, kp f5, kp f6, kp f7⟩
                              · -- 3
                                have d1 := f1 (hd' 1 (by kernel_rfl))
                                have d2 := f2 (hd' 2 (by kernel_rfl))
                                refine slot_step rfl rfl (fun az hs K hK => ?_)
                                have hK : Shut _ := hK
                                have e99 := hs.get 99
                                rw [d1] at e99
                                have e100 := hs.get 100
                                rw [d2] at e100
                                go_simp
                                exact hK.out _ _ ⟨r2, r10, r13, hfz, (fun h => g7 (fun e => h (Or.inr e))), kp f0, kp f1, kp f2, fun _ => rfl, kp f4, kp f5, kp f6, kp f7⟩
                              · -- 4
                                have d3 := f3 (hd' 3 (by kernel_rfl))
                                refine slot_step rfl rfl (fun az hs K hK => ?_)
                                have hK : Shut _ := hK
                                have e101 := hs.get 101
                                rw [d3] at e101
                                go_simp
                                exact hK.out _ _ ⟨r2, r10, r13, hfz, (fun h => g7 (fun e => h (Or.inr e))), kp f0, kp f1, kp f2, kp f3, fun _ => rfl, kp f5, kp f6, kp f7⟩
                              · -- 5
                                have d4 := f4 (hd' 4 (by kernel_rfl))
                                refine slot_step rfl rfl (fun az hs K hK => ?_)
                                have hK : Shut _ := hK
                                have cz := hfz.cell c4 hnA
                                have e102 := hs.get 102
                                rw [d4] at e102
                                go_simp
                                exact hK.out _ _ ⟨r2, r10, r13, hfz, (fun h => g7 (fun e => h (Or.inr e))), kp f0, kp f1, kp f2, kp f3, kp f4, fun _ => rfl, kp f6, kp f7⟩
                              · -- 6
                                have d5 := f5 (hd' 5 (by kernel_rfl))
                                refine slot_step rfl rfl (fun az hs K hK => ?_)
                                have hK : Shut _ := hK
                                have e103 := hs.get 103
                                rw [d5] at e103
                                go_wp2_with (go_at_call 86; refine (HN.out wz).mono ?_; rintro e wy ⟨rfl, rfl⟩; have hdr := Dr.refl wz)
                                exact ⟨r2, r10, r13, hfz.trans (Fr.of_below (hdr.below _)), (fun h => (g7 (fun e => h (Or.inr e))).dr hdr), kp f0, kp f1, kp f2, kp f3, kp f4, kp f5, fun _ => rfl, fun h => h.elim (fun e => absurd e (by decide)) (fun h => MapS.dr (f7 h) hdr)⟩
                              · -- 7
                                have d0 := f0 (hd' 0 (by kernel_rfl))
                                have d6 := f6 (hd' 6 (by kernel_rfl))
                                refine slot_step rfl rfl (fun az hs K hK => ?_)
                                have hK : Shut _ := hK
                                have e98 := hs.get 98
                                rw [d0] at e98
                                have e104 := hs.get 104
                                rw [d6] at e104
                                refine oper_deleteS (keyLaw_int Try.underlying3) mapB (.tmp 98) (.tmp 104) rfl (g7 hn) NV (hs.eval d0) (hs.eval d6) ?_
                                intro w2 hm2 hgr2 hsz2
                                exact hK.out _ _ ⟨r2, r10, r13, hfz.trans (Fr.of_grown hgr2 (fun q e => .inl (by cases e; rfl))), (fun h => (h (by simp)).elim), kp f0, kp f1, kp f2, kp f3, kp f4, kp f5, kp f6, fun _ => hm2⟩
                            case hdone =>
                              rintro D g wz hD ⟨r2, r10, r13, hfz, g7, f0, f1, f2, f3, f4, f5, f6, f7⟩
                              simp only [setAll, List.foldl_cons, List.foldl_nil, List.setIfInBounds_toArray, List.set_cons_succ, List.set_cons_zero]
                              have hmN := f7 (hD 7)
                              clear f0 f1 f2 f3 f4 f5 f6 f7 g7 hD r2 r10 r13
                              have hir2 := hir.out
                              rw [← hNz.out] at hir2
                              have hMp6 := hide (hMp5.out.turn hmN hfz hir2)
                              clear hmN hfz hir hir2 hMp5 k2 k10 c4 hm2
                              obtain ⟨w6, hw6⟩ : ∃ w6, w6 = wz := ⟨_, rfl⟩
                              subst hw6
                              have hWhy := hide (show ∀ x ∈ wy4, 1 < x → x ≠ lt4 → Mem l x from fun x hx h1 hne2 => by
                                have hs := (hgp.out.1 b (by rw [hll.out]; exact hbn)).why x (by rw [hst4.out]; exact hx)
                                rw [hst4.out] at hs
                                unfold whyB at hs
                                rw [Bool.or_eq_true] at hs
                                rcases hs with e | e
                                · exact absurd (by simpa using e) hne2
                                · exact (mem_zero hgp.out.1 (by rw [hll.out]; omega) h1 e).1)
                              have hzn : zn ≤ 1000 := by have h1 := Rd.len hwy; have h2 := hwl.out; omega
                              have hPut := hide (fun (wz : World) (h : Mp w (some ad) n c l w.heap.size (M1 + 1) p10 M1 M2 pl (mdel ml NV) (restP l b C) wz) => first_put w (some ad) n c l w.heap.size (M1 + 1) p10 M1 M2 pl zA zn zc wy4 lt4 wz (restP l b C) (mdel ml NV) hn hr h hzn hwy hWhy.out)
                              clear hWhy
                              have hMpD := hide (hMp6.out.step ((Dr.refl w6).drew.below _))
                              go_wp2
                              refine wp_region_slots [105, 106, 107, 108, 109, 110, 111, 112, 113, 114, 115, 116] (fun D g wz => g 2 = .pointer (some ⟨w.heap.size, 0, none⟩) ∧ g 12 = .func (.func 85) #[] #[.pointer (some ⟨w.heap.size, 0, none⟩), .pointer (some ⟨M1 + 1, 0, none⟩), .pointer (some ⟨p10, 0, none⟩)] ∧ g 13 = .int .i64 b ∧ (Below w.heap.size w wz ∧ Blk wz w.heap.size 44 #[.slice (some ad) n c]) ∧ (¬ D 11 → Mp w (some ad) n c l w.heap.size (M1 + 1) p10 M1 M2 pl (mdel ml NV) (restP l b C) wz) ∧ (D 0 → g 105 = .func (.func 85) #[] #[.pointer (some ⟨w.heap.size, 0, none⟩), .pointer (some ⟨M1 + 1, 0, none⟩), .pointer (some ⟨p10, 0, none⟩)]) ∧ (D 1 → g 106 = .slice (some ad) n c) ∧ (D 2 → g 107 = .int .i64 b) ∧ (D 3 → g 108 = .pointer (some (ad.add (b * 3)))) ∧ (D 4 → g 109 = .pointer (some ⟨(ad.add (b * 3)).block, (ad.add (b * 3)).off + 2, none⟩)) ∧ (D 5 → g 110 = .slice zA zn zc) ∧ (D 6 → g 111 = .slice (some ad) n c) ∧ (D 7 → g 112 = .int .i64 b) ∧ (D 8 → g 113 = .pointer (some (ad.add (b * 3)))) ∧ (D 9 → g 114 = .pointer (some (ad.add (b * 3)))) ∧ (D 10 → g 115 = .int .i64 lt4) ∧ (D 11 → ∃ ml2, Mp w (some ad) n c l w.heap.size (M1 + 1) p10 M1 M2 pl ml2 (putP l (restP l b C) wy4 lt4) wz)) (by kernel_rfl) (by kernel_rfl) 144 rfl (by kernel_rfl) ?h0 ?hstep ?hdone
                              case h0 => exact ⟨rfl, rfl, rfl, ⟨hMpD.out.bel, hMpD.out.b2⟩, (fun _ => hMpD.out), nt0, nt0, nt0, nt0, nt0, nt0, nt0, nt0, nt0, nt0, nt0, nt0⟩
                              case hstep =>
                                intro D g wz i hi' hn hd' hI2
                                obtain ⟨r2, r12, r13, hmz, g11, f0, f1, f2, f3, f4, f5, f6, f7, f8, f9, f10, f11⟩ := hI2
                                have hi' : i < 12 := hi'
                                rcases (show i = 0 ∨ i = 1 ∨ i = 2 ∨ i = 3 ∨ i = 4 ∨ i = 5 ∨ i = 6 ∨ i = 7 ∨ i = 8 ∨ i = 9 ∨ i = 10 ∨ i = 11 by omega) with rfl | rfl | rfl | rfl | rfl | rfl | rfl | rfl | rfl | rfl | rfl | rfl
                                · -- 0
                                  refine slot_step rfl rfl (fun az hs K hK => ?_)
                                  have hK : Shut _ := hK
                                  have e12 := hs.get 12
                                  rw [r12] at e12
                                  go_simp
                                  exact hK.out _ _ ⟨r2, r12, r13, hmz, (fun h => g11 (fun e => h (Or.inr e))), fun _ => rfl, kp f1, kp f2, kp f3, kp f4, kp f5, kp f6, kp f7, kp f8, kp f9, kp f10, kp f11⟩
                                · -- 1
                                  refine slot_step rfl rfl (fun az hs K hK => ?_)
                                  have hK : Shut _ := hK
                                  have cz := hmz.2.cell 0
                                  have e2 := hs.get 2
                                  rw [r2] at e2
                                  go_simp
                                  exact hK.out _ _ ⟨r2, r12, r13, hmz, (fun h => g11 (fun e => h (Or.inr e))), kp f0, fun _ => rfl, kp f2, kp f3, kp f4, kp f5, kp f6, kp f7, kp f8, kp f9, kp f10, kp f11⟩
                                · -- 2
                                  refine slot_step rfl rfl (fun az hs K hK => ?_)
                                  have hK : Shut _ := hK
                                  have e13 := hs.get 13
                                  rw [r13] at e13
                                  go_simp
                                  exact hK.out _ _ ⟨r2, r12, r13, hmz, (fun h => g11 (fun e => h (Or.inr e))), kp f0, kp f1, fun _ => rfl, kp f3, kp f4, kp f5, kp f6, kp f7, kp f8, kp f9, kp f10, kp f11⟩
                                · -- 3
                                  have d1 := f1 (hd' 1 (by kernel_rfl))
                                  have d2 := f2 (hd' 2 (by kernel_rfl))
                                  refine slot_step rfl rfl (fun az hs K hK => ?_)
                                  have hK : Shut _ := hK
                                  have e106 := hs.get 106
                                  rw [d1] at e106
                                  have e107 := hs.get 107
                                  rw [d2] at e107
                                  go_simp
                                  exact hK.out _ _ ⟨r2, r12, r13, hmz, (fun h => g11 (fun e => h (Or.inr e))), kp f0, kp f1, kp f2, fun _ => rfl, kp f4, kp f5, kp f6, kp f7, kp f8, kp f9, kp f10, kp f11⟩
                                · -- 4
                                  have d3 := f3 (hd' 3 (by kernel_rfl))
                                  refine slot_step rfl rfl (fun az hs K hK => ?_)
                                  have hK : Shut _ := hK
                                  have e108 := hs.get 108
                                  rw [d3] at e108
                                  go_simp
                                  exact hK.out _ _ ⟨r2, r12, r13, hmz, (fun h => g11 (fun e => h (Or.inr e))), kp f0, kp f1, kp f2, kp f3, fun _ => rfl, kp f5, kp f6, kp f7, kp f8, kp f9, kp f10, kp f11⟩
                                · -- 5
                                  have d4 := f4 (hd' 4 (by kernel_rfl))
                                  refine slot_step rfl rfl (fun az hs K hK => ?_)
                                  have hK : Shut _ := hK
                                  have cz := (hmz.1.cell (p := ⟨(ad.add (b * 3)).block, (ad.add (b * 3)).off + 2, none⟩) hltA).trans c6w
                                  have e109 := hs.get 109
                                  rw [d4] at e109
                                  go_simp
                                  exact hK.out _ _ ⟨r2, r12, r13, hmz, (fun h => g11 (fun e => h (Or.inr e))), kp f0, kp f1, kp f2, kp f3, kp f4, fun _ => rfl, kp f6, kp f7, kp f8, kp f9, kp f10, kp f11⟩
                                · -- 6
                                  refine slot_step rfl rfl (fun az hs K hK => ?_)
                                  have hK : Shut _ := hK
                                  have cz := hmz.2.cell 0
                                  have e2 := hs.get 2
                                  rw [r2] at e2
                                  go_simp
                                  exact hK.out _ _ ⟨r2, r12, r13, hmz, (fun h => g11 (fun e => h (Or.inr e))), kp f0, kp f1, kp f2, kp f3, kp f4, kp f5, fun _ => rfl, kp f7, kp f8, kp f9, kp f10, kp f11⟩
                                · -- 7
                                  refine slot_step rfl rfl (fun az hs K hK => ?_)
                                  have hK : Shut _ := hK
                                  have e13 := hs.get 13
                                  rw [r13] at e13
                                  go_simp
                                  exact hK.out _ _ ⟨r2, r12, r13, hmz, (fun h => g11 (fun e => h (Or.inr e))), kp f0, kp f1, kp f2, kp f3, kp f4, kp f5, kp f6, fun _ => rfl, kp f8, kp f9, kp f10, kp f11⟩
                                · -- 8
                                  have d6 := f6 (hd' 6 (by kernel_rfl))
                                  have d7 := f7 (hd' 7 (by kernel_rfl))
                                  refine slot_step rfl rfl (fun az hs K hK => ?_)
                                  have hK : Shut _ := hK
                                  have e111 := hs.get 111
                                  rw [d6] at e111
                                  have e112 := hs.get 112
                                  rw [d7] at e112
                                  go_simp
                                  exact hK.out _ _ ⟨r2, r12, r13, hmz, (fun h => g11 (fun e => h (Or.inr e))), kp f0, kp f1, kp f2, kp f3, kp f4, kp f5, kp f6, kp f7, fun _ => rfl, kp f9, kp f10, kp f11⟩
                                · -- 9
                                  have d8 := f8 (hd' 8 (by kernel_rfl))
                                  refine slot_step rfl rfl (fun az hs K hK => ?_)
                                  have hK : Shut _ := hK
                                  have e113 := hs.get 113
                                  rw [d8] at e113
                                  go_simp
                                  exact hK.out _ _ ⟨r2, r12, r13, hmz, (fun h => g11 (fun e => h (Or.inr e))), kp f0, kp f1, kp f2, kp f3, kp f4, kp f5, kp f6, kp f7, kp f8, fun _ => rfl, kp f10, kp f11⟩
                                · -- 10
                                  have d9 := f9 (hd' 9 (by kernel_rfl))
                                  refine slot_step rfl rfl (fun az hs K hK => ?_)
                                  have hK : Shut _ := hK
                                  have cz := (hmz.1.cell hltA).trans c4w
                                  have e114 := hs.get 114
                                  rw [d9] at e114
                                  go_simp
                                  exact hK.out _ _ ⟨r2, r12, r13, hmz, (fun h => g11 (fun e => h (Or.inr e))), kp f0, kp f1, kp f2, kp f3, kp f4, kp f5, kp f6, kp f7, kp f8, kp f9, fun _ => rfl, kp f11⟩
                                · -- 11
                                  have d0 := f0 (hd' 0 (by kernel_rfl))
                                  have d5 := f5 (hd' 5 (by kernel_rfl))
                                  have d10 := f10 (hd' 10 (by kernel_rfl))
                                  refine slot_step rfl rfl (fun az hs K hK => ?_)
                                  have hK : Shut _ := hK
                                  have e105 := hs.get 105
                                  rw [d0] at e105
                                  have e110 := hs.get 110
                                  rw [d5] at e110
                                  have e115 := hs.get 115
                                  rw [d10] at e115
                                  go_wp2_with (go_at_call 85; refine (hPut.out wz (g11 hn)).mono ?_; rintro e wy ⟨⟨v, rfl⟩, ml2, hmp2⟩)
                                  exact ⟨r2, r12, r13, ⟨hmp2.bel, hmp2.b2⟩, (fun h => (h (by simp)).elim), kp f0, kp f1, kp f2, kp f3, kp f4, kp f5, kp f6, kp f7, kp f8, kp f9, kp f10, fun _ => ⟨_, hmp2⟩⟩
                              case hdone =>
                                rintro D g wz hD ⟨r2, r12, r13, hmz, g11, f0, f1, f2, f3, f4, f5, f6, f7, f8, f9, f10, f11⟩
                                simp only [setAll, List.foldl_cons, List.foldl_nil, List.setIfInBounds_toArray, List.set_cons_succ, List.set_cons_zero]
                                obtain ⟨ml2, hMp7⟩ := f11 (hD 11)
                                clear f0 f1 f2 f3 f4 f5 f6 f7 f8 f9 f10 f11 g11 hD r2 r12 r13 hmz hMpD hMp6 hPut
                                have hsc := hstepC.out
                                rw [hst4.out] at hsc
                                have hFN := hide (show FI w (some ad) n c l bad w.heap.size (M1 + 1) p10 M1 M2 pl (K + 1) b ml2 wz from ⟨by rw [← hsc]; exact hMp7, htwo.out, hcs.out⟩)
                                clear hMp7 hsc htwo hcs hstepC hst4
                                go_wp2
                                go_roundg b
                                case measure => omega
                                case rel => exact ⟨b, K + 1, ml2, rfl, by omega, Nat.le_refl _, hFN⟩
                        · rw [show decide (NV ∈ C) = false from decide_eq_false (by have := hdn.out b (by omega) (by rw [hll.out]; exact hbn); rw [hst4.out] at this; rw [← hNV]; exact this)] at hgetN
                          obtain ⟨b1, hb1⟩ : ∃ b1, b = b1 + 1 := ⟨b - 1, by omega⟩
                          have hb2 : IntKind.i64.wrap ((b : Int) - 1) = (b1 : Int) := by rw [IntWalk.i64_in _ (by omega)]; omega
                          replace hb1 := hide hb1
                          replace hNV := hide hNV
                          replace hgetN := hide hgetN
                          go_wp2
                          refine wp_region_slots [87, 88, 89, 90, 91, 92, 93, 94, 95] (fun D g wz => g 2 = .pointer (some ⟨w.heap.size, 0, none⟩) ∧ g 10 = .pointer (some ⟨p10, 0, none⟩) ∧ g 13 = .int .i64 b ∧ Dr wr wz ∧ (D 0 → g 87 = .map (some M2)) ∧ (D 1 → g 88 = .slice (some ad) n c) ∧ (D 2 → g 89 = .int .i64 b) ∧ (D 3 → g 90 = .pointer (some (ad.add (b * 3)))) ∧ (D 4 → g 91 = .pointer (some (ad.add (b * 3)))) ∧ (D 5 → g 92 = .int .i64 lt4) ∧ (D 6 → g 93 = .int .i64 NV) ∧ (D 7 → g 94 = .bool false) ∧ (D 8 → g 95 = .bool true)) (by kernel_rfl) (by kernel_rfl) 144 rfl (by kernel_rfl) ?h0 ?hstep ?hdone
                          case h0 => exact ⟨rfl, rfl, rfl, (Dr.refl wr).drew, nt0, nt0, nt0, nt0, nt0, nt0, nt0, nt0, nt0⟩
                          case hstep =>
                            intro D g wz i hi' hn hd' hI2
                            obtain ⟨r2, r10, r13, hbz, f0, f1, f2, f3, f4, f5, f6, f7, f8⟩ := hI2
                            have hi' : i < 9 := hi'
                            rcases (show i = 0 ∨ i = 1 ∨ i = 2 ∨ i = 3 ∨ i = 4 ∨ i = 5 ∨ i = 6 ∨ i = 7 ∨ i = 8 by omega) with rfl | rfl | rfl | rfl | rfl | rfl | rfl | rfl | rfl
                            · -- 0
                              refine slot_step rfl rfl (fun az hs K hK => ?_)
                              have hK : Shut _ := hK
                              have cz := (hbz.cell _).trans k10
                              have e10 := hs.get 10
                              rw [r10] at e10
                              go_simp
                              exact hK.out _ _ ⟨r2, r10, r13, hbz, fun _ => rfl, kp f1, kp f2, kp f3, kp f4, kp f5, kp f6, kp f7, kp f8⟩
                            · -- 1
                              refine slot_step rfl rfl (fun az hs K hK => ?_)
                              have hK : Shut _ := hK
                              have cz := (hbz.cell _).trans k2
                              have e2 := hs.get 2
                              rw [r2] at e2
                              go_simp
                              exact hK.out _ _ ⟨r2, r10, r13, hbz, kp f0, fun _ => rfl, kp f2, kp f3, kp f4, kp f5, kp f6, kp f7, kp f8⟩
                            · -- 2
                              refine slot_step rfl rfl (fun az hs K hK => ?_)
                              have hK : Shut _ := hK
                              have e13 := hs.get 13
                              rw [r13] at e13
                              go_simp
                              exact hK.out _ _ ⟨r2, r10, r13, hbz, kp f0, kp f1, fun _ => rfl, kp f3, kp f4, kp f5, kp f6, kp f7, kp f8⟩
                            · -- 3
                              have d1 := f1 (hd' 1 (by kernel_rfl))
                              have d2 := f2 (hd' 2 (by kernel_rfl))
                              refine slot_step rfl rfl (fun az hs K hK => ?_)
                              have hK : Shut _ := hK
                              have e88 := hs.get 88
                              rw [d1] at e88
                              have e89 := hs.get 89
                              rw [d2] at e89
                              go_simp
                              exact hK.out _ _ ⟨r2, r10, r13, hbz, kp f0, kp f1, kp f2, fun _ => rfl, kp f4, kp f5, kp f6, kp f7, kp f8⟩
                            · -- 4
                              have d3 := f3 (hd' 3 (by kernel_rfl))
                              refine slot_step rfl rfl (fun az hs K hK => ?_)
                              have hK : Shut _ := hK
                              have e90 := hs.get 90
                              rw [d3] at e90
                              go_simp
                              exact hK.out _ _ ⟨r2, r10, r13, hbz, kp f0, kp f1, kp f2, kp f3, fun _ => rfl, kp f5, kp f6, kp f7, kp f8⟩
                            · -- 5
                              have d4 := f4 (hd' 4 (by kernel_rfl))
                              refine slot_step rfl rfl (fun az hs K hK => ?_)
                              have hK : Shut _ := hK
                              have cz := (hbz.cell _).trans c4
                              have e91 := hs.get 91
                              rw [d4] at e91
                              go_simp
                              exact hK.out _ _ ⟨r2, r10, r13, hbz, kp f0, kp f1, kp f2, kp f3, kp f4, fun _ => rfl, kp f6, kp f7, kp f8⟩
                            · -- 6
                              have d5 := f5 (hd' 5 (by kernel_rfl))
                              refine slot_step rfl rfl (fun az hs K hK => ?_)
                              have hK : Shut _ := hK
                              have e92 := hs.get 92
                              rw [d5] at e92
                              go_wp2_with (go_at_call 86; refine (HN.out wz).mono ?_; rintro e wy ⟨rfl, rfl⟩; have hdr := Dr.refl wz)
                              exact ⟨r2, r10, r13, hbz.trans hdr, kp f0, kp f1, kp f2, kp f3, kp f4, kp f5, fun _ => rfl, kp f7, kp f8⟩
                            · -- 7
                              have d0 := f0 (hd' 0 (by kernel_rfl))
                              have d6 := f6 (hd' 6 (by kernel_rfl))
                              refine slot_step rfl rfl (fun az hs K hK => ?_)
                              have hK : Shut _ := hK
                              have e87 := hs.get 87
                              rw [d0] at e87
                              have e93 := hs.get 93
                              rw [d6] at e93
                              refine oper_lookupO (keyLaw_int Try.underlying3) mapB zero_bool (.tmp 87) (.tmp 93) rfl (hm2.out.toO.dr hbz) NV (hs.eval d0) (hs.eval d6) ?_
                              rw [hgetN.out]
                              exact hK.out _ _ ⟨r2, r10, r13, hbz, kp f0, kp f1, kp f2, kp f3, kp f4, kp f5, kp f6, fun _ => rfl, kp f8⟩
                            · -- 8
                              have d7 := f7 (hd' 7 (by kernel_rfl))
                              refine slot_step rfl rfl (fun az hs K hK => ?_)
                              have hK : Shut _ := hK
                              have e94 := hs.get 94
                              rw [d7] at e94
                              go_simp
                              exact hK.out _ _ ⟨r2, r10, r13, hbz, kp f0, kp f1, kp f2, kp f3, kp f4, kp f5, kp f6, kp f7, fun _ => rfl⟩
                          case hdone =>
                            rintro D g wz hD ⟨r2, r10, r13, hbz, f0, f1, f2, f3, f4, f5, f6, f7, f8⟩
                            simp only [setAll, List.foldl_cons, List.foldl_nil, List.setIfInBounds_toArray, List.set_cons_succ, List.set_cons_zero]
                            have e95 := f8 (hD 8)
                            rw [e95]
                            clear f0 f1 f2 f3 f4 f5 f6 f7 f8 hD r2 r10 r13 e95
                            have hdq5 := hide (hdq.out.trans hbz)
                            obtain ⟨w5, hw5⟩ : ∃ w5, w5 = wz := ⟨_, rfl⟩
                            subst hw5
                            clear hbz k2 k10 hm2 hgetN c4 hMp4 hdq
                            go_wp2
                            go_roundg b1
                            case measure => have := hb1.out; omega
                            case rel => exact ⟨b1, rfl, Nat.le_refl _, by have := hb1.out; omega, by have := hb1.out; omega, hdq5⟩
                · go_wp2_with (at_next; refine wpList_nextI (mkV := fun _ : Unit => .bool true) rfl _ rfl (by rfl) hrg.out (fun p hp => ⟨(), (htd.out p hp).2⟩) (fun e => absurd e h0) (fun x _ u0 u1 w7 htd2 hrg7 hgr7 hsz7 hen => ?_))
                  clear hrg hmm
                  have hb7 := hbe.out.trans ((Fr.of_grown hgr7 (fun q e => .inl (by cases e; rfl)) : Fr (fun q => q = wo.heap.size) wr w7).below hbe.out.size (fun k e => by rw [e]; exact Nat.le_refl _))
                  have hMp7 := hide (hMp.out.step hb7)
                  have hxC := hide ((htd.out (x, .bool true) (by rw [htd2]; simp)).1)
                  have hst := hide (here_step hq.out htd2)
                  have htdN := hide (fun p (hp : p ∈ u0 ++ u1) => htd.out p (by rw [htd2]; exact (List.mem_append.1 hp).elim (fun h => List.mem_append.2 (.inl h)) (fun h => List.mem_append.2 (.inr (List.mem_cons_of_mem _ h)))))
                  have hlen : (u0 ++ u1).length < gk := by rw [htd2] at hgk2; simp at hgk2 ⊢; omega
                  replace hb7 := hide hb7
                  replace hrg7 := hide hrg7
                  replace htd2 := hide htd2
                  clear hen hgr7 hsz7
                  have hMx := (hcl.out.mem x hxC.out).1
                  have hget := pl_mem hMp7.out.pl_ hMx
                  obtain ⟨V, hV⟩ : ∃ V, litVar x = V := ⟨_, rfl⟩
                  have HV := lit_Var x
                  rw [hV] at hget HV
                  replace HV := hide HV
                  have hpl := hMx.lt
                  have hlev : levOf l x = (stAt l (plN l x)).lev := rfl
                  obtain ⟨P, hpe⟩ : ∃ P, plN l x = P := ⟨_, rfl⟩
                  rw [hpe] at hpl hlev hget
                  replace hget := hide hget
                  have hpn : P < n := by rw [← hll.out]; exact hpl
                  have hpI : (P : Int) < n := by omega
                  obtain ⟨ad3, s1, z1, had, hB2, hs1, _, c1, _, _⟩ := (hr.below hMp7.out.bel (Nat.le_refl _)).get hpn
                  injection had with had
                  subst had
                  rw [stAt_is hs1] at hlev
                  obtain ⟨lt1, lv1, wy1⟩ := s1
                  simp only at c1 hlev
                  have k2 := hMp7.out.b2.cell 0
                  have k7 := hMp7.out.b7.cell 0
                  have hm1 := hide hMp7.out.m1
                  clear hs1 hV hpl hpe hMx
                  by_cases hlc : lv1 = lv
                  · have e1 : (lv1 == lv) = true := by simp [hlc]
                    have hqN := hide (hst.out.1 (by rw [hlev, hlastS]; exact hlc))
                    clear hlev hst hlc
                    refine wp_region_slots [63, 64, 65, 66, 67, 68, 69, 70, 71, 72] (fun D g wz => g 2 = .pointer (some ⟨w.heap.size, 0, none⟩) ∧ g 7 = .pointer (some ⟨M1 + 1, 0, none⟩) ∧ g 15 = .int .i64 x ∧ g 11 = .int .i64 lv ∧ Dr w7 wz ∧ (D 0 → g 63 = .slice (some ad) n c) ∧ (D 1 → g 64 = .map (some M1)) ∧ (D 2 → g 65 = .int .i64 x) ∧ (D 3 → g 66 = .int .i64 V) ∧ (D 4 → g 67 = .int .i64 P) ∧ (D 5 → g 68 = .pointer (some (ad.add (P * 3)))) ∧ (D 6 → g 69 = .pointer (some ⟨(ad.add (P * 3)).block, (ad.add (P * 3)).off + 1, none⟩)) ∧ (D 7 → g 70 = .int .i64 lv1) ∧ (D 8 → g 71 = .int .i64 lv) ∧ (D 9 → g 72 = .bool true)) (by kernel_rfl) (by kernel_rfl) 144 rfl (by kernel_rfl) ?h0 ?hstep ?hdone
                    case h0 => exact ⟨rfl, rfl, rfl, rfl, (Dr.refl w7).drew, nt0, nt0, nt0, nt0, nt0, nt0, nt0, nt0, nt0, nt0⟩
                    case hstep =>
                      intro D g wz i hi' hn hd' hI2
                      obtain ⟨r2, r7, r15, r11, hbz, f0, f1, f2, f3, f4, f5, f6, f7, f8, f9⟩ := hI2
                      have hi' : i < 10 := hi'
                      rcases (show i = 0 ∨ i = 1 ∨ i = 2 ∨ i = 3 ∨ i = 4 ∨ i = 5 ∨ i = 6 ∨ i = 7 ∨ i = 8 ∨ i = 9 by omega) with rfl | rfl | rfl | rfl | rfl | rfl | rfl | rfl | rfl | rfl
                      · -- 0
                        refine slot_step rfl rfl (fun az hs K hK => ?_)
                        have hK : Shut _ := hK
                        have cz := (hbz.cell _).trans k2
                        have e2 := hs.get 2
                        rw [r2] at e2
                        go_simp
                        exact hK.out _ _ ⟨r2, r7, r15, r11, hbz, fun _ => rfl, kp f1, kp f2, kp f3, kp f4, kp f5, kp f6, kp f7, kp f8, kp f9⟩
                      · -- 1
                        refine slot_step rfl rfl (fun az hs K hK => ?_)
                        have hK : Shut _ := hK
                        have cz := (hbz.cell _).trans k7
                        have e7 := hs.get 7
                        rw [r7] at e7
                        go_simp
                        exact hK.out _ _ ⟨r2, r7, r15, r11, hbz, kp f0, fun _ => rfl, kp f2, kp f3, kp f4, kp f5, kp f6, kp f7, kp f8, kp f9⟩
                      · -- 2
                        refine slot_step rfl rfl (fun az hs K hK => ?_)
                        have hK : Shut _ := hK
                        have e15 := hs.get 15
                        rw [r15] at e15
                        go_simp
                        exact hK.out _ _ ⟨r2, r7, r15, r11, hbz, kp f0, kp f1, fun _ => rfl, kp f3, kp f4, kp f5, kp f6, kp f7, kp f8, kp f9⟩
                      · -- 3
                        have d2 := f2 (hd' 2 (by kernel_rfl))
                        refine slot_step rfl rfl (fun az hs K hK => ?_)
                        have hK : Shut _ := hK
                        have e65 := hs.get 65
                        rw [d2] at e65
                        go_wp2_with (go_at_call 84; refine (HV.out wz).mono ?_; rintro e wy ⟨rfl, rfl⟩; have hdr := Dr.refl wz)
                        exact ⟨r2, r7, r15, r11, hbz.trans hdr, kp f0, kp f1, kp f2, fun _ => rfl, kp f4, kp f5, kp f6, kp f7, kp f8, kp f9⟩
                      · -- 4
                        have d1 := f1 (hd' 1 (by kernel_rfl))
                        have d3 := f3 (hd' 3 (by kernel_rfl))
                        refine slot_step rfl rfl (fun az hs K hK => ?_)
                        have hK : Shut _ := hK
                        have e64 := hs.get 64
                        rw [d1] at e64
                        have e66 := hs.get 66
                        rw [d3] at e66
                        refine oper_lookupO (keyLaw_int Try.underlying3) mapI zero_int2 (.tmp 64) (.tmp 66) rfl (hm1.out.toO.dr hbz) V (hs.eval d1) (hs.eval d3) ?_
                        rw [hget.out]
                        exact hK.out _ _ ⟨r2, r7, r15, r11, hbz, kp f0, kp f1, kp f2, kp f3, fun _ => rfl, kp f5, kp f6, kp f7, kp f8, kp f9⟩
                      · -- 5
                        have d0 := f0 (hd' 0 (by kernel_rfl))
                        have d4 := f4 (hd' 4 (by kernel_rfl))
                        refine slot_step rfl rfl (fun az hs K hK => ?_)
                        have hK : Shut _ := hK
                        have e63 := hs.get 63
                        rw [d0] at e63
                        have e67 := hs.get 67
                        rw [d4] at e67
                        go_simp
                        exact hK.out _ _ ⟨r2, r7, r15, r11, hbz, kp f0, kp f1, kp f2, kp f3, kp f4, fun _ => rfl, kp f6, kp f7, kp f8, kp f9⟩
                      · -- 6
                        have d5 := f5 (hd' 5 (by kernel_rfl))
                        refine slot_step rfl rfl (fun az hs K hK => ?_)
                        have hK : Shut _ := hK
                        have e68 := hs.get 68
                        rw [d5] at e68
                        go_simp
                        exact hK.out _ _ ⟨r2, r7, r15, r11, hbz, kp f0, kp f1, kp f2, kp f3, kp f4, kp f5, fun _ => rfl, kp f7, kp f8, kp f9⟩
                      · -- 7
                        have d6 := f6 (hd' 6 (by kernel_rfl))
                        refine slot_step rfl rfl (fun az hs K hK => ?_)
                        have hK : Shut _ := hK
                        have cz := (hbz.cell _).trans c1
                        have e69 := hs.get 69
                        rw [d6] at e69
                        go_simp
                        exact hK.out _ _ ⟨r2, r7, r15, r11, hbz, kp f0, kp f1, kp f2, kp f3, kp f4, kp f5, kp f6, fun _ => rfl, kp f8, kp f9⟩
                      · -- 8
                        refine slot_step rfl rfl (fun az hs K hK => ?_)
                        have hK : Shut _ := hK
                        have e11 := hs.get 11
                        rw [r11] at e11
                        go_simp
                        exact hK.out _ _ ⟨r2, r7, r15, r11, hbz, kp f0, kp f1, kp f2, kp f3, kp f4, kp f5, kp f6, kp f7, fun _ => rfl, kp f9⟩
                      · -- 9
                        have d7 := f7 (hd' 7 (by kernel_rfl))
                        have d8 := f8 (hd' 8 (by kernel_rfl))
                        refine slot_step rfl rfl (fun az hs K hK => ?_)
                        have hK : Shut _ := hK
                        have e70 := hs.get 70
                        rw [d7] at e70
                        have e71 := hs.get 71
                        rw [d8] at e71
                        go_simp
                        exact hK.out _ _ ⟨r2, r7, r15, r11, hbz, kp f0, kp f1, kp f2, kp f3, kp f4, kp f5, kp f6, kp f7, kp f8, fun _ => rfl⟩
                    case hdone =>
                      rintro D g wz hD ⟨r2, r7, r15, r11, hbz, f0, f1, f2, f3, f4, f5, f6, f7, f8, f9⟩
                      simp only [setAll, List.foldl_cons, List.foldl_nil, List.setIfInBounds_toArray, List.set_cons_succ, List.set_cons_zero]
                      have e72 := f9 (hD 9)
                      rw [e72]
                      clear f0 f1 f2 f3 f4 f5 f6 f7 f8 f9 hD r2 r7 r15 r11 e72
                      have hrg8 := hide (rng_dr hrg7.out hbz)
                      have hb8 := hide (hb7.out.trans (hbz.below _))
                      obtain ⟨w8, hw8⟩ : ∃ w8, w8 = wz := ⟨_, rfl⟩
                      subst hw8
                      clear hbz hMp7 k2 k7 hm1 c1 hB2
                      go_wp2
                      go_roundg ((u0 ++ u1).length)
                      case measure => exact hlen
                      case rel => exact ⟨q + 1, u0 ++ u1, by go_num, Nat.le_refl _, hqN, htdN, hrg8, hb8⟩
                  · have e1 : (lv1 == lv) = false := by simp [hlc]
                    have hqN := hide (hst.out.2 (by rw [hlev, hlastS]; exact hlc))
                    clear hlev hst hlc
                    refine wp_region_slots [63, 64, 65, 66, 67, 68, 69, 70, 71, 72] (fun D g wz => g 2 = .pointer (some ⟨w.heap.size, 0, none⟩) ∧ g 7 = .pointer (some ⟨M1 + 1, 0, none⟩) ∧ g 15 = .int .i64 x ∧ g 11 = .int .i64 lv ∧ Dr w7 wz ∧ (D 0 → g 63 = .slice (some ad) n c) ∧ (D 1 → g 64 = .map (some M1)) ∧ (D 2 → g 65 = .int .i64 x) ∧ (D 3 → g 66 = .int .i64 V) ∧ (D 4 → g 67 = .int .i64 P) ∧ (D 5 → g 68 = .pointer (some (ad.add (P * 3)))) ∧ (D 6 → g 69 = .pointer (some ⟨(ad.add (P * 3)).block, (ad.add (P * 3)).off + 1, none⟩)) ∧ (D 7 → g 70 = .int .i64 lv1) ∧ (D 8 → g 71 = .int .i64 lv) ∧ (D 9 → g 72 = .bool false)) (by kernel_rfl) (by kernel_rfl) 144 rfl (by kernel_rfl) ?h0 ?hstep ?hdone
                    case h0 => exact ⟨rfl, rfl, rfl, rfl, (Dr.refl w7).drew, nt0, nt0, nt0, nt0, nt0, nt0, nt0, nt0, nt0, nt0⟩
                    case hstep =>
                      intro D g wz i hi' hn hd' hI2
                      obtain ⟨r2, r7, r15, r11, hbz, f0, f1, f2, f3, f4, f5, f6, f7, f8, f9⟩ := hI2
                      have hi' : i < 10 := hi'
                      rcases (show i = 0 ∨ i = 1 ∨ i = 2 ∨ i = 3 ∨ i = 4 ∨ i = 5 ∨ i = 6 ∨ i = 7 ∨ i = 8 ∨ i = 9 by omega) with rfl | rfl | rfl | rfl | rfl | rfl | rfl | rfl | rfl | rfl
                      · -- 0
                        refine slot_step rfl rfl (fun az hs K hK => ?_)
                        have hK : Shut _ := hK
                        have cz := (hbz.cell _).trans k2
                        have e2 := hs.get 2
                        rw [r2] at e2
                        go_simp
                        exact hK.out _ _ ⟨r2, r7, r15, r11, hbz, fun _ => rfl, kp f1, kp f2, kp f3, kp f4, kp f5, kp f6, kp f7, kp f8, kp f9⟩
                      · -- 1
                        refine slot_step rfl rfl (fun az hs K hK => ?_)
                        have hK : Shut _ := hK
                        have cz := (hbz.cell _).trans k7
                        have e7 := hs.get 7
                        rw [r7] at e7
                        go_simp
                        exact hK.out _ _ ⟨r2, r7, r15, r11, hbz, kp f0, fun _ => rfl, kp f2, kp f3, kp f4, kp f5, kp f6, kp f7, kp f8, kp f9⟩
                      · -- 2
                        refine slot_step rfl rfl (fun az hs K hK => ?_)
                        have hK : Shut _ := hK
                        have e15 := hs.get 15
                        rw [r15] at e15
                        go_simp
                        exact hK.out _ _ ⟨r2, r7, r15, r11, hbz, kp f0, kp f1, fun _ => rfl, kp f3, kp f4, kp f5, kp f6, kp f7, kp f8, kp f9⟩
                      · -- 3
                        have d2 := f2 (hd' 2 (by kernel_rfl))
                        refine slot_step rfl rfl (fun az hs K hK => ?_)
                        have hK : Shut _ := hK
                        have e65 := hs.get 65
                        rw [d2] at e65
                        go_wp2_with (go_at_call 84; refine (HV.out wz).mono ?_; rintro e wy ⟨rfl, rfl⟩; have hdr := Dr.refl wz)
                        exact ⟨r2, r7, r15, r11, hbz.trans hdr, kp f0, kp f1, kp f2, fun _ => rfl, kp f4, kp f5, kp f6, kp f7, kp f8, kp f9⟩
                      · -- 4
                        have d1 := f1 (hd' 1 (by kernel_rfl))
                        have d3 := f3 (hd' 3 (by kernel_rfl))
                        refine slot_step rfl rfl (fun az hs K hK => ?_)
                        have hK : Shut _ := hK
                        have e64 := hs.get 64
                        rw [d1] at e64
                        have e66 := hs.get 66
                        rw [d3] at e66
                        refine oper_lookupO (keyLaw_int Try.underlying3) mapI zero_int2 (.tmp 64) (.tmp 66) rfl (hm1.out.toO.dr hbz) V (hs.eval d1) (hs.eval d3) ?_
                        rw [hget.out]
                        exact hK.out _ _ ⟨r2, r7, r15, r11, hbz, kp f0, kp f1, kp f2, kp f3, fun _ => rfl, kp f5, kp f6, kp f7, kp f8, kp f9⟩
                      · -- 5
                        have d0 := f0 (hd' 0 (by kernel_rfl))
                        have d4 := f4 (hd' 4 (by kernel_rfl))
                        refine slot_step rfl rfl (fun az hs K hK => ?_)
                        have hK : Shut _ := hK
                        have e63 := hs.get 63
                        rw [d0] at e63
                        have e67 := hs.get 67
                        rw [d4] at e67
                        go_simp
                        exact hK.out _ _ ⟨r2, r7, r15, r11, hbz, kp f0, kp f1, kp f2, kp f3, kp f4, fun _ => rfl, kp f6, kp f7, kp f8, kp f9⟩
                      · -- 6
                        have d5 := f5 (hd' 5 (by kernel_rfl))
                        refine slot_step rfl rfl (fun az hs K hK => ?_)
                        have hK : Shut _ := hK
                        have e68 := hs.get 68
                        rw [d5] at e68
                        go_simp
                        exact hK.out _ _ ⟨r2, r7, r15, r11, hbz, kp f0, kp f1, kp f2, kp f3, kp f4, kp f5, fun _ => rfl, kp f7, kp f8, kp f9⟩
                      · -- 7
                        have d6 := f6 (hd' 6 (by kernel_rfl))
                        refine slot_step rfl rfl (fun az hs K hK => ?_)
                        have hK : Shut _ := hK
                        have cz := (hbz.cell _).trans c1
                        have e69 := hs.get 69
                        rw [d6] at e69
                        go_simp
                        exact hK.out _ _ ⟨r2, r7, r15, r11, hbz, kp f0, kp f1, kp f2, kp f3, kp f4, kp f5, kp f6, fun _ => rfl, kp f8, kp f9⟩
                      · -- 8
                        refine slot_step rfl rfl (fun az hs K hK => ?_)
                        have hK : Shut _ := hK
                        have e11 := hs.get 11
                        rw [r11] at e11
                        go_simp
                        exact hK.out _ _ ⟨r2, r7, r15, r11, hbz, kp f0, kp f1, kp f2, kp f3, kp f4, kp f5, kp f6, kp f7, fun _ => rfl, kp f9⟩
                      · -- 9
                        have d7 := f7 (hd' 7 (by kernel_rfl))
                        have d8 := f8 (hd' 8 (by kernel_rfl))
                        refine slot_step rfl rfl (fun az hs K hK => ?_)
                        have hK : Shut _ := hK
                        have e70 := hs.get 70
                        rw [d7] at e70
                        have e71 := hs.get 71
                        rw [d8] at e71
                        go_simp
                        exact hK.out _ _ ⟨r2, r7, r15, r11, hbz, kp f0, kp f1, kp f2, kp f3, kp f4, kp f5, kp f6, kp f7, kp f8, fun _ => rfl⟩
                    case hdone =>
                      rintro D g wz hD ⟨r2, r7, r15, r11, hbz, f0, f1, f2, f3, f4, f5, f6, f7, f8, f9⟩
                      simp only [setAll, List.foldl_cons, List.foldl_nil, List.setIfInBounds_toArray, List.set_cons_succ, List.set_cons_zero]
                      have e72 := f9 (hD 9)
                      rw [e72]
                      clear f0 f1 f2 f3 f4 f5 f6 f7 f8 f9 hD r2 r7 r15 r11 e72
                      have hrg8 := hide (rng_dr hrg7.out hbz)
                      have hb8 := hide (hb7.out.trans (hbz.below _))
                      obtain ⟨w8, hw8⟩ : ∃ w8, w8 = wz := ⟨_, rfl⟩
                      subst hw8
                      clear hbz hMp7 k2 k7 hm1 c1 hB2
                      go_wp2
                      go_roundg ((u0 ++ u1).length)
                      case measure => exact hlen
                      case rel => exact ⟨q, u0 ++ u1, rfl, Nat.le_refl _, hqN, htdN, hrg8, hb8⟩
end Go.Proofs.Ytcjoohaagdihlaa.Learn
