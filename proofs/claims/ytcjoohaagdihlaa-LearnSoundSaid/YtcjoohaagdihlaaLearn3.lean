/- What has been learned so far as a map; the closures of the program's Good; whether one of some numbers is such. -/
import Derived.Test.YtcjoohaagdihlaaLearn2
import Derived.Test.YtcjoohaagdihlaaMapSlots
namespace Go.Proofs.Ytcjoohaagdihlaa.Learn
open Go.RowKit Go.Lt Go.Proofs.Ytcjoohaagdihlaa.Lit Go.Proofs.Ytcjoohaagdihlaa.Sorted Go.Instr
open Go.Proofs.Ytcjoohaagdihlaa.Kept (Sl Sl.val addr_off)
set_option linter.unusedVariables false
set_option linter.unusedSimpArgs false

/-- whether a literal is One so far -/
def soB (pre : List St) (x : Int) : Bool := decide (x = 1) || pre.any fun s => decide (s.lit = x)
def SoIs (pre : List St) (ml : List (Int × Value)) : Prop := ∀ x, (mget ml x).getD (.bool false) = .bool (soB pre x)
theorem so_nil : SoIs [] (mput [] 1 (.bool true)) := fun x => by
  rw [mget_mput]
  unfold soB
  by_cases h : (1 : Int) = x
  · rw [if_pos h]; simp [h]
  · rw [if_neg h]; have : ¬ x = 1 := fun e => h e.symm; simp [mget, this]
theorem so_put {pre : List St} {ml : List (Int × Value)} (h : SoIs pre ml) (s : St) : SoIs (pre ++ [s]) (mput ml s.lit (.bool true)) := fun x => by
  rw [mget_mput]
  by_cases he : s.lit = x
  · rw [if_pos he]; simp [soB, he]
  · rw [if_neg he, h x]; simp [soB, he]
theorem so_zero {pre : List St} (hl : ∀ s ∈ pre, 2 ≤ s.lit ∧ s.lit ≤ 33554433) (x : Int) : soB pre (litNot x) = zeroB pre x := by
  unfold soB zeroB
  cases hg : litGood x with
  | false =>
    have hx : ¬ (0 ≤ x ∧ x ≤ 33554433) := bad_iff.1 hg
    have h1 : litNot x = -1 := by unfold litNot; rw [hg]; rfl
    rw [h1, decide_eq_false (by decide), decide_eq_false (show ¬ x = 0 by omega), Bool.false_or, Bool.false_or, Bool.false_and, List.any_eq_false]
    intro s hs
    have := hl s hs
    simp; omega
  | true =>
    obtain ⟨h0, h1⟩ := good_iff.1 hg
    rw [Bool.true_and]
    congr 1
    unfold litNot
    rw [hg, if_pos rfl, Bool.eq_iff_iff, decide_eq_true_iff, decide_eq_true_iff]
    split <;> omega
theorem so_new {pre : List St} (hl : ∀ s ∈ pre, 2 ≤ s.lit ∧ s.lit ≤ 33554433) {x : Int} (h2 : 2 ≤ x) (h3 : x ≤ 33554433) : placeO pre x = none ↔ soB pre x = false ∧ soB pre (litNot x) = false := by
  have hg : litGood x = true := good_iff.2 ⟨by omega, h3⟩
  have hn : litNot x = if x % 2 = 1 then x - 1 else x + 1 := by unfold litNot; rw [hg]; rfl
  have hn2 : 2 ≤ litNot x := by rw [hn]; split <;> omega
  unfold placeO soB
  rw [List.findIdx?_eq_none_iff, Bool.or_eq_false_iff, Bool.or_eq_false_iff, List.any_eq_false, List.any_eq_false, decide_eq_false_iff_not, decide_eq_false_iff_not]
  constructor
  · intro h
    refine ⟨⟨by omega, fun s hs => ?_⟩, ⟨by omega, fun s hs => ?_⟩⟩
    · have := h s hs; simp at this ⊢; intro e; rw [e] at this; exact this rfl
    · have := h s hs; simp at this ⊢; intro e; apply this; rw [e, hn]; split <;> omega
  · rintro ⟨⟨_, h⟩, ⟨_, k⟩⟩ s hs
    have a := h s hs
    have b := k s hs
    have c := hl s hs
    simp at a b ⊢
    rw [hn] at b
    intro e
    split at b <;> omega
theorem zero_bool (w : World) : (zeroValue 4).run Try.prog w = .ok (.bool false) w := by simp
theorem mapB : Try.prog.underlying 108 = some (.map 3 4) := by kernel_rfl
def AnyIs (b : Bool) (w : World) (e : Ending) (w' : World) : Prop := e = .returned (.bool b) ∧ Dr w w'
set_option maxRecDepth 8000 in
set_option maxHeartbeats 1000000 in
/-- 'wrong' -/
theorem good_wrong (c5 B : Nat) (pre : List St) (ml : List (Int × Value)) (x : Int) (w : World) (hc : w.cell? ⟨c5, 0, none⟩ = some (.map (some B))) (hm : MapO w encI B ml) (hs : SoIs pre ml) :
    Calls Try.prog 91 #[.int .i64 x, .pointer (some ⟨c5, 0, none⟩)] w (AnyIs (!soB pre (litNot x)) w) := by
  have hx := hs (litNot x)
  obtain ⟨b, hb⟩ : ∃ b, soB pre (litNot x) = b := ⟨_, rfl⟩
  rw [hb] at hx ⊢
  replace hx := hide hx
  replace hm := hide hm
  have HN := hide (fun q => lit_Not x (w.drewN q))
  clear hs hb
  go_enter Try.func91, Try.ntmps91
  go_wp2
  refine wp_region_slots [4, 5, 6, 7, 8, 3] (fun D g wz => g 0 = .int .i64 x ∧ g 1 = .pointer (some ⟨c5, 0, none⟩) ∧ Dr w wz ∧ (D 0 → g 4 = .map (some B)) ∧ (D 1 → g 5 = .int .i64 x) ∧ (D 2 → g 6 = .int .i64 (litNot x)) ∧ (D 3 → g 7 = .bool b) ∧ (D 4 → g 8 = .bool (!b)) ∧ (D 5 → g 3 = .bool (!b))) (by kernel_rfl) (by kernel_rfl) 9 rfl (by kernel_rfl) ?h0 ?hstep ?hdone
  case h0 => exact ⟨rfl, rfl, (Dr.refl w).drew, nt0, nt0, nt0, nt0, nt0, nt0⟩
  case hstep =>
    intro D g wz i hi' hn hd' hI2
    obtain ⟨r0, r1, hbz, f0, f1, f2, f3, f4, f5⟩ := hI2
    have hi' : i < 6 := hi'
    rcases (show i = 0 ∨ i = 1 ∨ i = 2 ∨ i = 3 ∨ i = 4 ∨ i = 5 by omega) with rfl | rfl | rfl | rfl | rfl | rfl
    · -- 0
      refine slot_step rfl rfl (fun az hs K hK => ?_)
      have hK : Shut _ := hK
      have cz := (hbz.cell _).trans hc
      have e1 := hs.get 1
      rw [r1] at e1
      go_simp
      exact hK.out _ _ ⟨r0, r1, hbz, fun _ => rfl, kp f1, kp f2, kp f3, kp f4, kp f5⟩
    · -- 1
      refine slot_step rfl rfl (fun az hs K hK => ?_)
      have hK : Shut _ := hK
      have e0 := hs.get 0
      rw [r0] at e0
      go_simp
      exact hK.out _ _ ⟨r0, r1, hbz, kp f0, fun _ => rfl, kp f2, kp f3, kp f4, kp f5⟩
    · -- 2
      have d1 := f1 (hd' 1 (by kernel_rfl))
      refine slot_step rfl rfl (fun az hs K hK => ?_)
      have hK : Shut _ := hK
      have e5 := hs.get 5
      rw [d1] at e5
      go_wp2_with (go_at_call 86; refine (lit_Not x wz).mono ?_; rintro e wy ⟨rfl, rfl⟩; have hdr := Dr.refl wz)
      exact ⟨r0, r1, hbz.trans hdr, kp f0, kp f1, fun _ => rfl, kp f3, kp f4, kp f5⟩
    · -- 3
      have d0 := f0 (hd' 0 (by kernel_rfl))
      have d2 := f2 (hd' 2 (by kernel_rfl))
      refine slot_step rfl rfl (fun az hs K hK => ?_)
      have hK : Shut _ := hK
      have e4 := hs.get 4
      rw [d0] at e4
      have e6 := hs.get 6
      rw [d2] at e6
      refine oper_lookupO (keyLaw_int Try.underlying3) mapB zero_bool (.tmp 4) (.tmp 6) rfl (hm.out.dr hbz) (litNot x) (hs.eval d0) (hs.eval d2) ?_
      rw [hx.out]
      exact hK.out _ _ ⟨r0, r1, hbz, kp f0, kp f1, kp f2, fun _ => rfl, kp f4, kp f5⟩
    · -- 4
      have d3 := f3 (hd' 3 (by kernel_rfl))
      refine slot_step rfl rfl (fun az hs K hK => ?_)
      have hK : Shut _ := hK
      have e7 := hs.get 7
      rw [d3] at e7
      go_simp
      exact hK.out _ _ ⟨r0, r1, hbz, kp f0, kp f1, kp f2, kp f3, fun _ => rfl, kp f5⟩
    · -- 5
      have d4 := f4 (hd' 4 (by kernel_rfl))
      refine slot_step rfl rfl (fun az hs K hK => ?_)
      have hK : Shut _ := hK
      have e8 := hs.get 8
      rw [d4] at e8
      go_simp
      exact hK.out _ _ ⟨r0, r1, hbz, kp f0, kp f1, kp f2, kp f3, kp f4, fun _ => rfl⟩
  case hdone =>
    rintro D g wz hD ⟨r0, r1, hbz, f0, f1, f2, f3, f4, f5⟩
    simp only [setAll, List.foldl_cons, List.foldl_nil, List.setIfInBounds_toArray, List.set_cons_succ, List.set_cons_zero]
    have e3 := f5 (hD 5)
    rw [e3]
    clear f0 f1 f2 f3 f4 f5
    go_wp2
    go_ret
    exact ⟨rfl, hbz⟩
end Go.Proofs.Ytcjoohaagdihlaa.Learn
