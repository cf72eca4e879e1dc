/- Contracts on cubes in order, the program's Norm and Join. -/
import Derived.Test.YtcjoohaagdihlaaTied2
namespace Go.Proofs.Ytcjoohaagdihlaa.Sorted
open Go.RowKit Go.Lt Go.Proofs.Ytcjoohaagdihlaa.Lit
set_option linter.unusedVariables false
set_option linter.unusedSimpArgs false

def NormIs (l : List Int) (w : World) (e : Ending) (w' : World) : Prop :=
  (normB l = true ∧ ∃ v, e = .returned (.tuple #[v, .bool true]) ∧ w'.ownsRow w.heap.size 3 1 v (srt l).length (ivs (srt l)) ∧ Below w.heap.size w w') ∨
  (normB l = false ∧ e = .returned (.tuple #[.slice none 0 0, .bool false]) ∧ Below w.heap.size w w')
theorem tied_is {A : Option Addr} {n c : Nat} {l : List Int} {w : World} {b : Bool} (hn : n ≤ 1000000) (hr : Rd w A n (ivs l)) (h : tiedB l = b) :
    Calls Try.prog 133 #[.slice A n c] w fun e w' => e = .returned (.bool b) ∧ Below w.heap.size w w' := by
  subst h; exact lit_Tied A n c l w hn hr

set_option maxHeartbeats 800000 in
theorem cube_Norm (A : Option Addr) (n c : Nat) (l : List Int) (w : World) (hn : n ≤ 1000000) (hr : Rd w A n (ivs l)) :
    Calls Try.prog 100 #[.slice A n c] w (NormIs l w) := by
  have hl := hide hr.len
  have HL := hide (srt_len l)
  have HE := hide (fun x y hx hy => norm_ends (c := l) x y hx hy)
  have H0 := hide (norm_nil (c := l))
  go_enter Try.func100, Try.ntmps100
  go_wp2_with fail
  refine (lit_Sorted _ _ _ l _ hn hr).mono ?_
  rintro e w1 ⟨v, rfl, hown, hb⟩
  have hown' := hide hown
  obtain ⟨A1, c1, rfl, _, _, hr1⟩ := Rd.of_own hown
  clear hown
  have hm : (srt l).length ≤ 1000000 := by have := HL.out; have := hl.out; omega
  clear HL hl hr hn
  obtain ⟨s, hs⟩ : ∃ s, srt l = s := ⟨_, rfl⟩
  rw [hs] at hm hr1 HE H0
  rw [hs]
  have hown : Hid (w1.ownsRow w.heap.size 3 1 (.slice A1 s.length c1) s.length (ivs s)) := by rw [← hs]; exact hown'
  have HS := hide hs
  clear hs hown'
  cases s with
  | nil =>
    have HT := hide (H0.out rfl)
    have htn := hide (show tiedB [] = false from rfl)
    clear H0 HE
    go_wp2_with fail
    refine (tied_is (by simp) (Rd.nil _ _) htn.out).mono ?_
    rintro e w2 ⟨rfl, hb2⟩
    go_wp2
    go_ret2
    refine .inl ⟨HT.out, _, rfl, ?_, hb.trans (hb2.mono hb.size)⟩
    rw [HS.out]
    exact own_keep hown.out hb2
  | cons x r =>
    obtain ⟨m, hms⟩ : ∃ m, r.length = m := ⟨_, rfl⟩
    have hlen : (x :: r).length = m + 1 := by rw [List.length_cons, hms]
    rw [hlen] at hm hr1
    rw [hlen]
    have hmI : (m : Int) ≤ 1000000 := by omega
    obtain ⟨ad, x', rfl, hB, hx, hc⟩ := hr1.get (show 0 < m + 1 by omega)
    obtain ⟨ad', y, hA', hB', hy, hc'⟩ := hr1.get (show m < m + 1 by omega)
    injection hA' with hA'
    subst hA'
    have hxx : x = x' := by simpa using hx
    subst hxx
    have HN := hide (HE.out x y rfl (by rw [hlen]; exact hy))
    have hlen' := hide hlen
    clear hms hlen hx hy H0 HE
    have hc0 : w1.cell? ad = some (.int .i64 x) := by simpa [Addr.add] using hc
    clear hc
    by_cases hx0 : x < 0
    · have hF := hide (show normB l = false by rw [HN.out]; simp [show ¬ 0 ≤ x by omega])
      go_wp2
      go_ret2
      exact .inr ⟨hF.out, rfl, hb⟩
    · have hx0' : 0 ≤ x := by omega
      by_cases hy1 : 4001 < y
      · have hF := hide (show normB l = false by rw [HN.out]; simp [show ¬ y ≤ 4001 by omega])
        have f1 : True → decide (4001 < y) = true := fun _ => by rw [decide_eq_true_iff]; exact hy1
        clear hy1
        go_wp2
        go_ret2
        exact .inr ⟨hF.out, rfl, hb⟩
      · have f1 : True → decide (4001 < y) = false := fun _ => by rw [decide_eq_false_iff_not]; exact hy1
        have hT := hide (show normB l = !tiedB (x :: r) by rw [HN.out]; simp [hx0', show y ≤ 4001 by omega])
        clear hy1
        cases ht : tiedB (x :: r)
        · have hF := hide (show normB l = true by rw [hT.out, ht]; rfl)
          have ht' := hide ht
          clear ht
          go_wp2_with fail
          refine (tied_is (by omega) hr1 ht'.out).mono ?_
          rintro e w2 ⟨rfl, hb2⟩
          go_wp2
          go_ret2
          refine .inl ⟨hF.out, _, rfl, ?_, hb.trans (hb2.mono hb.size)⟩
          rw [HS.out, hlen'.out]
          have h1 := own_keep hown.out hb2
          rw [hlen'.out] at h1
          exact h1
        · have hF := hide (show normB l = false by rw [hT.out, ht]; rfl)
          have ht' := hide ht
          clear ht
          go_wp2_with fail
          refine (tied_is (by omega) hr1 ht'.out).mono ?_
          rintro e w2 ⟨rfl, hb2⟩
          go_wp2
          go_ret2
          exact .inr ⟨hF.out, rfl, hb.trans (hb2.mono hb.size)⟩
end Go.Proofs.Ytcjoohaagdihlaa.Sorted
