/- Cubes in order, one form of the result for both texts; the program's Join. -/
import Derived.Test.YtcjoohaagdihlaaDoorNorm2
import Derived.Test.YtcjoohaagdihlaaDoorNorm3
import Derived.Test.YtcjoohaagdihlaaDoorOwn1
namespace Go.Proofs.YtcjoohaagdihlaaDoor.Sorted
open Go.RowKit Go.Lt Go.Proofs.YtcjoohaagdihlaaDoor.Lit
set_option linter.unusedVariables false
set_option linter.unusedSimpArgs false

def normL (l : List Int) : List Int := if normB l then srt l else []
def NormU (l : List Int) (w : World) (e : Ending) (w' : World) : Prop :=
  ∃ A n c, e = .returned (.tuple #[.slice A n c, .bool (normB l)]) ∧ n ≤ l.length ∧ Rd w' A n (ivs (normL l)) ∧ Below w.heap.size w w'
theorem normU (A : Option Addr) (n c : Nat) (l : List Int) (w : World) (hn : n ≤ 1000000) (hr : Rd w A n (ivs l)) :
    Calls Tryd.prog 50 #[.slice A n c] w (NormU l w) :=
  (cube_Norm A n c l w hn hr).mono fun e w' h => by
    rcases h with ⟨h1, v, rfl, hown, hb⟩ | ⟨h1, rfl, hb⟩
    · obtain ⟨A', c', rfl, _, _, hr'⟩ := Rd.of_own hown
      exact ⟨A', _, c', by rw [h1], srt_len l, by unfold normL; rw [if_pos h1]; exact hr', hb⟩
    · exact ⟨none, 0, 0, by rw [h1], Nat.zero_le _, by unfold normL; rw [h1]; exact Rd.nil _ _, hb⟩
theorem rnormU (A : Option Addr) (n c : Nat) (l : List Int) (w : World) (hn : n ≤ 1000) (hr : Rd w A n (ivs l)) :
    Calls Tryd.prog 51 #[.slice A n c] w (NormU l w) :=
  (ref_Norm A n c l w hn hr).mono fun e w' h => by
    rcases h with ⟨h1, A', n', c', rfl, hn', hr', hb⟩ | ⟨h1, rfl, hb⟩
    · exact ⟨A', _, c', by rw [h1], hn', by unfold normL; rw [if_pos h1]; exact hr', hb⟩
    · exact ⟨none, 0, 0, by rw [h1], Nat.zero_le _, by unfold normL; rw [h1]; exact Rd.nil _ _, hb⟩

set_option maxHeartbeats 800000 in
theorem cube_Join (A B : Option Addr) (n m ca cb : Nat) (a b : List Int) (w : World) (hn : n ≤ 1000) (hm : m ≤ 1000) (hra : Rd w A n (ivs a)) (hrb : Rd w B m (ivs b)) :
    Calls Tryd.prog 52 #[.slice A n ca, .slice B m cb] w (NormU (a ++ b) w) := by
  have HN := hide hn
  have HM := hide hm
  clear hn hm
  go_enter Tryd.func52, Tryd.ntmps52
  go_wp2_with (at_builtin; first | (refine wpList_more rfl _ _ rfl (by rfl) (by rfl) hown1 hb1 hb1.size (hrb.below hb1 (Nat.le_refl _)) (by have := HN.out; have := HM.out; omega) ?_; intro v2 w2 hown2 hb2) | (refine wpList_fresh rfl _ _ rfl (by rfl) (by rfl) hra (by have := HN.out; omega) ?_; intro v1 w1 hown1 hb1))
  obtain ⟨A2, c2, rfl, _, _, hr2⟩ := Rd.of_own hown2
  clear hown2
  refine (normU _ _ _ (a ++ b) _ (by have := HN.out; have := HM.out; omega) hr2).mono ?_
  rintro e w3 ⟨A3, n3, c3, rfl, hn3, hr3, hb3⟩
  have HB := hide (hb2.trans (hb3.mono hb2.size))
  clear hb3 hb1 hra hrb hr2
  go_wp2
  go_ret2
  exact ⟨A3, n3, c3, rfl, hn3, hr3, HB.out⟩
end Go.Proofs.YtcjoohaagdihlaaDoor.Sorted
