/- What the program's First goes through: keys in any order. No program in sight. -/
import Derived.Test.YtcjoohaagdihlaaLearn9
namespace Go.Proofs.Ytcjoohaagdihlaa.Learn
open Go.RowKit Go.Lt Go.Proofs.Ytcjoohaagdihlaa.Lit Go.Proofs.Ytcjoohaagdihlaa.Sorted Go.Instr
set_option linter.unusedVariables false
set_option linter.unusedSimpArgs false

theorem srt_same {a b : List Int} (h : ∀ x, x ∈ a ↔ x ∈ b) : srt a = srt b := rise_one (srt_rise a) (srt_rise b) (fun y => by rw [srt_mem, srt_mem, h])
theorem in_keys {C : List Int} {ml : List (Int × Value)} (h : InIs C ml) (hk : (ml.map (·.1)).Nodup) (hc : C.Nodup) : List.Perm (ml.map (·.1)) C := by
  rw [List.perm_ext_iff_of_nodup hk hc]
  intro x
  constructor
  · intro hx
    obtain ⟨p, hp, rfl⟩ := List.mem_map.1 hx
    exact (h.vals hk p hp).1
  · intro hx
    have h1 := h.get x
    rw [if_pos hx] at h1
    exact List.mem_map.2 ⟨_, mget_mem h1, rfl⟩
theorem here_perm {l : List St} {a b : List Int} (h : List.Perm a b) : hereP l a = hereP l b := (h.filter _).length_eq
theorem here_mid {l : List St} (u v : List Int) (x : Int) : hereP l (u ++ x :: v) = if levOf l x = lastL l then hereP l (u ++ v) + 1 else hereP l (u ++ v) := by
  have h1 : hereP l (u ++ x :: v) = hereP l (x :: (u ++ v)) := here_perm List.perm_middle
  rw [h1]
  unfold hereP
  rw [List.filter_cons]
  by_cases h : levOf l x = lastL l <;> simp [h]
theorem back1_comm (l : List St) (b x y : Int) : back1 l (back1 l b x) y = back1 l (back1 l b y) x := by
  unfold back1
  repeat' split
  all_goals omega
theorem back_perm {l : List St} {a b : List Int} (h : List.Perm a b) : backP l a = backP l b := by
  unfold backP
  have key : ∀ z, a.foldl (back1 l) z = b.foldl (back1 l) z := by
    induction h with
    | nil => intro z; rfl
    | cons x _ ih => intro z; exact ih _
    | swap x y t => intro z; show t.foldl (back1 l) (back1 l (back1 l z y) x) = t.foldl (back1 l) (back1 l (back1 l z x) y); rw [back1_comm]
    | trans _ _ h1 h2 => intro z; exact (h1 z).trans (h2 z)
  exact key 0
theorem back_ge {l : List St} (a : List Int) : 0 ≤ backP l a := by
  have key : ∀ (a : List Int) (z : Int), z ≤ a.foldl (back1 l) z := by
    intro a
    induction a with
    | nil => intro z; exact Int.le_refl _
    | cons x a ih =>
      intro z
      have h1 := ih (back1 l z x)
      have h2 : z ≤ back1 l z x := by unfold back1; split <;> omega
      show z ≤ a.foldl (back1 l) (back1 l z x)
      omega
  exact key a 0
/-- striking the one at a place -/
theorem in_rest {l : List St} {C : List Int} {ml : List (Int × Value)} (h : InIs C ml) (hc : ClOk l C) {z : Int} (hz : z ∈ C) : InIs (restP l (plN l z) C) (mdel ml z) := ⟨fun x => by
  rw [mget_mdel, h.get]
  by_cases hx : z = x
  · subst hx
    rw [if_pos rfl, if_neg]
    intro h1
    have := (List.mem_filter.1 h1).2
    simp at this
  · rw [if_neg hx]
    by_cases hm : x ∈ C
    · rw [if_pos hm, if_pos]
      refine List.mem_filter.2 ⟨hm, ?_⟩
      have : plN l x ≠ plN l z := fun e => hx (mem_inj (hc.mem x hm).1 (hc.mem z hz).1 e).symm
      simp only [decide_eq_true_eq, ne_eq]
      omega
    · have h2 : x ∉ restP l (plN l z) C := fun h1 => hm (List.mem_filter.1 h1).1
      rw [if_neg hm, if_neg h2]⟩
/-- going down from above the last one's place: none is in the clause but there -/
theorem down_no {l : List St} {bad C : List Int} (hg : GoodP l bad) (hc : ClOk l C) {tp a : Nat} (ht : topP l C = tp) (hh : 1 ≤ hereP l C) (ha : tp < a) (hal : a < l.length) : litNot (stAt l a).lit ∉ C := fun hm => by
  obtain ⟨z, hz, hzl, hzt, hzn⟩ := top_lt hc hh
  have hx := (hc.mem _ hm).1
  have hs := hg.1 a hal
  have hgd : litGood (stAt l a).lit = true := good_iff.2 ⟨by have := hs.two; omega, hs.good⟩
  have hp := place_of hg.1 hal (Nat.le_refl _) (x := litNot (stAt l a).lit) (by rw [not_half hgd])
  have hpl : plN l (litNot (stAt l a).lit) = a := by unfold plN; rw [hp]; rfl
  have hzl2 : (stAt l (plN l z)).lev = lastL l := hzl
  have h1 := lev_rise hg.1 (show plN l z ≤ a by omega) hal
  have h2 := lev_last hg.1 hal
  have h3 : levOf l (litNot (stAt l a).lit) = lastL l := by unfold levOf; rw [hpl]; omega
  have h4 := top_ge hm h3
  omega
theorem down_yes {l : List St} {C : List Int} (hc : ClOk l C) {z : Int} (hz : z ∈ C) : litNot (stAt l (plN l z)).lit = z := mem_not (hc.mem z hz).1
/-- the places so far -/
def PlTo (l : List St) (k : Nat) (pl : List (Int × Value)) : Prop := ∀ i, i < k → mget pl ((stAt l i).lit / 2) = some (.int .i64 i)
theorem pl_nil (l : List St) : PlTo l 0 [] := fun i hi => absurd hi (Nat.not_lt_zero _)
theorem pl_put {l : List St} {bad : List Int} (hg : GoodP l bad) {k : Nat} (hk : k < l.length) {pl : List (Int × Value)} (h : PlTo l k pl) : PlTo l (k + 1) (mput pl (litVar (stAt l k).lit) (.int .i64 k)) := fun i hi => by
  have hs := hg.1 k hk
  have hgd : litGood (stAt l k).lit = true := good_iff.2 ⟨by have := hs.two; omega, hs.good⟩
  have hv : litVar (stAt l k).lit = (stAt l k).lit / 2 := by unfold litVar; rw [hgd]; rfl
  rw [mget_mput, hv]
  by_cases he : (stAt l k).lit / 2 = (stAt l i).lit / 2
  · rw [if_pos he]
    have h1 := place_of hg.1 hk (Nat.le_refl _) (x := (stAt l k).lit) rfl
    have h2 := place_of hg.1 (show i < l.length by omega) (Nat.le_refl _) (x := (stAt l k).lit) he.symm
    rw [h1] at h2
    injection h2 with h2
    rw [h2]
  · rw [if_neg he]
    exact h i (by
      by_cases h1 : i = k
      · subst h1; exact absurd rfl he
      · omega)
end Go.Proofs.Ytcjoohaagdihlaa.Learn
