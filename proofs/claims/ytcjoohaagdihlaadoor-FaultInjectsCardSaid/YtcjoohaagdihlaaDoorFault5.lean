/- Faults as keys of maps. -/
import Derived.Test.YtcjoohaagdihlaaDoorFault2
import Derived.Test.YtcjoohaagdihlaaDoorMap1
import Derived.KernelRfl
namespace Go.Proofs.YtcjoohaagdihlaaDoor.Fault
open Go.RowKit Go.Lt Go.Proofs.YtcjoohaagdihlaaDoor.Lit Go.Instr
set_option linter.unusedVariables false
set_option linter.unusedSimpArgs false

def encK (f : Ft) : Value := .agg #[.int .i64 f.v, .int .i64 f.p, .bool f.o]
theorem checkK (b : Bool) (f : Ft) (w : World) : (checkKey b 10000 54 (encK f)).run Tryd.prog w = .ok () w := by
  unfold encK
  kernel_rfl
theorem equalK (f g : Ft) (w : World) : (Op.equal 54 (encK f) (encK g)).run Tryd.prog w = .ok (decide (f = g)) w := by
  obtain ⟨v, p, o⟩ := f
  obtain ⟨v', p', o'⟩ := g
  have hd : decide ((⟨v, p, o⟩ : Ft) = ⟨v', p', o'⟩) = decide (v = v' ∧ p = p' ∧ o = o') := by rw [Bool.eq_iff_iff, decide_eq_true_iff, decide_eq_true_iff, Ft.mk.injEq]
  rw [hd]
  unfold encK
  simp [Op.equal, Op.maxDepth, go_sem]
  by_cases h1 : v = v' <;> by_cases h2 : p = p' <;> by_cases h3 : o = o' <;> simp [h1, h2, h3]
theorem sameK (f : Ft) : sameBits 10000 (encK f) (encK f) = true := by
  unfold encK
  have h : ∀ n : Nat, sameBits (n + 1) (.agg #[.int .i64 f.v, .int .i64 f.p, .bool f.o]) (.agg #[.int .i64 f.v, .int .i64 f.p, .bool f.o]) = true := by
    intro n
    unfold sameBits
    have h1 : ∀ m k (x : Int), sameBits m (.int k x) (.int k x) = true := by intro m k x; cases m <;> simp [sameBits]
    have h2 : ∀ m (x : Bool), sameBits m (.bool x) (.bool x) = true := by intro m x; cases m <;> simp [sameBits]
    simp [h1, h2]
  exact h 9999
theorem askK (f : Ft) : ∀ (es : List MapEntry) (l : List (Ft × Value)) (i : Nat) (w : World), es.map (fun e => (e.key, e.val)) = l.map (fun p => (encK p.1, p.2)) →
    (findAsking 54 (encK f) es i).run Tryd.prog w = .ok (mfind l f i) w := by
  intro es
  induction es with
  | nil =>
    intro l i w h
    cases l with
    | nil => rfl
    | cons p l => cases h
  | cons e es ih =>
    intro l i w h
    cases l with
    | nil => cases h
    | cons p l =>
      obtain ⟨k, u⟩ := p
      rw [List.map_cons, List.map_cons] at h
      obtain ⟨h1, h2⟩ := List.cons.inj h
      have hk : e.key = encK k := congrArg Prod.fst h1
      have hv : e.val = u := congrArg Prod.snd h1
      rw [findAsking]
      rw [Sem.run_bind]
      rw [hk]
      rw [equalK]
      rw [Result.andThen_ok]
      unfold mfind
      by_cases hfk : k = f
      · subst hfk
        rw [show decide (k = k) = true by simp, if_pos rfl, if_pos rfl, hv]
        rfl
      · have : decide (f = k) = false := by rw [decide_eq_false_iff_not]; exact fun e => hfk e.symm
        rw [this, if_neg hfk, if_neg (by simp)]
        exact ih l (i + 1) w h2
theorem keyLaw_K : KeyLaw Tryd.prog 54 encK where
  check b a w := checkK b a w
  find a es l w h := by
    cases es with
    | nil =>
      cases l with
      | nil =>
        simp [findKey, findNow, mfind]
      | cons p l => cases h
    | cons e es =>
      have hn : ∀ fs, findNow (.struct fs) (encK a) (e :: es) 0 = none := by
        intro fs
        have hk : ∃ b : Ft, e.key = encK b := by
          cases l with
          | nil => cases h
          | cons p l =>
            rw [List.map_cons, List.map_cons] at h
            obtain ⟨h1, _⟩ := List.cons.inj h
            exact ⟨p.1, congrArg Prod.fst h1⟩
        obtain ⟨b, hb⟩ := hk
        unfold findNow
        rw [hb]
        rfl
      have hask := askK a (e :: es) l 0 w h
      unfold findKey
      rw [Sem.run_bind]
      rw [run_underlying Tryd.underlying54]
      rw [Result.andThen_ok]
      rw [hn]
      exact hask
  same a := sameK a
end Go.Proofs.YtcjoohaagdihlaaDoor.Fault
