/- The signs of a cube there and back: the plain law; the example; the law of CubeTexts. -/
import Derived.Test.YtcjoohaagdihlaaDoorCubeText4
import Derived.Test.YtcjoohaagdihlaaDoorCubeHas
namespace Go.Proofs.YtcjoohaagdihlaaDoor.CubeText
open Go.RowKit Go.Lt Go.Proofs.YtcjoohaagdihlaaDoor.Lit Go.Proofs.YtcjoohaagdihlaaDoor.CubeHas
set_option linter.unusedVariables false
set_option linter.unusedSimpArgs false

theorem mem_litOf {k : Nat} {x y : Int} : y ∈ litOf k x ↔ (x = 49 ∧ y = 2 * (k : Int)) ∨ (x = 48 ∧ y = 2 * (k : Int) + 1) := by
  unfold litOf
  by_cases h9 : x = 49
  · simp [h9]
  · by_cases h8 : x = 48
    · simp [h8]
    · simp [h9, h8]
theorem mem_litsOf {l : List Int} : ∀ {k : Nat} {y : Int}, y ∈ litsOf l k ↔ ∃ i x, l[i]? = some x ∧ y ∈ litOf (k + i) x := by
  induction l with
  | nil => intro k y; simp [litsOf]
  | cons a l ih =>
    intro k y
    show y ∈ litOf k a ++ litsOf l (k + 1) ↔ _
    rw [List.mem_append, ih]
    constructor
    · rintro (h | ⟨i, x, hx, h⟩)
      · exact ⟨0, a, rfl, h⟩
      · exact ⟨i + 1, x, by simpa using hx, by rwa [show k + (i + 1) = k + 1 + i by omega]⟩
    · rintro ⟨i, x, hx, h⟩
      rcases i with _ | i
      · left
        have : a = x := by simpa using hx
        rwa [this]
      · right
        exact ⟨i, x, by simpa using hx, by rwa [show k + 1 + i = k + (i + 1) by omega]⟩
theorem has_even {l : List Int} {i : Nat} {x : Int} (hx : l[i]? = some x) : hasB (litsOf l 0) (2 * (i : Int)) = decide (x = 49) := by
  rw [Bool.eq_iff_iff, has_iff, decide_eq_true_iff, mem_litsOf]
  constructor
  · rintro ⟨j, y, hy, h⟩
    rcases mem_litOf.1 h with ⟨h9, h2⟩ | ⟨h8, h2⟩
    · have : i = j := by omega
      subst this
      rw [hx] at hy
      exact (Option.some.inj hy).trans h9
    · omega
  · rintro rfl
    exact ⟨i, 49, hx, mem_litOf.2 (.inl ⟨rfl, by omega⟩)⟩
theorem has_odd {l : List Int} {i : Nat} {x : Int} (hx : l[i]? = some x) : hasB (litsOf l 0) (2 * (i : Int) + 1) = decide (x = 48) := by
  rw [Bool.eq_iff_iff, has_iff, decide_eq_true_iff, mem_litsOf]
  constructor
  · rintro ⟨j, y, hy, h⟩
    rcases mem_litOf.1 h with ⟨h9, h2⟩ | ⟨h8, h2⟩
    · omega
    · have : i = j := by omega
      subst this
      rw [hx] at hy
      exact (Option.some.inj hy).trans h8
  · rintro rfl
    exact ⟨i, 48, hx, mem_litOf.2 (.inr ⟨rfl, by omega⟩)⟩
theorem text_back (s : ByteArray) (h : readOK s = true) : str ((signsOf (litsOf (bs s) 0) (bounded s.size)).map sgn) = .string s := by
  have h' := h
  unfold readOK at h'
  rw [Bool.and_eq_true, decide_eq_true_iff] at h'
  obtain ⟨hA, h2⟩ := h'
  have hb : bounded s.size = s.data.size := by unfold bounded; show _ = s.size; omega
  have key : (signsOf (litsOf (bs s) 0) s.data.size).map sgn = s.data.toList := by
    apply List.ext_getElem
    · simp [signsOf]
    · intro i h1 h3
      have hi : i < s.data.size := by simpa using h3
      have hx : (bs s)[i]? = some (((s.data[i]).toNat : Nat) : Int) := by
        unfold bs; rw [List.getElem?_map, Array.getElem?_toList, Array.getElem?_eq_getElem hi]; rfl
      have hsg : isSign (((s.data[i]).toNat : Nat) : Int) = true := (List.all_eq_true.1 hA) _ (List.mem_of_getElem? hx)
      have e1 : (List.map sgn (signsOf (litsOf (bs s) 0) s.data.size))[i] = sgn (signAt (litsOf (bs s) 0) i) := by simp [signsOf]
      rw [e1]
      unfold signAt
      rw [has_even hx, has_odd hx]
      rw [Array.getElem_toList]
      unfold isSign at hsg
      rw [decide_eq_true_iff] at hsg
      generalize s.data[i] = b at hsg
      rcases hsg with h8 | h9 | hx
      · have : b = 48 := UInt8.toNat_inj.1 (by show b.toNat = 48; omega)
        subst this; rfl
      · have : b = 49 := UInt8.toNat_inj.1 (by show b.toNat = 49; omega)
        subst this; rfl
      · have : b = 120 := UInt8.toNat_inj.1 (by show b.toNat = 120; omega)
        subst this; rfl
  rw [hb, key]
  rfl

theorem Rd.lit (w : World) (e : TypeId) (xs : List Value) (hm : xs.length ≤ maxLen) : Rd (w.alloc (.cells xs.toArray e)) (some ⟨w.heap.size, 0, none⟩) xs.length xs := by
  have h := World.ownsRow_lit (base := w.heap.size) (e := e) (size := 1) w xs.toArray xs.length (Nat.le_refl _) hm (by simp)
  obtain ⟨A, c, hv, _, _, hr⟩ := Rd.of_own h
  injection hv with h1
  rw [← h1] at hr
  exact hr

theorem Rd.lit_at (w : World) (e : TypeId) (xs : List Value) (hm : xs.length ≤ maxLen) (g : Nat) (hg : w.heap.size = g) : Rd (w.alloc (.cells xs.toArray e)) (some ⟨g, 0, none⟩) xs.length xs := by
  subst hg; exact Rd.lit w e xs hm

theorem lives_Text (A : Option Addr) (w : World) (hs : Signs w) (hr : Rd w A 2 (ivs [1, 4])) :
    Calls Tryd.prog 27 #[.slice A 2 2, .int .i64 3] w fun e w' => e = .returned (.string ⟨#[48, 120, 49]⟩) ∧ Below w.heap.size w w' :=
  (cube_Text A 2 2 [1, 4] 3 w (by omega) hs hr).mono fun e w' ⟨he, hb⟩ => ⟨he.trans (by rfl), hb⟩

theorem lives_Has1 (A B : Option Addr) (w : World) (hr : Rd w A 2 (ivs [1, 4])) (hrs : Rd w B 3 (bvs [false, true, true])) :
    Calls Tryd.prog 53 #[.slice A 2 2, .slice B 3 3] w fun e w' => e = .returned (.bool true) ∧ w = w' :=
  (cube_Has A B 2 3 2 3 [1, 4] [false, true, true] w (by omega) (by omega) hr hrs (by intro x hx; simp at hx; omega)).mono fun e w' ⟨he, hb⟩ => ⟨he.trans (by rfl), hb⟩
theorem lives_Has2 (A B : Option Addr) (w : World) (hr : Rd w A 2 (ivs [1, 4])) (hrs : Rd w B 2 (bvs [false, true])) :
    Calls Tryd.prog 53 #[.slice A 2 2, .slice B 2 2] w fun e w' => e = .returned (.bool false) ∧ w = w' :=
  (cube_Has A B 2 2 2 2 [1, 4] [false, true] w (by omega) (by omega) hr hrs (by intro x hx; simp at hx; omega)).mono fun e w' ⟨he, hb⟩ => ⟨he.trans (by rfl), hb⟩

theorem lives (w : World) (hs : Signs w) : Calls Tryd.prog 15 #[] w fun e w' => e = .returned (.bool true) ∧ Below w.heap.size w w' := by
  go_enter Tryd.func15, Tryd.ntmps15
  go_wp2_with (go_at_call 27; refine (lives_Text _ _ (hs.below ((Below.refl _ _).alloc (Nat.le_refl _) _)) (Rd.lit w 3 (ivs [1, 4]) (by decide))).mono ?_; rintro e w1 ⟨rfl, hb1⟩)
  have r1 : Rd ((w1.alloc (.cells #[.int .i64 1, .int .i64 4] 3)).alloc (.cells #[.bool false, .bool true, .bool true] 4)) (some ⟨w1.heap.size, 0, none⟩) 2 (ivs [1, 4]) :=
    (Rd.lit w1 3 (ivs [1, 4]) (by decide)).below ((Below.refl _ _).alloc (Nat.le_refl _) _) (Nat.le_refl _)
  have r2 : Rd ((w1.alloc (.cells #[.int .i64 1, .int .i64 4] 3)).alloc (.cells #[.bool false, .bool true, .bool true] 4)) (some ⟨w1.heap.size + 1, 0, none⟩) 3 (bvs [false, true, true]) :=
    Rd.lit_at (w1.alloc (.cells #[.int .i64 1, .int .i64 4] 3)) 4 (bvs [false, true, true]) (by decide) _ (by simp)
  refine (lives_Has1 _ _ _ r1 r2).mono ?_
  rintro e w2 ⟨rfl, rfl⟩
  have hz : ((w1.alloc (.cells #[.int .i64 1, .int .i64 4] 3)).alloc (.cells #[.bool false, .bool true, .bool true] 4)).heap.size = w1.heap.size + 1 + 1 := by simp
  have hb0 : Below w.heap.size w w1 := ((Below.refl _ _).alloc (Nat.le_refl _) _).trans (hb1.mono (by simp))
  have hs0 := hb0.size
  have hb3 : Below w.heap.size w ((w1.alloc (.cells #[.int .i64 1, .int .i64 4] 3)).alloc (.cells #[.bool false, .bool true, .bool true] 4)) := (hb0.alloc (by omega) _).alloc (by simp; omega) _
  clear r1 r2 hb1
  go_wp2_with fail
  generalize (w1.alloc (.cells #[.int .i64 1, .int .i64 4] 3)).alloc (.cells #[.bool false, .bool true, .bool true] 4) = W at *
  have r3 : Rd ((W.alloc (.cells #[.int .i64 1, .int .i64 4] 3)).alloc (.cells #[.bool false, .bool true] 4)) (some ⟨w1.heap.size + 1 + 1, 0, none⟩) 2 (ivs [1, 4]) :=
    (Rd.lit_at W 3 (ivs [1, 4]) (by decide) _ hz).below ((Below.refl _ _).alloc (Nat.le_refl _) _) (Nat.le_refl _)
  have r4 : Rd ((W.alloc (.cells #[.int .i64 1, .int .i64 4] 3)).alloc (.cells #[.bool false, .bool true] 4)) (some ⟨w1.heap.size + 1 + 1 + 1, 0, none⟩) 2 (bvs [false, true]) :=
    Rd.lit_at (W.alloc (.cells #[.int .i64 1, .int .i64 4] 3)) 4 (bvs [false, true]) (by decide) _ (by simp [hz])
  refine (lives_Has2 _ _ _ r3 r4).mono ?_
  rintro e w2 ⟨rfl, rfl⟩
  go_wp2
  go_ret
  exact ⟨rfl, (hb3.alloc (by rw [hz]; omega) _).alloc (by simp [hz]; omega) _⟩
end Go.Proofs.YtcjoohaagdihlaaDoor.CubeText
