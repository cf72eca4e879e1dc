/- Contracts on the cube of a text, the program's and the document's. -/
import Derived.Test.YtcjoohaagdihlaaDoorCubeText3
namespace Go.Proofs.YtcjoohaagdihlaaDoor.CubeText
open Go.RowKit Go.Lt Go.Proofs.YtcjoohaagdihlaaDoor.Lit
set_option linter.unusedVariables false
set_option linter.unusedSimpArgs false

/-- what a sign at a place says -/
def litOf (k : Nat) (x : Int) : List Int := if x = 49 then [2 * (k : Int)] else if x = 48 then [2 * (k : Int) + 1] else []
def litsOf (l : List Int) (k : Nat) : List Int := match l with
  | [] => []
  | x :: r => litOf k x ++ litsOf r (k + 1)
theorem litsOf_snoc (l : List Int) (x : Int) (k : Nat) : litsOf (l ++ [x]) k = litsOf l k ++ litOf (k + l.length) x := by
  induction l generalizing k with
  | nil => simp [litsOf]
  | cons a l ih =>
    simp only [List.cons_append, litsOf, ih, List.append_assoc, List.length_cons]
    rw [show k + 1 + l.length = k + (l.length + 1) by omega]
theorem litsOf_take (l : List Int) (k : Nat) (x : Int) (h : l[k]? = some x) : litsOf (l.take (k + 1)) 0 = litsOf (l.take k) 0 ++ litOf k x := by
  have hk : k < l.length := (List.getElem?_eq_some_iff.1 h).1
  rw [List.take_add_one, h]
  show litsOf (l.take k ++ [x]) 0 = _
  rw [litsOf_snoc, List.length_take, Nat.min_eq_left (by omega), Nat.zero_add]
theorem litsOf_len (l : List Int) (k : Nat) : (litsOf l k).length ≤ l.length := by
  induction l generalizing k with
  | nil => simp [litsOf]
  | cons a l ih =>
    have := ih (k + 1)
    simp only [litsOf, List.length_append, List.length_cons]
    have h1 : (litOf k a).length ≤ 1 := by
      unfold litOf
      split
      · simp
      · split <;> simp
    omega
def readOK (s : ByteArray) : Bool := allSign s && decide (s.size ≤ 2000)

def CubeRead (s : ByteArray) (w : World) (e : Ending) (w' : World) : Prop :=
  (readOK s = true ∧ ∃ A n c, e = .returned (.tuple #[.slice A n c, .int .i64 0]) ∧ n ≤ s.size ∧ Rd w' A n (ivs (litsOf (bs s) 0)) ∧ Below w.heap.size w w') ∨
  (readOK s = false ∧ e = .returned (.tuple #[.slice none 0 0, .int .i64 2]) ∧ Below w.heap.size w w')

set_option maxHeartbeats 1600000 in
theorem ref_Read (s : ByteArray) (w : World) (hn : s.size ≤ 2100) :
    Calls Tryd.prog 25 #[.string s] w fun e w' => CubeRead s w e w' := by
  have hl := hide (bs_len s)
  have hN := hide hn
  clear hn
  have hOK := hide (show readOK s = (allSign s && decide (s.size ≤ 2000)) from rfl)
  go_enter Tryd.func25, Tryd.ntmps25
  go_wp2
  go_loopw [4, 5] (fun v i wr => ∃ k m : Nat, k ≤ s.size ∧ m ≤ k ∧ i = .int .i64 k ∧ ((bs s).take k).all isSign = true ∧ wr.ownsRow w.heap.size 3 1 v m ((litsOf ((bs s).take k) 0).map (Value.int .i64)) ∧ Below w.heap.size w wr)
    (fun _ i _ => s.size - (intOf i).toNat)
  case atStart =>
    refine ⟨0, 0, Nat.zero_le _, Nat.le_refl _, rfl, by simp, ?_, (Below.refl _ _).alloc (Nat.le_refl _) _⟩
    exact World.ownsRow_lit w #[] 0 (Nat.le_refl _) (by unfold maxLen; omega) rfl
  case round =>
    obtain ⟨k, m, hk, hmk, rfl, hall, hown, hb⟩ := hrel
    by_cases hlt : k < s.size
    · have hkI : (k : Int) < s.size := by omega
      have hkI2 := hide (show k < 2100 by have := hN.out; omega)
      have hkI3 : (k : Int) < 2100 := by have := hN.out; omega
      obtain ⟨x, hx⟩ : ∃ x, (bs s)[k]? = some x := ⟨_, List.getElem?_eq_getElem (by rw [hl.out]; exact hlt)⟩
      have hidx := fun W => idx_str (P := Tryd.prog) Tryd.underlying9 s k x hx W
      have HT := hide (litsOf_take (bs s) k x hx)
      have HA := hide (show ((bs s).take (k + 1)).all isSign = (isSign x) by rw [List.take_add_one, hx, List.all_append, hall]; simp)
      have hmem := hide (List.mem_of_getElem? hx)
      clear hx hall hl
      by_cases h49 : x = 49
      · subst h49
        go_wp2_with (at_builtin; refine wpList_push rfl _ _ _ rfl Tryd.underlying22 info_int rfl (by decide) rfl rfl hown hb (Nat.le_refl _) rfl (by simp [Value.oneCell']) (by have := hkI2.out; unfold maxLen; omega) (by have := hkI2.out; omega) ?_; intro v1 w1 hown1 hb1)
        go_roundw
        case rel => exact ⟨k + 1, m + 1, hlt, by omega, by go_num, HA.out.trans rfl, by rw [HT.out, List.map_append]; exact hown1, hb1⟩
        case measure => simp [intOf]; omega
      by_cases h48 : x = 48
      · subst h48
        go_wp2_with (at_builtin; refine wpList_push rfl _ _ _ rfl Tryd.underlying22 info_int rfl (by decide) rfl rfl hown hb (Nat.le_refl _) rfl (by simp [Value.oneCell']) (by have := hkI2.out; unfold maxLen; omega) (by have := hkI2.out; omega) ?_; intro v1 w1 hown1 hb1)
        go_roundw
        case rel => exact ⟨k + 1, m + 1, hlt, by omega, by go_num, HA.out.trans rfl, by rw [HT.out, List.map_append]; exact hown1, hb1⟩
        case measure => simp [intOf]; omega
      have hlo : litOf k x = [] := by unfold litOf; rw [if_neg h49, if_neg h48]
      have e48 : (x == 48) = false := by simp [h48]
      have e49 : (x == 49) = false := by simp [h49]
      have hsg := hide (show isSign x = (x == 120) by unfold isSign; rw [Bool.eq_iff_iff]; simp [h48, h49])
      rw [hlo, List.append_nil] at HT
      clear hlo
      by_cases h120 : x = 120
      rotate_left 1
      · have e120 : (x == 120) = false := by simp [h120]
        have n48 : (x != 48) = true := by simp [h48]
        have n49 : (x != 49) = true := by simp [h49]
        have n120 : (x != 120) = true := by simp [h120]
        go_wp2
        go_ret2
        refine .inr ⟨?_, rfl, hb⟩
        have : allSign s = false := by
          unfold allSign
          rw [List.all_eq_false]
          exact ⟨x, hmem.out, by rw [hsg.out, e120]; simp⟩
        rw [hOK.out, this]; rfl
      · subst h120
        go_wp2
        go_roundw
        case rel => exact ⟨k + 1, m, hlt, by omega, by go_num, by rw [HA.out]; rfl, by rw [HT.out]; exact hown, hb⟩
        case measure => simp [intOf]; omega
    · have hkn : s.size = k := by omega
      have hkk : True → decide ((k : Int) < s.size) = false := fun _ => by rw [decide_eq_false_iff_not]; omega
      have e : (bs s).take k = bs s := by rw [← hkn, ← hl.out, List.take_length]
      rw [e] at hown hall
      have hOK2 := hide (show readOK s = decide (s.size ≤ 2000) by rw [hOK.out, show allSign s = true from hall]; rfl)
      clear hall hkn
      by_cases h2 : s.size ≤ 2000
      · have hg : True → decide ((2000 : Int) < s.size) = false := fun _ => by rw [decide_eq_false_iff_not]; omega
        have hg2 : True → decide (2000 < s.size) = false := fun _ => by rw [decide_eq_false_iff_not]; omega
        have h3 := hide (show readOK s = true by rw [hOK2.out]; simp [h2])
        clear h2
        go_wp2
        go_ret2
        obtain ⟨A', c', rfl, _, _, hr'⟩ := Rd.of_own hown
        exact .inl ⟨h3.out, A', m, c', rfl, by omega, hr', hb⟩
      · have hg : True → decide ((2000 : Int) < s.size) = true := fun _ => by rw [decide_eq_true_iff]; omega
        have hg2 : True → decide (2000 < s.size) = true := fun _ => by rw [decide_eq_true_iff]; omega
        have h3 := hide (show readOK s = false by rw [hOK2.out]; simp [h2])
        clear h2
        go_wp2
        go_ret2
        exact .inr ⟨h3.out, rfl, hb⟩

theorem tri_Read_ok (s : ByteArray) (w : World) (hn : s.size ≤ 1000000) (hs : Signs w) (h : allSign s = true) :
    Calls Tryd.prog 86 #[.string s] w fun e w' => ∃ A c, e = .returned (.tuple #[.slice A s.size c, .int .i64 0]) ∧ Rd w' A s.size (ivs ((bs s).map valI)) ∧ Below w.heap.size w w' :=
  (tri_Read s w hn hs).mono fun e w' hp => by
    rcases hp with ⟨_, v, rfl, ho, hb⟩ | ⟨hf, _⟩
    · obtain ⟨A, c, rfl, _, _, hr⟩ := Rd.of_own ho
      exact ⟨A, c, rfl, hr, hb⟩
    · rw [h] at hf; cases hf
theorem tri_Read_bad (s : ByteArray) (w : World) (hn : s.size ≤ 1000000) (hs : Signs w) (h : allSign s = false) :
    Calls Tryd.prog 86 #[.string s] w fun e w' => e = .returned (.tuple #[.slice none 0 0, .int .i64 2]) ∧ Below w.heap.size w w' :=
  (tri_Read s w hn hs).mono fun e w' hp => by
    rcases hp with ⟨hf, _⟩ | ⟨_, he, hb⟩
    · rw [h] at hf; cases hf
    · exact ⟨he, hb⟩
theorem valI_48 (x : Int) (h1 : x ≠ 49) (h0 : x ≠ 48) : (valI x == 1) = false ∧ (valI x == 0) = false := by
  unfold valI
  rw [if_neg h0, if_neg h1]
  split <;> exact ⟨rfl, rfl⟩

set_option maxHeartbeats 1600000 in
theorem cube_Read (s : ByteArray) (w : World) (hn : s.size ≤ 2100) (hs : Signs w) :
    Calls Tryd.prog 24 #[.string s] w fun e w' => CubeRead s w e w' := by
  have hl := hide (bs_len s)
  have hOK := hide (show readOK s = (allSign s && decide (s.size ≤ 2000)) from rfl)
  have hN := hide hn
  have hM : s.size ≤ 1000000 := by omega
  have hM := hide hM
  clear hn
  cases hA : allSign s
  · have h3 := hide (show readOK s = false by rw [hOK.out, hA]; rfl)
    have hA := hide hA
    go_enter Tryd.func24, Tryd.ntmps24
    go_wp2_with (go_at_call 86; refine (tri_Read_bad s _ hM.out hs hA.out).mono ?_; rintro e w1 ⟨rfl, hb1⟩)
    go_ret2
    exact .inr ⟨h3.out, rfl, hb1⟩
  · have h3 := hide (show readOK s = decide (s.size ≤ 2000) by rw [hOK.out, hA]; rfl)
    have hA := hide hA
    by_cases h2 : s.size ≤ 2000
    · have hg : True → decide ((2000 : Int) < s.size) = false := fun _ => by rw [decide_eq_false_iff_not]; omega
      have hg2 : True → decide (2000 < s.size) = false := fun _ => by rw [decide_eq_false_iff_not]; omega
      have h4 := hide (show readOK s = true by rw [h3.out]; simp [h2])
      have h2 := hide h2
      go_enter Tryd.func24, Tryd.ntmps24
      go_wp2_with (go_at_call 86; refine (tri_Read_ok s _ hM.out hs hA.out).mono ?_; rintro e w1 ⟨A, c, rfl, hr, hb1⟩)
      go_loopw [6, 23] (fun v i wr => ∃ k m : Nat, k ≤ s.size ∧ m ≤ k ∧ i = .int .i64 k ∧ wr.ownsRow w1.heap.size 3 1 v m ((litsOf ((bs s).take k) 0).map (Value.int .i64)) ∧ Below w1.heap.size w1 wr)
        (fun _ i _ => s.size - (intOf i).toNat)
      case atStart => exact ⟨0, 0, Nat.zero_le _, Nat.le_refl _, rfl, World.ownsRow_nil _ _ _ _, Below.refl _ _⟩
      case round =>
        obtain ⟨k, m, hk, hmk, rfl, hown, hb⟩ := hrel
        by_cases hlt : k < s.size
        · have hkI : (k : Int) < s.size := by omega
          have hkI2 := hide (show k < 2100 by have := hN.out; omega)
          have hkI3 : (k : Int) < 2100 := by have := hN.out; omega
          obtain ⟨x, hx⟩ : ∃ x, (bs s)[k]? = some x := ⟨_, List.getElem?_eq_getElem (by rw [hl.out]; exact hlt)⟩
          have HT := hide (litsOf_take (bs s) k x hx)
          obtain ⟨ad, y, rfl, hB, hy, hc⟩ := (hr.below hb (Nat.le_refl _)).get hlt
          have hyx : y = valI x := by rw [List.getElem?_map, hx] at hy; exact (Option.some.inj hy).symm
          clear hy hx hl
          by_cases h49 : x = 49
          · subst h49
            rw [show valI 49 = 1 from rfl] at hyx
            subst hyx
            go_wp2_with (at_builtin; refine wpList_push rfl _ _ _ rfl Tryd.underlying22 info_int rfl (by decide) rfl rfl hown hb (Nat.le_refl _) rfl (by simp [Value.oneCell']) (by have := hkI2.out; unfold maxLen; omega) (by have := hkI2.out; omega) ?_; intro v1 w2 hown1 hb2)
            go_roundw
            case rel => exact ⟨k + 1, m + 1, hlt, by omega, by go_num, by rw [HT.out, List.map_append]; exact hown1, hb2⟩
            case measure => simp [intOf]; omega
          by_cases h48 : x = 48
          · subst h48
            rw [show valI 48 = 0 from rfl] at hyx
            subst hyx
            go_wp2_with (at_builtin; refine wpList_push rfl _ _ _ rfl Tryd.underlying22 info_int rfl (by decide) rfl rfl hown hb (Nat.le_refl _) rfl (by simp [Value.oneCell']) (by have := hkI2.out; unfold maxLen; omega) (by have := hkI2.out; omega) ?_; intro v1 w2 hown1 hb2)
            go_roundw
            case rel => exact ⟨k + 1, m + 1, hlt, by omega, by go_num, by rw [HT.out, List.map_append]; exact hown1, hb2⟩
            case measure => simp [intOf]; omega
          have hlo : litOf k x = [] := by unfold litOf; rw [if_neg h49, if_neg h48]
          obtain ⟨e1, e0⟩ := valI_48 x h49 h48
          rw [hlo, List.append_nil] at HT
          rw [← hyx] at e1 e0
          have n1 : ¬ y = 1 := by simpa using e1
          have n0 : ¬ y = 0 := by simpa using e0
          clear hlo hyx h48 h49
          go_wp2
          go_roundw
          case rel => exact ⟨k + 1, m, hlt, by omega, by go_num, by rw [HT.out]; exact hown, hb⟩
          case measure => simp [intOf]; omega
        · have hkn : s.size = k := by omega
          have e : (bs s).take k = bs s := by rw [← hkn, ← hl.out, List.take_length]
          rw [e] at hown
          clear hkn
          go_wp2
          go_ret2
          obtain ⟨A', c', rfl, _, _, hr'⟩ := Rd.of_own hown
          exact .inl ⟨h4.out, A', m, c', rfl, by omega, hr', hb1.trans (hb.mono hb1.size)⟩
    · have hg : True → decide ((2000 : Int) < s.size) = true := fun _ => by rw [decide_eq_true_iff]; omega
      have hg2 : True → decide (2000 < s.size) = true := fun _ => by rw [decide_eq_true_iff]; omega
      have h4 := hide (show readOK s = false by rw [h3.out]; simp [h2])
      clear h2
      go_enter Tryd.func24, Tryd.ntmps24
      go_wp2_with (go_at_call 86; refine (tri_Read_ok s _ hM.out hs hA.out).mono ?_; rintro e w1 ⟨A, c, rfl, hr, hb1⟩)
      go_ret2
      exact .inr ⟨h4.out, rfl, hb1⟩
end Go.Proofs.YtcjoohaagdihlaaDoor.CubeText
