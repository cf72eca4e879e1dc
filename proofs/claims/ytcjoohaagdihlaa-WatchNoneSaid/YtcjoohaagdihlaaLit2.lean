/- Contracts of the functions on lists of numbers and truths: what is among them, and whether two are one. -/
import Derived.Test.YtcjoohaagdihlaaLit1
namespace Go.Proofs.Ytcjoohaagdihlaa.Lit
open Go.RowKit Go.Lt
set_option linter.unusedVariables false

/-- integers as values -/
def ivs (l : List Int) : List Value := l.map (Value.int .i64)
def bvs (l : List Bool) : List Value := l.map Value.bool
/-- whether a number is among some -/
def hasB (l : List Int) (x : Int) : Bool := decide (x ∈ l)
theorem has_iff {l : List Int} {x : Int} : hasB l x = true ↔ x ∈ l := by simp [hasB]
theorem has_no {l : List Int} {x : Int} (h : ∀ k : Nat, k < l.length → l[k]? ≠ some x) : hasB l x = false := by
  unfold hasB
  rw [decide_eq_false_iff_not]
  intro hm
  obtain ⟨k, hk, he⟩ := List.getElem_of_mem hm
  exact h k hk (by rw [List.getElem?_eq_getElem hk, he])
theorem has_yes {l : List Int} {x : Int} {k : Nat} (h : l[k]? = some x) : hasB l x = true := has_iff.2 (List.mem_of_getElem? h)

theorem ref_Has (A : Option Addr) (n c : Nat) (l : List Int) (x : Int) (w : World) (hn : n ≤ 1000000) (hr : Rd w A n (ivs l)) :
    Calls Try.prog 95 #[.slice A n c, .int .i64 x] w fun e w' => e = .returned (.bool (hasB l x)) ∧ w = w' := by
  go_enter Try.func95, Try.ntmps95
  go_wp2
  go_loop [5] (fun i => ∃ k : Nat, k ≤ n ∧ i = .int .i64 k ∧ Hid (∀ j : Nat, j < k → l[j]? ≠ some x)) (fun i => n - (intOf i).toNat)
  case atStart => exact ⟨0, Nat.zero_le _, rfl, fun j hj => absurd hj (Nat.not_lt_zero _)⟩
  case round =>
    obtain ⟨k, hk, rfl, hno⟩ := hrel
    by_cases hlt : k < n
    · obtain ⟨ad, y, rfl, hB, hy, hc⟩ := hr.get hlt
      by_cases he : y = x
      · have HY := hide (show true = hasB l x from (has_yes (he ▸ hy)).symm)
        have hb : (y == x) = true := by simp [he]
        clear he hy
        go_wp2
        go_ret
        exact ⟨ret_bool HY.out, rfl⟩
      · have hb : (y == x) = false := by simp [he]
        have HN := hide (show ∀ j : Nat, j < k + 1 → l[j]? ≠ some x from fun j hj => by
          by_cases h1 : j < k
          · exact hno.out j h1
          · have : j = k := by omega
            subst this
            rw [hy]
            intro h; injection h with h; exact he h)
        clear he hy
        go_wp2
        go_round
        case rel => exact ⟨k + 1, hlt, by go_num, HN.out⟩
        case measure => simp [intOf]; omega
    · have hkn : n = k := by omega
      subst hkn
      have HF := hide (show false = hasB l x from (has_no (fun j hj => hno.out j (by have := hr.len; omega))).symm)
      go_wp2
      go_ret
      exact ⟨ret_bool HF.out, rfl⟩

def IdxIs (o : Bool) (w : World) (e : Ending) (w' : World) : Prop := ∃ i : Int, e = .returned (.int .i64 i) ∧ decide (0 ≤ i) = o ∧ w = w'

theorem slices_Index (A : Option Addr) (n c : Nat) (l : List Int) (x : Int) (w : World) (hn : n ≤ 1000000) (hr : Rd w A n (ivs l)) :
    Calls Try.prog 152 #[.slice A n c, .int .i64 x] w (IdxIs (hasB l x) w) := by
  go_enter Try.func152, Try.ntmps152
  go_wp2
  go_loop [8] (fun i => ∃ k : Nat, k ≤ n ∧ i = .int .i64 k ∧ Hid (∀ j : Nat, j < k → l[j]? ≠ some x)) (fun i => n - (intOf i).toNat)
  case atStart => exact ⟨0, Nat.zero_le _, rfl, fun j hj => absurd hj (Nat.not_lt_zero _)⟩
  case round =>
    obtain ⟨k, hk, rfl, hno⟩ := hrel
    by_cases hlt : k < n
    · obtain ⟨ad, y, rfl, hB, hy, hc⟩ := hr.get hlt
      by_cases he : y = x
      · have HY := hide (show decide (0 ≤ (k : Int)) = hasB l x by rw [has_yes (he ▸ hy)]; simp)
        have hb : (x == y) = true := by simp [he]
        clear he hy
        go_wp2
        go_ret
        exact ⟨k, rfl, HY.out, rfl⟩
      · have hb : (x == y) = false := by simp; exact fun h => he h.symm
        have HN := hide (show ∀ j : Nat, j < k + 1 → l[j]? ≠ some x from fun j hj => by
          by_cases h1 : j < k
          · exact hno.out j h1
          · have : j = k := by omega
            subst this
            rw [hy]
            intro h; injection h with h; exact he h)
        clear he hy
        go_wp2
        go_round
        case rel => exact ⟨k + 1, hlt, by go_num, HN.out⟩
        case measure => simp [intOf]; omega
    · have hkn : n = k := by omega
      subst hkn
      have HF := hide (show decide (0 ≤ (-1 : Int)) = hasB l x by rw [has_no (fun j hj => hno.out j (by have := hr.len; omega))]; rfl)
      go_wp2
      go_ret
      exact ⟨-1, rfl, HF.out, rfl⟩

theorem slices_Contains (A : Option Addr) (n c : Nat) (l : List Int) (x : Int) (w : World) (hn : n ≤ 1000000) (hr : Rd w A n (ivs l)) :
    Calls Try.prog 129 #[.slice A n c, .int .i64 x] w fun e w' => e = .returned (.bool (hasB l x)) ∧ w = w' := by
  go_enter Try.func129, Try.ntmps129
  go_wp2_with (go_at_call 152; refine (slices_Index _ _ _ l _ _ hn hr).mono ?_; rintro e w' ⟨i, rfl, hi, rfl⟩)
  go_ret
  exact ⟨rfl, rfl⟩

theorem lit_Has (A : Option Addr) (n c : Nat) (l : List Int) (x : Int) (w : World) (hn : n ≤ 1000000) (hr : Rd w A n (ivs l)) :
    Calls Try.prog 92 #[.slice A n c, .int .i64 x] w fun e w' => e = .returned (.bool (hasB l x)) ∧ w = w' := by
  go_enter Try.func92, Try.ntmps92
  go_wp2_with (go_at_call 129; refine (slices_Contains _ _ _ l _ _ hn hr).mono ?_; rintro e w' ⟨rfl, rfl⟩)
  go_ret
  exact ⟨rfl, rfl⟩

/-- whether two lists are one -/
def sameI (a b : List Int) : Bool := decide (a = b)
def sameB (a b : List Bool) : Bool := decide (a = b)
theorem list_no {α : Type} {a b : List α} {k : Nat} {x y : α} (hx : a[k]? = some x) (hy : b[k]? = some y) (h : x ≠ y) : a ≠ b := by
  rintro rfl
  rw [hx] at hy
  injection hy with hy
  exact h hy
theorem list_yes {α : Type} {a b : List α} (hl : a.length = b.length) (h : ∀ k : Nat, k < a.length → a[k]? = b[k]?) : a = b := by
  apply List.ext_getElem? 
  intro k
  by_cases hk : k < a.length
  · exact h k hk
  · rw [List.getElem?_eq_none (by omega), List.getElem?_eq_none (by omega)]

theorem ref_Ints (A B : Option Addr) (n m c d : Nat) (a b : List Int) (w : World) (hn : n ≤ 1000000) (hra : Rd w A n (ivs a)) (hrb : Rd w B m (ivs b)) :
    Calls Try.prog 32 #[.slice A n c, .slice B m d] w fun e w' => e = .returned (.bool (sameI a b)) ∧ Dr w w' := by
  have hla := hra.len
  have hlb := hrb.len
  by_cases hm : n = m
  · subst hm
    have HL := hide (show a.length = b.length by omega)
    have hla' := hide hla
    clear hla hlb
    go_enter Try.func32, Try.ntmps32
    go_wp2
    go_loopw [5] (fun i wr => ∃ k : Nat, k ≤ n ∧ i = .int .i64 k ∧ Dr w wr ∧ Hid (∀ j : Nat, j < k → a[j]? = b[j]?)) (fun i _ => n - (intOf i).toNat)
    case atStart => exact ⟨0, Nat.zero_le _, rfl, Dr.refl _, fun j hj => absurd hj (Nat.not_lt_zero _)⟩
    case round =>
      obtain ⟨k, hk, rfl, hd, hno⟩ := hrel
      by_cases hlt : k < n
      · obtain ⟨ad, x, rfl, hB, hx, hc⟩ := (Dr.rd hd hra).get hlt
        obtain ⟨ad', y, rfl, hB', hy, hc'⟩ := (Dr.rd hd hrb).get hlt
        by_cases he : x = y
        · have hb : (x != y) = false := by simp [he]
          have HN := hide (show ∀ j : Nat, j < k + 1 → a[j]? = b[j]? from fun j hj => by
            by_cases h1 : j < k
            · exact hno.out j h1
            · have : j = k := by omega
              subst this
              rw [hx, hy, he])
          clear he hx hy
          go_wp2
          go_quiet (fail)
          go_wp2
          go_roundw
          case rel => exact ⟨k + 1, hlt, by go_num, hd.more _, HN.out⟩
          case measure => simp [intOf]; omega
        · have hb : (x != y) = true := by simp [he]
          have HF := hide (show false = sameI a b from (decide_eq_false (list_no hx hy he)).symm)
          clear he hx hy
          go_wp2
          go_quiet (fail)
          go_wp2
          go_ret
          exact ⟨ret_bool HF.out, hd.more _⟩
      · have hkn : n = k := by omega
        subst hkn
        have HT := hide (show true = sameI a b from (decide_eq_true (list_yes HL.out (fun j hj => hno.out j (by have := hla'.out; omega)))).symm)
        go_wp2
        go_ret
        exact ⟨ret_bool HT.out, hd⟩
  · have HF := hide (show false = sameI a b from (decide_eq_false (fun h => hm (by rw [← hla, ← hlb, h]))).symm)
    have hb : ((n : Int) != (m : Int)) = true := by simp; omega
    clear hla hlb
    go_enter Try.func32, Try.ntmps32
    go_wp2
    go_ret
    exact ⟨ret_bool HF.out, Dr.refl _⟩

theorem bits_Same (A B : Option Addr) (n m c d : Nat) (a b : List Bool) (w : World) (hn : n ≤ 1000000) (hra : Rd w A n (bvs a)) (hrb : Rd w B m (bvs b)) :
    Calls Try.prog 107 #[.slice A n c, .slice B m d] w fun e w' => e = .returned (.bool (sameB a b)) ∧ Dr w w' := by
  have hla := hra.len
  have hlb := hrb.len
  by_cases hm : n = m
  · subst hm
    have HL := hide (show a.length = b.length by omega)
    have hla' := hide hla
    clear hla hlb
    go_enter Try.func107, Try.ntmps107
    go_wp2
    go_loopw [5] (fun i wr => ∃ k : Nat, k ≤ n ∧ i = .int .i64 k ∧ Dr w wr ∧ Hid (∀ j : Nat, j < k → a[j]? = b[j]?)) (fun i _ => n - (intOf i).toNat)
    case atStart => exact ⟨0, Nat.zero_le _, rfl, Dr.refl _, fun j hj => absurd hj (Nat.not_lt_zero _)⟩
    case round =>
      obtain ⟨k, hk, rfl, hd, hno⟩ := hrel
      by_cases hlt : k < n
      · obtain ⟨ad, x, rfl, hB, hx, hc⟩ := (Dr.rd hd hra).get hlt
        obtain ⟨ad', y, rfl, hB', hy, hc'⟩ := (Dr.rd hd hrb).get hlt
        by_cases he : x = y
        · have HN := hide (show ∀ j : Nat, j < k + 1 → a[j]? = b[j]? from fun j hj => by
            by_cases h1 : j < k
            · exact hno.out j h1
            · have : j = k := by omega
              subst this
              rw [hx, hy, he])
          clear hx hy
          subst he
          cases x
          all_goals
            go_wp2
            go_quiet (fail)
            go_wp2
            go_roundw
            case rel => exact ⟨k + 1, hlt, by go_num, hd.more _, HN.out⟩
            case measure => simp [intOf]; omega
        · have HF := hide (show false = sameB a b from (decide_eq_false (list_no hx hy he)).symm)
          clear hx hy
          cases x <;> cases y <;> first | exact absurd rfl he | skip
          all_goals
            clear he
            go_wp2
            go_quiet (fail)
            go_wp2
            go_ret
            exact ⟨ret_bool HF.out, hd.more _⟩
      · have hkn : n = k := by omega
        subst hkn
        have HT := hide (show true = sameB a b from (decide_eq_true (list_yes HL.out (fun j hj => hno.out j (by have := hla'.out; omega)))).symm)
        go_wp2
        go_ret
        exact ⟨ret_bool HT.out, hd⟩
  · have HF := hide (show false = sameB a b from (decide_eq_false (fun h => hm (by rw [← hla, ← hlb, h]))).symm)
    have hb : ((n : Int) != (m : Int)) = true := by simp; omega
    clear hla hlb
    go_enter Try.func107, Try.ntmps107
    go_wp2
    go_ret
    exact ⟨ret_bool HF.out, Dr.refl _⟩
end Go.Proofs.Ytcjoohaagdihlaa.Lit
