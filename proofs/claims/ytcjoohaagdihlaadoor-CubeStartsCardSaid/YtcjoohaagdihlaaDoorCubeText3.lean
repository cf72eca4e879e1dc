/- Contracts on the values of signs: what is read of a text. -/
import Derived.Test.YtcjoohaagdihlaaDoorCubeText2
namespace Go.Proofs.YtcjoohaagdihlaaDoor.CubeText
open Go.RowKit Go.Lt Go.Proofs.YtcjoohaagdihlaaDoor.Lit
set_option linter.unusedVariables false
set_option linter.unusedSimpArgs false

/-- the bytes of a text -/
def bs (s : ByteArray) : List Int := s.data.toList.map fun b => ((b.toNat : Nat) : Int)
theorem bs_len (s : ByteArray) : (bs s).length = s.size := by unfold bs; rw [List.length_map, Array.length_toList]; rfl
theorem idx_str {P : Program} {t : TypeId} (h : P.underlying t = some .string) (s : ByteArray) (k : Nat) (x : Int) (hx : (bs s)[k]? = some x) (W : World) :
    (Instr.index t (.string s) (.int .i64 k)).run P W = .ok (.int .u8 x) W := by
  have hk : k < s.size := by have := (List.getElem?_eq_some_iff.1 hx).1; rwa [bs_len] at this
  rw [run_index_string W t s .i64 k h, dif_pos ⟨by omega, by omega⟩]
  unfold bs at hx
  rw [List.getElem?_map, Array.getElem?_toList] at hx
  have hk' : k < s.data.size := hk
  rw [Array.getElem?_eq_getElem hk'] at hx
  have hx := Option.some.inj hx
  rw [← hx]
  rfl
def valI (x : Int) : Int := if x = 48 then 0 else if x = 49 then 1 else if x = 120 then 2 else -1
/-- what stands after so many signs are tried -/
def vj (j : Nat) (x : Int) : Int := if x = 48 ∧ 0 < j then 0 else if x = 49 ∧ 1 < j then 1 else if x = 120 ∧ 2 < j then 2 else -1
def isSign (x : Int) : Bool := decide (x = 48 ∨ x = 49 ∨ x = 120)
def allSign (s : ByteArray) : Bool := (bs s).all isSign

def rowR (l : List Int) (k : Nat) (v : Int) : List Int := (l.take k).map valI ++ v :: List.replicate (l.length - (k + 1)) 0
def mixR (l : List Int) (k : Nat) : List Int := (l.take k).map valI ++ List.replicate (l.length - k) 0
theorem mixR_zero (l : List Int) : mixR l 0 = List.replicate l.length 0 := by simp [mixR]
theorem mixR_all (l : List Int) : mixR l l.length = l.map valI := by simp [mixR]
theorem mixR_row (l : List Int) (k : Nat) (h : k < l.length) : mixR l k = rowR l k 0 := by
  unfold mixR rowR
  rw [show l.length - k = (l.length - (k + 1)) + 1 by omega]; rfl
theorem rowR_get (l : List Int) (k : Nat) (v : Int) (h : k < l.length) : (rowR l k v)[k]? = some v := by
  unfold rowR
  rw [List.getElem?_append_right (by simp; omega)]
  have e : k - ((l.take k).map valI).length = 0 := by simp; omega
  rw [e]; rfl
theorem rowR_set (l : List Int) (k : Nat) (u v : Int) (h : k < l.length) : (rowR l k u).set k v = rowR l k v := by
  unfold rowR
  rw [List.set_append_right _ _ (by simp; omega)]
  have e : k - ((l.take k).map valI).length = 0 := by simp; omega
  rw [e]; rfl
theorem rowR_next (l : List Int) (k : Nat) (x : Int) (h : l[k]? = some x) : rowR l k (valI x) = mixR l (k + 1) := by
  unfold rowR mixR
  rw [List.take_add_one, h]
  simp

def TriRead (s : ByteArray) (w : World) (e : Ending) (w' : World) : Prop :=
  (allSign s = true ∧ ∃ v, e = .returned (.tuple #[v, .int .i64 0]) ∧ w'.ownsRow w.heap.size 3 1 v s.size (((bs s).map valI).map (Value.int .i64)) ∧ Below w.heap.size w w') ∨
  (allSign s = false ∧ e = .returned (.tuple #[.slice none 0 0, .int .i64 2]) ∧ Below w.heap.size w w')

set_option maxHeartbeats 1600000 in
theorem tri_Read (s : ByteArray) (w : World) (hn : s.size ≤ 1000000) (hs : Signs w) :
    Calls Tryd.prog 86 #[.string s] w fun e w' => TriRead s w e w' := by
  obtain ⟨i0, hi, hz0, hz1, hz2⟩ := info_parts info_int
  have hl := hide (bs_len s)
  have hnI : (s.size : Int) ≤ 1000000 := by omega
  have j0 : ∀ W : World, (Instr.index 151 (.agg #[.int .u8 48, .int .u8 49, .int .u8 120]) (.int .i64 0)).run Tryd.prog W = .ok (.int .u8 48) W := fun _ => by kernel_rfl
  have j1 : ∀ W : World, (Instr.index 151 (.agg #[.int .u8 48, .int .u8 49, .int .u8 120]) (.int .i64 1)).run Tryd.prog W = .ok (.int .u8 49) W := fun _ => by kernel_rfl
  have j2 : ∀ W : World, (Instr.index 151 (.agg #[.int .u8 48, .int .u8 49, .int .u8 120]) (.int .i64 2)).run Tryd.prog W = .ok (.int .u8 120) W := fun _ => by kernel_rfl
  go_enter Tryd.func86, Tryd.ntmps86
  go_wp2_with (at_make; refine wpList_make_full _ rfl _ _ _ rfl w.heap.size 3 i0 (.int .i64 0) 1 Tryd.underlying22 hi hz0 hz1 .i64 .i64 _ _ s.size rfl rfl rfl rfl (by rw [hz2]; omega) (by unfold maxLen; omega) (Nat.le_refl _) ?_; intro w1 hown1 hg1)
  have hb1 := (Below.refl w.heap.size w).grown hg1 (Nat.le_refl _) (by simp)
  go_loopw [13] (fun i wr => ∃ k : Nat, k ≤ s.size ∧ i = .int .i64 k ∧ ((bs s).take k).all isSign = true ∧ wr.ownsRow w.heap.size 3 1 (.slice (some ⟨w.heap.size, 0, none⟩) s.size s.size) s.size ((mixR (bs s) k).map (Value.int .i64)) ∧ Below w.heap.size w wr)
    (fun i _ => s.size - (intOf i).toNat)
  case atStart =>
    refine ⟨0, Nat.zero_le _, rfl, by simp, ?_, hb1⟩
    rw [mixR_zero, hl.out]
    have e : (madeCells (Value.cells (.int .i64 0)) (s.size * 1)).toList = (List.replicate s.size (0 : Int)).map (Value.int .i64) := by
      show (madeCells #[Value.int .i64 0] (s.size * 1)).toList = _
      rw [toList_madeCells_one, Nat.mul_one, List.map_replicate]
    rw [← e]
    exact hown1
  case round =>
    obtain ⟨k, hk, rfl, hall, hown, hb⟩ := hrel
    by_cases hlt : k < s.size
    · have hkI : (k : Int) < s.size := by omega
      obtain ⟨x, hx⟩ : ∃ x, (bs s)[k]? = some x := ⟨_, List.getElem?_eq_getElem (by rw [hl.out]; exact hlt)⟩
      have hidx := fun W => idx_str (P := Tryd.prog) Tryd.underlying9 s k x hx W
      have hlk : k < (bs s).length := by rw [hl.out]; exact hlt
      have hc2 : wr.cell? ⟨w.heap.size, k, none⟩ = some (.int .i64 0) := by
        rw [hown.cellAt k (by omega), List.getElem?_map, mixR_row _ _ hlk, rowR_get _ _ _ hlk]; rfl
      have hf2 := hown.frozenAt k
      have hown2 := (hown.stored k (.int .i64 (-1))).1
      rw [← List.map_set, mixR_row _ _ hlk, rowR_set _ _ _ _ hlk] at hown2
      have hb2 := hb.setCell (p := (⟨w.heap.size, k, none⟩ : Addr)) (Nat.le_refl _) (.int .i64 (-1))
      obtain ⟨_, s0, s1, s2⟩ := hs.below hb2
      clear hb
      have hv0 : vj 0 x = -1 := by unfold vj; simp
      by_cases h48 : x = 48
      · subst h48
        go_wp2
        go_loopw [20] (fun j wr2 => ∃ jj : Nat, jj ≤ 3 ∧ j = .int .i64 jj ∧ wr2.ownsRow w.heap.size 3 1 (.slice (some ⟨w.heap.size, 0, none⟩) s.size s.size) s.size ((rowR (bs s) k (vj jj 48)).map (Value.int .i64)) ∧ Below w.heap.size w wr2)
          (fun j _ => 3 - (intOf j).toNat)
        case atStart => exact ⟨0, by omega, rfl, by rw [hv0]; exact hown2, hb2⟩
        case round =>
          obtain ⟨jj, hjj, rfl, hown3, hb3⟩ := hrel
          have hc3 : wr.cell? ⟨w.heap.size, k, none⟩ = some (.int .i64 (vj jj 48)) := by
            rw [hown3.cellAt k (by omega), List.getElem?_map, rowR_get _ _ _ hlk]; rfl
          have hf3 := hown3.frozenAt k
          have hst := hide (fun v : Int => show (wr.setCell ⟨w.heap.size, k, none⟩ (.int .i64 v)).ownsRow w.heap.size 3 1 (.slice (some ⟨w.heap.size, 0, none⟩) s.size s.size) s.size ((rowR (bs s) k v).map (Value.int .i64)) from by have := (hown3.stored k (.int .i64 v)).1; rwa [← List.map_set, rowR_set _ _ _ _ hlk] at this)
          have hbs : ∀ v : Int, Below w.heap.size w (wr.setCell ⟨w.heap.size, k, none⟩ (.int .i64 v)) := fun v => hb3.setCell (Nat.le_refl _) _
          have hjj4 : jj = 0 ∨ jj = 1 ∨ jj = 2 ∨ jj = 3 := by omega
          rcases hjj4 with rfl | rfl | rfl | rfl
          rotate_left 3
          · have hc4 : wr.cell? ⟨w.heap.size, k, none⟩ = some (.int .i64 (valI 48)) := hc3
            rw [show valI 48 = 0 from rfl] at hc4
            clear hc3
            go_wp2
            go_roundw
            case rel => exact ⟨k + 1, hlt, by go_num, by rw [List.take_add_one, hx, List.all_append, hall]; rfl, by rw [← rowR_next _ _ _ hx]; exact hown3, hb3⟩
            case measure => simp [intOf]; omega
          all_goals
            go_wp2
            go_roundw
            case rel => first | exact ⟨1, by omega, rfl, by first | exact hst.out _ | exact hown3, by first | exact hbs _ | exact hb3⟩ | exact ⟨2, by omega, rfl, by first | exact hst.out _ | exact hown3, by first | exact hbs _ | exact hb3⟩ | exact ⟨3, by omega, rfl, by first | exact hst.out _ | exact hown3, by first | exact hbs _ | exact hb3⟩
            case measure => simp [intOf]
      by_cases h49 : x = 49
      · subst h49
        go_wp2
        go_loopw [20] (fun j wr2 => ∃ jj : Nat, jj ≤ 3 ∧ j = .int .i64 jj ∧ wr2.ownsRow w.heap.size 3 1 (.slice (some ⟨w.heap.size, 0, none⟩) s.size s.size) s.size ((rowR (bs s) k (vj jj 49)).map (Value.int .i64)) ∧ Below w.heap.size w wr2)
          (fun j _ => 3 - (intOf j).toNat)
        case atStart => exact ⟨0, by omega, rfl, by rw [hv0]; exact hown2, hb2⟩
        case round =>
          obtain ⟨jj, hjj, rfl, hown3, hb3⟩ := hrel
          have hc3 : wr.cell? ⟨w.heap.size, k, none⟩ = some (.int .i64 (vj jj 49)) := by
            rw [hown3.cellAt k (by omega), List.getElem?_map, rowR_get _ _ _ hlk]; rfl
          have hf3 := hown3.frozenAt k
          have hst := hide (fun v : Int => show (wr.setCell ⟨w.heap.size, k, none⟩ (.int .i64 v)).ownsRow w.heap.size 3 1 (.slice (some ⟨w.heap.size, 0, none⟩) s.size s.size) s.size ((rowR (bs s) k v).map (Value.int .i64)) from by have := (hown3.stored k (.int .i64 v)).1; rwa [← List.map_set, rowR_set _ _ _ _ hlk] at this)
          have hbs : ∀ v : Int, Below w.heap.size w (wr.setCell ⟨w.heap.size, k, none⟩ (.int .i64 v)) := fun v => hb3.setCell (Nat.le_refl _) _
          have hjj4 : jj = 0 ∨ jj = 1 ∨ jj = 2 ∨ jj = 3 := by omega
          rcases hjj4 with rfl | rfl | rfl | rfl
          rotate_left 3
          · have hc4 : wr.cell? ⟨w.heap.size, k, none⟩ = some (.int .i64 (valI 49)) := hc3
            rw [show valI 49 = 1 from rfl] at hc4
            clear hc3
            go_wp2
            go_roundw
            case rel => exact ⟨k + 1, hlt, by go_num, by rw [List.take_add_one, hx, List.all_append, hall]; rfl, by rw [← rowR_next _ _ _ hx]; exact hown3, hb3⟩
            case measure => simp [intOf]; omega
          all_goals
            go_wp2
            go_roundw
            case rel => first | exact ⟨1, by omega, rfl, by first | exact hst.out _ | exact hown3, by first | exact hbs _ | exact hb3⟩ | exact ⟨2, by omega, rfl, by first | exact hst.out _ | exact hown3, by first | exact hbs _ | exact hb3⟩ | exact ⟨3, by omega, rfl, by first | exact hst.out _ | exact hown3, by first | exact hbs _ | exact hb3⟩
            case measure => simp [intOf]
      by_cases h120 : x = 120
      · subst h120
        go_wp2
        go_loopw [20] (fun j wr2 => ∃ jj : Nat, jj ≤ 3 ∧ j = .int .i64 jj ∧ wr2.ownsRow w.heap.size 3 1 (.slice (some ⟨w.heap.size, 0, none⟩) s.size s.size) s.size ((rowR (bs s) k (vj jj 120)).map (Value.int .i64)) ∧ Below w.heap.size w wr2)
          (fun j _ => 3 - (intOf j).toNat)
        case atStart => exact ⟨0, by omega, rfl, by rw [hv0]; exact hown2, hb2⟩
        case round =>
          obtain ⟨jj, hjj, rfl, hown3, hb3⟩ := hrel
          have hc3 : wr.cell? ⟨w.heap.size, k, none⟩ = some (.int .i64 (vj jj 120)) := by
            rw [hown3.cellAt k (by omega), List.getElem?_map, rowR_get _ _ _ hlk]; rfl
          have hf3 := hown3.frozenAt k
          have hst := hide (fun v : Int => show (wr.setCell ⟨w.heap.size, k, none⟩ (.int .i64 v)).ownsRow w.heap.size 3 1 (.slice (some ⟨w.heap.size, 0, none⟩) s.size s.size) s.size ((rowR (bs s) k v).map (Value.int .i64)) from by have := (hown3.stored k (.int .i64 v)).1; rwa [← List.map_set, rowR_set _ _ _ _ hlk] at this)
          have hbs : ∀ v : Int, Below w.heap.size w (wr.setCell ⟨w.heap.size, k, none⟩ (.int .i64 v)) := fun v => hb3.setCell (Nat.le_refl _) _
          have hjj4 : jj = 0 ∨ jj = 1 ∨ jj = 2 ∨ jj = 3 := by omega
          rcases hjj4 with rfl | rfl | rfl | rfl
          rotate_left 3
          · have hc4 : wr.cell? ⟨w.heap.size, k, none⟩ = some (.int .i64 (valI 120)) := hc3
            rw [show valI 120 = 2 from rfl] at hc4
            clear hc3
            go_wp2
            go_roundw
            case rel => exact ⟨k + 1, hlt, by go_num, by rw [List.take_add_one, hx, List.all_append, hall]; rfl, by rw [← rowR_next _ _ _ hx]; exact hown3, hb3⟩
            case measure => simp [intOf]; omega
          all_goals
            go_wp2
            go_roundw
            case rel => first | exact ⟨1, by omega, rfl, by first | exact hst.out _ | exact hown3, by first | exact hbs _ | exact hb3⟩ | exact ⟨2, by omega, rfl, by first | exact hst.out _ | exact hown3, by first | exact hbs _ | exact hb3⟩ | exact ⟨3, by omega, rfl, by first | exact hst.out _ | exact hown3, by first | exact hbs _ | exact hb3⟩
            case measure => simp [intOf]
      have hsg := hide (show isSign x = false by unfold isSign; rw [decide_eq_false_iff_not]; omega)
      have hvno : ∀ j, vj j x = -1 := fun j => by unfold vj; simp [h48, h49, h120]
      have e48 : (x == 48) = false := by simp [h48]
      have e49 : (x == 49) = false := by simp [h49]
      have e120 : (x == 120) = false := by simp [h120]
      clear h48 h49 h120
      go_wp2
      go_loopw [20] (fun j wr2 => ∃ jj : Nat, jj ≤ 3 ∧ j = .int .i64 jj ∧ wr2.ownsRow w.heap.size 3 1 (.slice (some ⟨w.heap.size, 0, none⟩) s.size s.size) s.size ((rowR (bs s) k (vj jj x)).map (Value.int .i64)) ∧ Below w.heap.size w wr2)
        (fun j _ => 3 - (intOf j).toNat)
      case atStart => exact ⟨0, by omega, rfl, by rw [hv0]; exact hown2, hb2⟩
      case round =>
        obtain ⟨jj, hjj, rfl, hown3, hb3⟩ := hrel
        have hc3 : wr.cell? ⟨w.heap.size, k, none⟩ = some (.int .i64 (vj jj x)) := by
          rw [hown3.cellAt k (by omega), List.getElem?_map, rowR_get _ _ _ hlk]; rfl
        have hf3 := hown3.frozenAt k
        have hst := hide (fun v : Int => show (wr.setCell ⟨w.heap.size, k, none⟩ (.int .i64 v)).ownsRow w.heap.size 3 1 (.slice (some ⟨w.heap.size, 0, none⟩) s.size s.size) s.size ((rowR (bs s) k v).map (Value.int .i64)) from by have := (hown3.stored k (.int .i64 v)).1; rwa [← List.map_set, rowR_set _ _ _ _ hlk] at this)
        have hbs : ∀ v : Int, Below w.heap.size w (wr.setCell ⟨w.heap.size, k, none⟩ (.int .i64 v)) := fun v => hb3.setCell (Nat.le_refl _) _
        have hjj4 : jj = 0 ∨ jj = 1 ∨ jj = 2 ∨ jj = 3 := by omega
        rcases hjj4 with rfl | rfl | rfl | rfl
        rotate_left 3
        · rw [hvno] at hc3
          go_wp2
          go_ret2
          refine .inr ⟨?_, rfl, hb3⟩
          unfold allSign
          rw [List.all_eq_false]
          exact ⟨x, List.mem_of_getElem? hx, by rw [hsg.out]; simp⟩
        all_goals
          go_wp2
          go_roundw
          case rel => first | exact ⟨1, by omega, rfl, by first | exact hst.out _ | (rw [hvno] at hown3 ⊢; exact hown3), by first | exact hbs _ | exact hb3⟩ | exact ⟨2, by omega, rfl, by first | exact hst.out _ | (rw [hvno] at hown3 ⊢; exact hown3), by first | exact hbs _ | exact hb3⟩ | exact ⟨3, by omega, rfl, by first | exact hst.out _ | (rw [hvno] at hown3 ⊢; exact hown3), by first | exact hbs _ | exact hb3⟩
          case measure => simp [intOf]
    · have hkn : s.size = k := by omega
      have hkk : True → decide ((k : Int) < s.size) = false := fun _ => by rw [decide_eq_false_iff_not]; omega
      have hall2 := hide (show allSign s = true by unfold allSign; rw [← hall, ← hkn, ← hl.out, List.take_length])
      have hown2 := hide (show wr.ownsRow w.heap.size 3 1 (.slice (some ⟨w.heap.size, 0, none⟩) s.size s.size) s.size (((bs s).map valI).map (Value.int .i64)) by rw [← mixR_all, hl.out]; rw [← hkn] at hown; exact hown)
      clear hown hall hlt
      go_wp2
      go_ret2
      exact .inl ⟨hall2.out, _, rfl, hown2.out, hb⟩
end Go.Proofs.YtcjoohaagdihlaaDoor.CubeText
