/- Contracts on the signs of values: the text of values, the program's and the document's. -/
import Derived.Test.YtcjoohaagdihlaaDoorLit2
namespace Go.Proofs.YtcjoohaagdihlaaDoor.CubeText
open Go.RowKit Go.Lt Go.Proofs.YtcjoohaagdihlaaDoor.Lit
set_option linter.unusedVariables false

/-- the table of signs lies as the text of the program lays it -/
def Signs (w : World) : Prop := 0 < w.heap.size ∧ w.cell? ⟨0, 0, none⟩ = some (.int .u8 48) ∧ w.cell? ⟨0, 1, none⟩ = some (.int .u8 49) ∧ w.cell? ⟨0, 2, none⟩ = some (.int .u8 120)
theorem Signs.below {w w' : World} (h : Signs w) (hb : Below w.heap.size w w') : Signs w' :=
  ⟨Nat.lt_of_lt_of_le h.1 hb.size, (hb.cell h.1).trans h.2.1, (hb.cell h.1).trans h.2.2.1, (hb.cell h.1).trans h.2.2.2⟩
theorem Signs.keep {w w' : World} (h : Signs w) {B : Nat} (hb : Below B w w') (hB : w.heap.size ≤ B) : Signs w' := h.below (hb.mono hB)

def toldB (a : Int) : Bool := decide (a = 0 ∨ a = 1)
theorem told_no {a : Int} (h0 : a ≠ 0) (h1 : a ≠ 1) : toldB a = false := by unfold toldB; rw [decide_eq_false_iff_not]; omega
theorem tri_told (a : Int) (w : World) : Calls Tryd.prog 130 #[.int .i64 a] w fun e w' => e = .returned (.bool (toldB a)) ∧ w = w' := by
  by_cases h0 : a = 0
  · have hb : (a == 0) = true := by simp [h0]
    have HT := hide (show true = toldB a by simp [toldB, h0])
    clear h0
    go_enter Tryd.func130, Tryd.ntmps130
    go_wp2
    go_ret
    exact ⟨ret_bool HT.out, rfl⟩
  · have hb : (a == 0) = false := by simp [h0]
    have HT := hide (show (a == 1) = toldB a by unfold toldB; rw [Bool.eq_iff_iff]; simp [h0])
    clear h0
    go_enter Tryd.func130, Tryd.ntmps130
    go_wp2
    go_ret
    exact ⟨ret_bool HT.out, rfl⟩

/-- the sign of a value -/
def sgn (a : Int) : UInt8 := if a = 0 then 48 else if a = 1 then 49 else 120
def sgnI (a : Int) : Int := if a = 0 then 48 else if a = 1 then 49 else 120
theorem sgn_int (a : Int) : ((sgn a).toNat : Int) = sgnI a := by
  unfold sgn sgnI
  split
  · rfl
  · split <;> rfl
def str (l : List UInt8) : Value := .string ⟨l.toArray⟩
theorem foldl_data {α : Type} (l : List α) (f : α → UInt8) (acc : ByteArray) :
    ((l.map fun a => ((f a).toNat : Int)).foldl (fun (r : ByteArray) n => r.push (UInt8.ofNat n.toNat)) acc).data.toList = acc.data.toList ++ l.map f := by
  induction l generalizing acc with
  | nil => simp
  | cons a l ih =>
    simp only [List.map_cons, List.foldl_cons]
    rw [ih]
    have : (acc.push (UInt8.ofNat (((f a).toNat : Int)).toNat)).data.toList = acc.data.toList ++ [f a] := by
      rw [Int.toNat_natCast, UInt8.ofNat_toNat]
      show (acc.data.push (f a)).toList = _
      rw [Array.toList_push]
    rw [this, List.append_assoc]
    rfl
theorem foldl_push {α : Type} (l : List α) (f : α → UInt8) : (l.map fun a => ((f a).toNat : Int)).foldl (fun (r : ByteArray) n => r.push (UInt8.ofNat n.toNat)) ByteArray.empty = ⟨(l.map f).toArray⟩ := by
  have h := foldl_data l f ByteArray.empty
  generalize (l.map fun a => ((f a).toNat : Int)).foldl (fun (r : ByteArray) n => r.push (UInt8.ofNat n.toNat)) ByteArray.empty = x at *
  cases x with
  | mk d =>
    congr 1
    apply Array.ext'
    simpa using h
theorem info_u8 : (Tryd.prog.info? 5).map (fun i => (i.zero, i.size, i.bytes)) = some (some (.int .u8 0), 1, 1) := by kernel_rfl
theorem info_int : (Tryd.prog.info? 3).map (fun i => (i.zero, i.size, i.bytes)) = some (some (.int .i64 0), 1, 8) := by kernel_rfl

def mixS (l : List Int) (k : Nat) : List Int := (l.take k).map sgnI ++ List.replicate (l.length - k) 0
theorem mixS_zero (l : List Int) : mixS l 0 = List.replicate l.length 0 := by simp [mixS]
theorem mixS_all (l : List Int) : mixS l l.length = l.map sgnI := by simp [mixS]
theorem mixS_get (l : List Int) (k : Nat) (h : k < l.length) : (mixS l k)[k]? = some 0 := by
  unfold mixS
  rw [List.getElem?_append_right (by simp; omega)]
  have e : k - ((l.take k).map sgnI).length = 0 := by simp; omega
  rw [e, List.getElem?_replicate, if_pos (by omega)]
theorem mixS_set (l : List Int) (k : Nat) (x : Int) (h : l[k]? = some x) : (mixS l k).set k (sgnI x) = mixS l (k + 1) := by
  have hk : k < l.length := (List.getElem?_eq_some_iff.1 h).1
  unfold mixS
  rw [List.set_append_right _ _ (by simp; omega), List.take_add_one, h]
  have : List.replicate (l.length - k) (0 : Int) = 0 :: List.replicate (l.length - (k + 1)) 0 := by
    rw [show l.length - k = (l.length - (k + 1)) + 1 by omega]; rfl
  rw [this]
  simp [Nat.min_eq_left (Nat.le_of_lt hk)]

set_option maxHeartbeats 400000 in
theorem tri_Text (A : Option Addr) (n c : Nat) (l : List Int) (w : World) (hn : n ≤ 1000000) (hs : Signs w) (hr : Rd w A n (ivs l)) :
    Calls Tryd.prog 87 #[.slice A n c] w fun e w' => e = .returned (str (l.map sgn)) ∧ Below w.heap.size w w' := by
  obtain ⟨i0, hi, hz0, hz1, hz2⟩ := info_parts info_u8
  have hl := hide hr.len
  go_enter Tryd.func87, Tryd.ntmps87
  go_wp2_with (at_make; refine wpList_make_full _ rfl _ _ _ rfl w.heap.size 5 i0 (.int .u8 0) 1 Tryd.underlying152 hi hz0 hz1 .i64 .i64 _ _ n rfl rfl rfl rfl (by rw [hz2]; omega) (by unfold maxLen; omega) (Nat.le_refl _) ?_; intro w1 hown1 hg1)
  have hb1 := (Below.refl w.heap.size w).grown hg1 (Nat.le_refl _) (by simp)
  go_loopw [11] (fun i wr => ∃ k : Nat, k ≤ n ∧ i = .int .i64 k ∧ wr.ownsRow w.heap.size 5 1 (.slice (some ⟨w.heap.size, 0, none⟩) n n) n ((mixS l k).map (Value.int .u8)) ∧ Below w.heap.size w wr)
    (fun i _ => n - (intOf i).toNat)
  case atStart =>
    refine ⟨0, Nat.zero_le _, rfl, ?_, hb1⟩
    rw [mixS_zero, hl.out]
    have e : (madeCells (Value.cells (.int .u8 0)) (n * 1)).toList = (List.replicate n (0 : Int)).map (Value.int .u8) := by
      show (madeCells #[Value.int .u8 0] (n * 1)).toList = _
      rw [toList_madeCells_one, Nat.mul_one, List.map_replicate]
    rw [← e]
    exact hown1
  case round =>
    obtain ⟨k, hk, rfl, hown, hb⟩ := hrel
    by_cases hlt : k < n
    · obtain ⟨ad, x, rfl, hB, hx, hc⟩ := (hr.below hb (Nat.le_refl _)).get hlt
      obtain ⟨_, s0, s1, s2⟩ := hs.below hb
      have hc2 : wr.cell? ⟨w.heap.size, k, none⟩ = some (.int .u8 0) := by
        rw [hown.cellAt k (by omega), List.getElem?_map, mixS_get l k (by have := hl.out; omega)]; rfl
      have hf2 := hown.frozenAt k
      have HS := hide (mixS_set l k x hx)
      clear hx
      by_cases h0 : x = 0
      · subst h0
        have ht : toldB 0 = true := rfl
        go_wp2_with (go_at_call 130; refine (tri_told _ _).mono ?_; rintro e w' ⟨rfl, rfl⟩)
        go_roundw
        case rel =>
          refine ⟨k + 1, hlt, by go_num, ?_, hb.setCell (Nat.le_refl _) _⟩
          have := (hown.stored k (.int .u8 48)).1
          rw [← List.map_set, show (48 : Int) = sgnI 0 from rfl, HS.out] at this
          exact this
        case measure => simp [intOf]; omega
      · by_cases h1 : x = 1
        · subst h1
          have ht : toldB 1 = true := rfl
          go_wp2_with (go_at_call 130; refine (tri_told _ _).mono ?_; rintro e w' ⟨rfl, rfl⟩)
          go_roundw
          case rel =>
            refine ⟨k + 1, hlt, by go_num, ?_, hb.setCell (Nat.le_refl _) _⟩
            have := (hown.stored k (.int .u8 49)).1
            rw [← List.map_set, show (49 : Int) = sgnI 1 from rfl, HS.out] at this
            exact this
          case measure => simp [intOf]; omega
        · have ht : toldB x = false := told_no h0 h1
          have hsx := hide (show (120 : Int) = sgnI x by unfold sgnI; rw [if_neg h0, if_neg h1])
          clear h0 h1
          go_wp2_with (go_at_call 130; refine (tri_told _ _).mono ?_; rintro e w' ⟨rfl, rfl⟩)
          go_roundw
          case rel =>
            refine ⟨k + 1, hlt, by go_num, ?_, hb.setCell (Nat.le_refl _) _⟩
            have := (hown.stored k (.int .u8 120)).1
            have HS' := HS.out
            rw [← hsx.out] at HS'
            rw [← List.map_set, HS'] at this
            exact this
          case measure => simp [intOf]; omega
    · have hkn : n = k := by omega
      subst hkn
      have hcv : ∀ nn : Nat, True → (convert 152 9 (.slice (some ⟨w.heap.size, 0, none⟩) n nn)).run Tryd.prog wr = .ok (str (l.map sgn)) wr := by
        intro nn _
        rw [run_convert_bytes_string wr _ _ 5 _ _ _ Tryd.underlying152 Tryd.underlying5 Tryd.underlying9]
        have hload : (loadCells ⟨w.heap.size, 0, none⟩ n).run Tryd.prog wr = .ok ((l.map fun a => ((sgn a).toNat : Int)).map (Value.int .u8)).toArray wr := by
          have he : (l.map fun a => ((sgn a).toNat : Int)) = mixS l n := by
            rw [← hl.out, mixS_all]; exact List.map_congr_left fun a _ => sgn_int a
          rw [he]
          have := run_loadCells_list (P := Tryd.prog) (w := wr) ⟨w.heap.size, 0, none⟩ ((mixS l n).map (Value.int .u8)) (hown.cells (g := w.heap.size) rfl)
          rwa [show ((mixS l n).map (Value.int .u8)).length = n by have := hown.1; omega] at this
        rw [run_bytesToString wr ⟨w.heap.size, 0, none⟩ n nn _ hload, foldl_push]
        rfl
      unfold str at hcv
      go_wp2
      go_ret
      exact ⟨rfl, hb⟩
end Go.Proofs.YtcjoohaagdihlaaDoor.CubeText
