/- A number in digits of hex. -/
import Derived.Test.YtcjoohaagdihlaaDoorHex1b
import Derived.Test.YtcjoohaagdihlaaDoorHexShelf
import Derived.Test.YtcjoohaagdihlaaDoorCubeText1
import Derived.Test.YtcjoohaagdihlaaDoorMem2
namespace Go.Proofs.YtcjoohaagdihlaaDoor.Hex
open Go.RowKit Go.Lt Go.Proofs.YtcjoohaagdihlaaDoor.Score Go.Proofs.YtcjoohaagdihlaaDoor.CubeText
set_option linter.unusedVariables false
set_option linter.unusedSimpArgs false

theorem tz16 (w : World) (h : w.cell? ⟨7, 15, none⟩ = some (.int .u8 4)) : Calls Tryd.prog 200 #[.int .u64 16] w fun e w' => e = .returned (.int .i64 4) ∧ w = w' := by
  have hk : IntKind.u64.wrap (bits .and .u64 16 (IntKind.u64.wrap (-16)) * 285870213051353865) / 288230376151711744 = 15 := by kernel_rfl
  go_enter Tryd.func200, Tryd.ntmps200
  go_wp2
  go_ret
  exact ⟨rfl, rfl⟩
theorem tzA (w : World) (h : w.cell? ⟨7, 15, none⟩ = some (.int .u8 4)) : Calls Tryd.prog 180 #[.int .u64 16] w fun e w' => e = .returned (.int .i64 4) ∧ w = w' := by
  go_enter Tryd.func180, Tryd.ntmps180
  go_wp2_with (go_at_call 200; refine (tz16 _ h).mono ?_; rintro e w' ⟨rfl, rfl⟩)
  go_ret
  exact ⟨rfl, rfl⟩
theorem pow16 (w : World) : Calls Tryd.prog 179 #[.int .i64 16] w fun e w' => e = .returned (.bool true) ∧ w = w' := by
  go_enter Tryd.func179, Tryd.ntmps179
  go_wp2
  go_ret
  exact ⟨rfl, rfl⟩
def dig (d : Nat) : Value := .int .u8 (d : Int)
theorem zeros65 : Tryd.zeroCells198 = (List.replicate 65 (Value.int .u8 0)).toArray := by rfl
theorem drop_set {α : Type} (l : List α) (p : Nat) (v : α) (h : p < l.length) : (l.set p v).drop p = v :: l.drop (p + 1) := by
  rw [List.drop_eq_getElem_cons (by simpa using h)]
  congr 1
  · simp
  · rw [List.drop_set_of_lt (by omega)]
/-- what is known between the rounds: so many digits stand at the end -/
structure Fx (w : World) (b j x : Nat) (W : World) : Prop where
  row : ∃ l : List Value, l.length = 65 ∧ Blk W w.heap.size 198 l.toArray ∧ l.drop (65 - j) = (hexL j b).map dig
  x : x = b / 16 ^ j
  bel : Below w.heap.size w W
theorem Fx.put {w W : World} {b j x p : Nat} (h : Fx w b j x W) (hj : j < 65) (hp : p = 64 - j) : Fx w b (j + 1) (x / 16) (W.setCell ⟨w.heap.size, p, none⟩ (.int .u8 (hexD (x % 16) : Nat))) ∧ (∃ z, W.cell? ⟨w.heap.size, p, none⟩ = some z) ∧ W.frozen? ⟨w.heap.size, p, none⟩ = false := by
  obtain ⟨l, h1, h2, h3⟩ := h.row
  subst hp
  refine ⟨⟨⟨l.set (64 - j) (.int .u8 (hexD (x % 16) : Nat)), by simpa using h1, ?_, ?_⟩, ?_, h.bel.setCell (p := ⟨w.heap.size, 64 - j, none⟩) (Nat.le_refl _) _⟩, ⟨l[64 - j]'(by omega), ?_⟩, h2.frozen _⟩
  · have := h2.set_ (64 - j) (.int .u8 (hexD (x % 16) : Nat))
    rwa [List.setIfInBounds_toArray] at this
  · rw [show 65 - (j + 1) = 64 - j by omega, drop_set _ _ _ (by omega), show 64 - j + 1 = 65 - j by omega, h3, hexL_cons, List.map_cons, h.x]; rfl
  · rw [h.x, Nat.div_div_eq_div_mul, Nat.pow_succ]
  · rw [h2.cell]; simp
theorem and15 (x : Nat) (h : x < 18446744073709551616) : bits .and .u64 (x : Int) 15 = ((x % 16 : Nat) : Int) := by
  have := bits_and_u64_nat x 15 h (by omega)
  rw [show ((15 : Nat) : Int) = 15 from rfl] at this
  rw [this]
  congr 1
  exact Nat.and_two_pow_sub_one_eq_mod x 4
theorem ix36 (r : Nat) (h : r < 16) (W : World) : (Instr.index 9 (.string ⟨#[48, 49, 50, 51, 52, 53, 54, 55, 56, 57, 97, 98, 99, 100, 101, 102, 103, 104, 105, 106, 107, 108, 109, 110, 111, 112, 113, 114, 115, 116, 117, 118, 119, 120, 121, 122]⟩) (.int .u64 r)).run Tryd.prog W = .ok (.int .u8 ((hexD r : Nat) : Int)) W := by
  rw [run_index_string W 9 _ .u64 r Tryd.underlying9, dif_pos ⟨by omega, by show (r : Int) < 36; omega⟩]
  rcases (show r = 0 ∨ r = 1 ∨ r = 2 ∨ r = 3 ∨ r = 4 ∨ r = 5 ∨ r = 6 ∨ r = 7 ∨ r = 8 ∨ r = 9 ∨ r = 10 ∨ r = 11 ∨ r = 12 ∨ r = 13 ∨ r = 14 ∨ r = 15 by omega) with rfl | rfl | rfl | rfl | rfl | rfl | rfl | rfl | rfl | rfl | rfl | rfl | rfl | rfl | rfl | rfl <;> rfl
theorem ix16 (r : Nat) (h : r < 16) (W : World) : (Instr.index 9 (.string ⟨#[48, 49, 50, 51, 52, 53, 54, 55, 56, 57, 97, 98, 99, 100, 101, 102]⟩) (.int .i64 r)).run Tryd.prog W = .ok (.int .u8 ((hexD r : Nat) : Int)) W := by
  rw [run_index_string W 9 _ .i64 r Tryd.underlying9, dif_pos ⟨by omega, by show (r : Int) < 16; omega⟩]
  rcases (show r = 0 ∨ r = 1 ∨ r = 2 ∨ r = 3 ∨ r = 4 ∨ r = 5 ∨ r = 6 ∨ r = 7 ∨ r = 8 ∨ r = 9 ∨ r = 10 ∨ r = 11 ∨ r = 12 ∨ r = 13 ∨ r = 14 ∨ r = 15 by omega) with rfl | rfl | rfl | rfl | rfl | rfl | rfl | rfl | rfl | rfl | rfl | rfl | rfl | rfl | rfl | rfl <;> rfl
theorem hexL_lt (k : Nat) : ∀ n, ∀ d ∈ hexL k n, d < 256 := by
  induction k with
  | zero => intro n d h; cases h
  | succ k ih =>
    intro n d h
    rw [hexL, List.mem_append] at h
    rcases h with h | h
    · exact ih _ d h
    · simp at h
      subst h
      unfold hexD
      have := Nat.mod_lt n (show 0 < 16 by omega)
      split <;> omega
/-- numbers as bytes -/
def byt (l : List Nat) : List UInt8 := l.map UInt8.ofNat
theorem Fx.text {w W : World} {b j x p : Nat} (h : Fx w b j x W) (hj : j ≤ 65) (hp : p = 65 - j) : (convert 152 9 (.slice (some ⟨w.heap.size, p, none⟩) (65 - p) (65 - p))).run Tryd.prog W = .ok (str (byt (hexL j b))) W := by
  obtain ⟨l, h1, h2, h3⟩ := h.row
  rw [← hp] at h3
  rw [run_convert_bytes_string W _ _ 5 _ _ _ Tryd.underlying152 Tryd.underlying5 Tryd.underlying9]
  have he : (hexL j b).map dig = ((hexL j b).map fun a => ((UInt8.ofNat a).toNat : Int)).map (Value.int .u8) := by
    rw [List.map_map]
    refine List.map_congr_left fun d hd => ?_
    have := hexL_lt j b d hd
    show Value.int .u8 (d : Int) = Value.int .u8 ((UInt8.ofNat d).toNat : Int)
    rw [UInt8.toNat_ofNat_of_lt' this]
  have hload : (loadCells ⟨w.heap.size, p, none⟩ (65 - p)).run Tryd.prog W = .ok (((hexL j b).map fun a => ((UInt8.ofNat a).toNat : Int)).map (Value.int .u8)).toArray W := by
    rw [← he, ← h3]
    have := run_loadCells_list (P := Tryd.prog) (w := W) ⟨w.heap.size, p, none⟩ (l.drop p) (fun k u hk => by
      rw [List.getElem?_drop] at hk
      have e : (⟨w.heap.size, p, none⟩ : Addr).add k = ⟨w.heap.size, p + k, none⟩ := by unfold Addr.add; split <;> simp_all
      rw [e, h2.cell]
      simpa using hk)
    rwa [show (l.drop p).length = 65 - p by simp [h1]] at this
  rw [run_bytesToString W ⟨w.heap.size, p, none⟩ (65 - p) (65 - p) _ hload, foldl_push]
  rfl
/-- a number's digits, as many as it wants -/
def FbIs (b : Nat) (w : World) (e : Ending) (w' : World) : Prop := ∃ m, 1 ≤ m ∧ m ≤ 16 ∧ b < 16 ^ m ∧ e = .returned (.tuple #[.slice none 0 0, str (byt (hexL m b))]) ∧ Below w.heap.size w w'
theorem slice65 (g p : Nat) (hp : p < 65) (W : World) : (Instr.sliceAt 198 (.pointer (some ⟨g, 0, none⟩)) (some (.int .i64 p)) none none).run Tryd.prog W = .ok (.slice (some ⟨g, p, none⟩) (65 - p) (65 - p)) W := by
  have hAL : Tryd.prog.arrayLen 198 = 65 := by kernel_rfl
  have hE : Tryd.prog.elem 198 = 5 := by kernel_rfl
  rw [run_sliceAt_array_l W 198 _ (by rw [hAL, hE]; exact Tryd.underlying198) .i64 p (by omega) (by rw [hAL]; omega), hAL, hE]
  have hs : (sizeOf 5).run Tryd.prog W = .ok 1 W := Tryd.sizeOf5 W
  rw [hs]
  have e : (⟨g, 0, none⟩ : Addr).add (p * 1) = ⟨g, p, none⟩ := by unfold Addr.add; split <;> simp_all
  simp only [Result.andThen_ok, slicedAt, Int.toNat_natCast]
  rw [if_neg (by omega), e]
set_option maxRecDepth 8000 in
set_option maxHeartbeats 1000000 in
theorem fb (b : Nat) (hb : b < 18446744073709551616) (w : World) (h : w.cell? ⟨7, 15, none⟩ = some (.int .u8 4)) :
    Calls Tryd.prog 155 #[.slice none 0 0, .int .u64 b, .int .i64 16, .bool false, .bool false] w (FbIs b w) := by
  have h1 : (w.alloc (.cells Tryd.zeroCells198 198)).cell? ⟨7, 15, none⟩ = some (.int .u8 4) := (World.cell?_alloc_lt _ _ _ (World.block_lt_of_cell? _ _ h)).trans h
  have hB := hide hb
  clear hb
  go_enter Tryd.func155, Tryd.ntmps155
  go_wp2_with (first | (go_at_call 179; refine (pow16 _).mono ?_; rintro e w' ⟨rfl, rfl⟩) | (go_at_call 180; refine (tzA _ h1).mono ?_; rintro e w' ⟨rfl, rfl⟩))
  go_loopw [1, 13] (fun u i wr => ∃ j x q : Nat, j ≤ 15 ∧ u = .int .u64 x ∧ i = .int .i64 q ∧ Hid (q = 65 - j) ∧ (j = 0 ∨ 1 ≤ x) ∧ Hid (Fx w b j x wr)) (fun _ i _ => (intOf i).toNat)
  case atStart =>
    refine ⟨0, b, 65, by omega, rfl, rfl, hide rfl, .inl rfl, hide ⟨⟨List.replicate 65 (.int .u8 0), by simp, ?_, by simp [hexL]⟩, by simp, (Below.refl _ _).alloc (Nat.le_refl _) _⟩⟩
    rw [← zeros65]; exact Blk.new _ _ _
  case round =>
    obtain ⟨j, x, q, hj, rfl, rfl, hq, hx1, hF⟩ := hrel
    have hxl : x < 18446744073709551616 := by have := hF.out.x; have := hB.out; have := Nat.div_le_self b (16 ^ j); omega
    have hA := and15 x hxl
    by_cases hlt : 16 ≤ x
    · have d1 : decide ((16 : Int) ≤ (x : Int)) = true := by rw [decide_eq_true_iff]; omega
      have d2 : (16 : Int) ≤ (x : Int) := by omega
      obtain ⟨p, hp⟩ : ∃ p : Nat, Hid (p = 64 - j) := ⟨_, rfl⟩
      have hqI : (q : Int) = (p : Int) + 1 := by have := hq.out; have := hp.out; omega
      have hp65 : (p : Int) < 65 := by have := hp.out; omega
      obtain ⟨hS, ⟨z, hz⟩, hfz⟩ := hF.out.put (p := p) (by omega) hp.out
      have hS := hide hS
      obtain ⟨r, hr⟩ : ∃ r, x % 16 = r := ⟨_, rfl⟩
      have hr16 : r < 16 := by omega
      rw [hr] at hS hA
      have hix := ix36 r hr16
      have hj14 : j ≤ 14 := by
        rcases Nat.lt_or_ge j 15 with h15 | h15
        · omega
        · have : j = 15 := by omega
          subst this
          have h2 := hF.out.x
          have h3 := hB.out
          have h4 : b / 16 ^ 15 < 16 := Nat.div_lt_of_lt_mul h3
          omega
      have hxd : (x : Int) / 16 = ((x / 16 : Nat) : Int) := by omega
      have hX1 : 1 ≤ x / 16 := by omega
      obtain ⟨y, hy⟩ : ∃ y, x / 16 = y := ⟨_, rfl⟩
      rw [hy] at hS hxd hX1
      clear hy
      go_wp2
      go_roundw
      case rel => exact ⟨j + 1, y, p, by omega, rfl, rfl, hide (by have := hp.out; omega), .inr hX1, hS⟩
      case measure => simp [intOf]; omega
    · have d1 : decide ((16 : Int) ≤ (x : Int)) = false := by rw [decide_eq_false_iff_not]; omega
      have d2 : ¬ (16 : Int) ≤ (x : Int) := by omega
      have d3 : ¬ 16 ≤ x := hlt
      obtain ⟨p, hp⟩ : ∃ p : Nat, Hid (p = 64 - j) := ⟨_, rfl⟩
      have hqI : (q : Int) = (p : Int) + 1 := by have := hq.out; have := hp.out; omega
      have hp65 : (p : Int) < 65 := by have := hp.out; omega
      obtain ⟨hS, ⟨z, hz⟩, hfz⟩ := hF.out.put (p := p) (by omega) hp.out
      rw [Nat.mod_eq_of_lt (by omega)] at hS
      have hS := hide hS
      have hix := ix36 x (by omega)
      have hsl := fun W => slice65 w.heap.size p (by omega) W
      clear hlt
      have hcv := hS.out.text (by omega) (show p = 65 - (j + 1) by have := hp.out; omega)
      have hbm : b < 16 ^ (j + 1) := by
        have h2 := hF.out.x
        rw [Nat.pow_succ, Nat.mul_comm]
        have h3 : b / 16 ^ j < 16 := by omega
        exact (Nat.div_lt_iff_lt_mul (Nat.pow_pos (by omega))).1 h3
      have hR := hide (show FbIs b w (.returned (.tuple #[.slice none 0 0, str (byt (hexL (j + 1) b))])) (wr.setCell ⟨w.heap.size, p, none⟩ (.int .u8 (hexD x : Nat))) from ⟨j + 1, by omega, by omega, hbm, rfl, hS.out.bel⟩)
      clear hbm
      go_wp2
      go_ret2
      exact hR.out
end Go.Proofs.YtcjoohaagdihlaaDoor.Hex
