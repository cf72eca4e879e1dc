/- A contract on a score's digits read, the program's. -/
import Derived.Test.YtcjoohaagdihlaaDoorHex3
namespace Go.Proofs.YtcjoohaagdihlaaDoor.Hex
open Go.RowKit Go.Lt Go.Proofs.YtcjoohaagdihlaaDoor.Score Go.Proofs.YtcjoohaagdihlaaDoor.CubeText
set_option linter.unusedVariables false
set_option linter.unusedSimpArgs false

/-- a text's bytes as numbers -/
def nb (s : ByteArray) : List Nat := s.data.toList.map UInt8.toNat
theorem nb_len (s : ByteArray) : (nb s).length = s.size := by unfold nb; rw [List.length_map, Array.length_toList]; rfl
theorem nb_lt (s : ByteArray) {k c : Nat} (h : (nb s)[k]? = some c) : c < 256 := by
  unfold nb at h
  rw [List.getElem?_map] at h
  cases hx : s.data.toList[k]? with
  | none => rw [hx] at h; cases h
  | some x => rw [hx] at h; injection h with h; subst h; exact x.toNat_lt
set_option maxRecDepth 100000 in
theorem ix_byte (s : ByteArray) (k c : Nat) (hx : (nb s)[k]? = some c) (W : World) :
    (Instr.index 9 (.string s) (.int .i64 k)).run Tryd.prog W = .ok (.int .u8 (c : Int)) W := by
  unfold nb at hx
  rw [List.getElem?_map] at hx
  cases hy : s.data.toList[k]? with
  | none => rw [hy] at hx; cases hx
  | some x =>
    rw [hy] at hx
    injection hx with hx
    subst hx
    have hk : k < s.size := by have := (List.getElem?_eq_some_iff.1 hy).1; rwa [Array.length_toList] at this
    rw [run_index_string W 9 s .i64 k Tryd.underlying9, dif_pos ⟨by omega, by omega⟩]
    rw [Array.getElem?_toList] at hy
    have hk' : k < s.data.size := hk
    rw [Array.getElem?_eq_getElem hk'] at hy
    have hy := Option.some.inj hy
    rw [← hy]
    rfl
def dg16 : List UInt8 := [48, 49, 50, 51, 52, 53, 54, 55, 56, 57, 97, 98, 99, 100, 101, 102]
theorem ixb_all : ∀ n : Fin 256, Lib.indexByte dg16 (UInt8.ofNat n.val) = (match hexV n.val with | some d => ((d : Nat) : Int) | none => -1) := by decide +kernel
theorem ixb (c : Nat) (h : c < 256) : Lib.indexByte dg16 ((c : Int).toNat.toUInt8) = (match hexV c with | some d => ((d : Nat) : Int) | none => -1) := ixb_all ⟨c, h⟩
theorem ib_is (c : Nat) (v : Int) (w : World) (h : Lib.indexByte dg16 ((c : Int).toNat.toUInt8) = v) : Calls Tryd.prog 101 #[.string ⟨#[48, 49, 50, 51, 52, 53, 54, 55, 56, 57, 97, 98, 99, 100, 101, 102]⟩, .int .u8 (c : Int)] w fun e w' => e = .returned (.int .i64 v) ∧ w = w' :=
  (Tryd.strings_IndexByte ⟨#[48, 49, 50, 51, 52, 53, 54, 55, 56, 57, 97, 98, 99, 100, 101, 102]⟩ c w).mono fun e w' ⟨h1, h2⟩ => ⟨by rw [h1]; exact congrArg _ (congrArg _ h), h2.symm⟩
theorem hexTo_none (a b : List Nat) (h : hexTo a = none) : hexTo (a ++ b) = none := by
  unfold hexTo at h ⊢
  rw [List.foldl_append, h]
  induction b with
  | nil => rfl
  | cons x b ih => simpa using ih
theorem or16 (x d : Nat) (hd : d < 16) (h : 16 * x + d < 18446744073709551616) : bits .or .u64 ((x : Int) * 16) (d : Int) = ((16 * x + d : Nat) : Int) := by
  have := bits_or_u64_nat (x * 16) d (by omega) (by omega)
  rw [show ((x * 16 : Nat) : Int) = (x : Int) * 16 by omega] at this
  rw [this]
  congr 1
  have e := Nat.shiftLeft_add_eq_or_of_lt (b := d) (i := 4) hd x
  rw [Nat.shiftLeft_eq, show (2 : Nat) ^ 4 = 16 from rfl] at e
  omega
theorem take_next {l : List Nat} {k c : Nat} (h : l[k]? = some c) : l.take (k + 1) = l.take k ++ [c] := by rw [List.take_add_one, h]; rfl
theorem readX_bad {l : List Nat} {k c x : Nat} (h : l[k]? = some c) (hx : hexTo (l.take k) = some x) (hv : hexV c = none) : readX l = none := by
  unfold readX
  split
  · have h1 : hexTo (l.take (k + 1)) = none := by rw [take_next h, hexTo_snoc, hx, hv]; rfl
    have h2 : hexTo l = none := by
      have := hexTo_none (l.take (k + 1)) (l.drop (k + 1)) h1
      rwa [List.take_append_drop] at this
    rw [h2]; rfl
  · rfl
theorem readX_len {l : List Nat} (h : l.length ≠ 16) : readX l = none := by unfold readX; rw [if_neg h]
theorem readX_end {l : List Nat} {x : Nat} (hl : l.length = 16) (h : hexTo (l.take 16) = some x) : readX l = if plainB x = x then some x else none := by
  unfold readX
  rw [if_pos hl]
  rw [List.take_of_length_le (by omega)] at h
  rw [h]; rfl
theorem next_lt {k x d : Nat} (hk : k < 16) (hx : x < 16 ^ k) (hd : d < 16) : 16 * x + d < 16 ^ (k + 1) ∧ 16 * x + d < 18446744073709551616 := by
  have h1 : 16 * x + d < 16 ^ (k + 1) := by rw [Nat.pow_succ]; omega
  refine ⟨h1, ?_⟩
  have h2 : 16 ^ (k + 1) ≤ 16 ^ 16 := Nat.pow_le_pow_right (by omega) (by omega)
  have h3 : (16 : Nat) ^ 16 = 18446744073709551616 := by decide
  omega
/-- what a text is as a score: its bits, or an error -/
def ReadIs (s : ByteArray) (e : Ending) : Prop := e = .returned (.tuple #[.float .f64 ((readX (nb s)).getD 0), .int .i64 (if (readX (nb s)).isSome then 0 else 2)])
theorem readIs_no {s : ByteArray} (h : readX (nb s) = none) : ReadIs s (.returned (.tuple #[.float .f64 0, .int .i64 2])) := by unfold ReadIs; rw [h]; rfl
theorem readIs_yes {s : ByteArray} {x : Nat} (h : readX (nb s) = some x) : ReadIs s (.returned (.tuple #[.float .f64 x, .int .i64 0])) := by unfold ReadIs; rw [h]; rfl
set_option maxRecDepth 8000 in
set_option maxHeartbeats 1000000 in
theorem score_Read (s : ByteArray) (w : World) (hs : s.size ≤ 1000) : Calls Tryd.prog 43 #[.string s] w fun e w' => ReadIs s e ∧ w = w' := by
  by_cases h16 : s.size = 16
  case neg =>
    have d1 : ((s.size : Int) != 16) = true := by simp; omega
    have hR := hide (readIs_no (readX_len (l := nb s) (by rw [nb_len]; exact h16)))
    go_enter Tryd.func43, Tryd.ntmps43
    go_wp2
    go_ret2
    exact ⟨hR.out, rfl⟩
  have hI : (s.size : Int) = 16 := by omega
  clear hs
  go_enter Tryd.func43, Tryd.ntmps43
  go_wp2
  go_loop [4, 13] (fun b i => ∃ k x : Nat, k ≤ 16 ∧ i = .int .i64 k ∧ b = .int .u64 x ∧ Hid (hexTo ((nb s).take k) = some x) ∧ Hid (x < 16 ^ k)) (fun _ i => 16 - (intOf i).toNat)
  case atStart => exact ⟨0, 0, Nat.zero_le _, rfl, rfl, hide rfl, hide (by simp)⟩
  case round =>
    obtain ⟨k, x, hk, rfl, rfl, hx, hxl⟩ := hrel
    have hkI : (k : Int) ≤ 16 := by omega
    by_cases hlt : k < 16
    · have hltI : (k : Int) < 16 := by omega
      obtain ⟨c, hc⟩ : ∃ c, (nb s)[k]? = some c := ⟨_, List.getElem?_eq_getElem (by rw [nb_len]; omega)⟩
      have hix := ix_byte s k c hc
      have hib := ixb c (nb_lt s hc)
      cases hv : hexV c with
      | none =>
        rw [hv] at hib
        have hR := hide (readIs_no (readX_bad hc hx.out hv))
        have HI := hide (ib_is c _ w hib)
        go_wp2_with fail
        refine HI.out.mono ?_
        rintro e w1 ⟨rfl, rfl⟩
        go_wp2
        go_ret2
        exact ⟨hR.out, rfl⟩
      | some d =>
        rw [hv] at hib
        have hd := (hexD_V hv).1
        have hX := hide (show hexTo ((nb s).take (k + 1)) = some (16 * x + d) by rw [take_next hc, hexTo_snoc, hx.out, hv]; rfl)
        obtain ⟨n1, n2⟩ := next_lt hlt hxl.out hd
        have hN := hide n1
        have hdI : ¬ (d : Int) < 0 := by omega
        have HI := hide (ib_is c _ w hib)
        have hor := or16 x d hd n2
        obtain ⟨y, hy⟩ : ∃ y, 16 * x + d = y := ⟨_, rfl⟩
        rw [hy] at hor hX hN n1
        clear n1 hy
        go_wp2_with fail
        refine HI.out.mono ?_
        rintro e w1 ⟨rfl, rfl⟩
        go_wp2
        go_round
        case rel => exact ⟨k + 1, y, hlt, by go_num, rfl, hX, hN⟩
        case measure => simp [intOf]; omega
    · have hkn : k = 16 := by omega
      subst hkn
      have hE := hide (readX_end (by rw [nb_len]; exact h16) hx.out)
      have hfb := frombits x
      have HB := hide (score_bits x w)
      by_cases hp : plainB x = x
      · have hR := hide (readIs_yes (s := s) (by rw [hE.out, if_pos hp]))
        rw [hp] at HB
        clear hE
        go_wp2_with fail
        refine HB.out.mono ?_
        rintro e w1 ⟨rfl, rfl⟩
        go_wp2
        go_ret2
        exact ⟨hR.out, rfl⟩
      · have hR := hide (readIs_no (s := s) (by rw [hE.out, if_neg hp]))
        have e1 : ((plainB x : Int) == (x : Int)) = false := by rw [beq_eq_false_iff_ne]; omega
        generalize plainB x = p at *
        clear hE
        have hp2 : ¬ p = x := hp
        go_wp2_with fail
        refine HB.out.mono ?_
        rintro e w1 ⟨rfl, rfl⟩
        go_wp2
        go_ret2
        exact ⟨hR.out, rfl⟩
end Go.Proofs.YtcjoohaagdihlaaDoor.Hex
