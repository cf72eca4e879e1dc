/- Contracts on the number whose digits stand at the head of a text. -/
import Derived.Test.YtcjoohaagdihlaaDoorLit2
import Derived.Test.YtcjoohaagdihlaaDoorDec1
import Derived.Test.YtcjoohaagdihlaaDoorDecShelf
import Derived.Lib.AtoiErrMem
import Derived.Lib.Strings
namespace Go.Proofs.YtcjoohaagdihlaaDoor.Dec
open Go.RowKit Go.Lt Go.Proofs.YtcjoohaagdihlaaDoor.Lit
set_option linter.unusedVariables false
set_option linter.unusedSimpArgs false

/-- a byte as a number -/
def bt (c : UInt8) : Int := ((c.toNat : Nat) : Int)
theorem size_list (s : ByteArray) : s.data.toList.length = s.size := by rw [Array.length_toList]; rfl
theorem idx_byte {P : Program} {t : TypeId} (h : P.underlying t = some .string) (s : ByteArray) (k : Nat) (c : UInt8) (hx : s.data.toList[k]? = some c) (W : World) :
    (Instr.index t (.string s) (.int .i64 k)).run P W = .ok (.int .u8 (bt c)) W := by
  have hk : k < s.size := by have := (List.getElem?_eq_some_iff.1 hx).1; rwa [size_list] at this
  rw [run_index_string W t s .i64 k h, dif_pos ⟨by omega, by omega⟩]
  rw [Array.getElem?_toList] at hx
  have hk' : k < s.data.size := hk
  rw [Array.getElem?_eq_getElem hk'] at hx
  have hx := Option.some.inj hx
  unfold bt
  rw [← hx]
  rfl
theorem idx_head {P : Program} {t : TypeId} (h : P.underlying t = some .string) (s : ByteArray) (c : UInt8) (hx : s.data.toList[0]? = some c) (W : World) :
    (Instr.index t (.string s) (.int .i64 0)).run P W = .ok (.int .u8 (bt c)) W := idx_byte h s 0 c hx W
theorem bt_lt (c : UInt8) : 0 ≤ bt c ∧ bt c ≤ 255 := by unfold bt; have := c.toNat_lt; omega
theorem isD_bt {c : UInt8} : isD c = true ↔ 48 ≤ bt c ∧ bt c ≤ 57 := by rw [isD_iff]; unfold bt; omega
theorem bt_48 {c : UInt8} : bt c = 48 ↔ c = 48 := by
  constructor
  · intro h; apply UInt8.toNat_inj.1; unfold bt at h; have h48 : (48 : UInt8).toNat = 48 := rfl; omega
  · rintro rfl; rfl

theorem octet_digit (c : UInt8) (w : World) : Calls Tryd.prog 143 #[.int .u8 (bt c)] w fun e w' => e = .returned (.bool (isD c)) ∧ w = w' := by
  have hc := bt_lt c
  by_cases h0 : 48 ≤ bt c
  · by_cases h1 : bt c ≤ 57
    · have HG := hide (show true = isD c from (isD_bt.2 ⟨h0, h1⟩).symm)
      generalize bt c = x at *
      go_enter Tryd.func143, Tryd.ntmps143
      go_wp2
      go_ret
      exact ⟨ret_bool HG.out, rfl⟩
    · have HG := hide (show false = isD c by cases h : isD c; rfl; exact absurd (isD_bt.1 h).2 h1)
      generalize bt c = x at *
      go_enter Tryd.func143, Tryd.ntmps143
      go_wp2
      go_ret
      exact ⟨ret_bool HG.out, rfl⟩
  · have HG := hide (show false = isD c by cases h : isD c; rfl; exact absurd (isD_bt.1 h).1 h0)
    generalize bt c = x at *
    go_enter Tryd.func143, Tryd.ntmps143
    go_wp2
    go_ret
    exact ⟨ret_bool HG.out, rfl⟩
theorem digit_is {c : UInt8} {b : Bool} (h : isD c = b) (w : World) : Calls Tryd.prog 143 #[.int .u8 (bt c)] w fun e w' => e = .returned (.bool b) ∧ w = w' := by subst h; exact octet_digit c w
theorem octet_out0 (s : ByteArray) (w : World) : Calls Tryd.prog 142 #[.string s, .int .i64 0] w fun e w' => e = .returned (.bool false) ∧ w = w' := by
  go_enter Tryd.func142, Tryd.ntmps142
  go_wp2
  go_ret
  exact ⟨rfl, rfl⟩

theorem dlen_digit {l : List UInt8} {k : Nat} (h : k < dlen l) : ∃ c, l[k]? = some c ∧ isD c = true := by
  have hl := dlen_le l
  refine ⟨l[k]'(by omega), List.getElem?_eq_getElem _, dlen_all l _ ?_⟩
  rw [List.mem_take_iff_getElem]
  exact ⟨k, by omega, rfl⟩
theorem dlen_stop {l : List UInt8} {c : UInt8} (h : l[dlen l]? = some c) : isD c = false := by
  have : ∀ (l : List UInt8) (c : UInt8), l[(l.takeWhile isD).length]? = some c → isD c = false := by
    intro l
    induction l with
    | nil => intro c h; simp at h
    | cons a l ih =>
      intro c h
      rw [List.takeWhile_cons] at h
      split at h
      · exact ih c (by simpa using h)
      · rename_i hn
        have : a = c := by simpa using h
        subst this
        simpa using hn
  exact this l c h
theorem take_head {l : List UInt8} {d : Nat} {c : UInt8} (hd : 0 < d) (h : l[0]? = some c) : (l.take d)[0]? = some c := by
  rw [List.getElem?_take, if_pos hd]; exact h

def NatIs (s : ByteArray) (w : World) (e : Ending) (w' : World) : Prop :=
  e = .returned (.tuple #[.int .i64 ((natR s.data.toList).1 : Nat), .int .i64 ((natR s.data.toList).2.1 : Nat), .int .i64 ((natR s.data.toList).2.2 : Nat)]) ∧ Below w.heap.size w w'
theorem nat_is {s : ByteArray} {w w' : World} {a b c : Int} (h : natR s.data.toList = (a.toNat, b.toNat, c.toNat)) (ha : 0 ≤ a) (hb : 0 ≤ b) (hc : 0 ≤ c) (hw : Below w.heap.size w w') :
    NatIs s w (.returned (.tuple #[.int .i64 a, .int .i64 b, .int .i64 c])) w' := by
  refine ⟨?_, hw⟩
  rw [h]
  show Ending.returned _ = Ending.returned _
  rw [Int.toNat_of_nonneg ha, Int.toNat_of_nonneg hb, Int.toNat_of_nonneg hc]

set_option maxHeartbeats 800000 in
theorem octet_Nat (s : ByteArray) (w : World) (hs : s.size ≤ 1000000) :
    Calls Tryd.prog 118 #[.string s, .int .i64 0] w (NatIs s w) := by
  have hsI : (s.size : Int) ≤ 1000000 := by omega
  have HD := hide (fun k => dlen_digit (l := s.data.toList) (k := k))
  have HX := hide (fun c => dlen_stop (l := s.data.toList) (c := c))
  have hd : dlen s.data.toList ≤ s.size := by rw [← size_list]; exact dlen_le _
  obtain ⟨d, hdd⟩ : ∃ d, dlen s.data.toList = d := ⟨_, rfl⟩
  rw [hdd] at HD HX hd
  have hdd := hide hdd
  have HS := hide hs
  have hdI : (d : Int) ≤ 1000000 := by omega
  clear hs
  go_enter Tryd.func118, Tryd.ntmps118
  go_wp2_with fail
  refine (octet_out0 _ _).mono ?_
  rintro e w' ⟨rfl, rfl⟩
  go_wp2
  go_loop [7] (fun t => ∃ k : Nat, k ≤ d ∧ t = .int .i64 k) (fun t => d - (intOf t).toNat)
  case atStart => exact ⟨0, Nat.zero_le _, rfl⟩
  case round =>
    obtain ⟨k, hk, rfl⟩ := hrel
    by_cases hlt : k < d
    · obtain ⟨c, hc, hD⟩ := HD.out k hlt
      have hidx := fun W => idx_byte (P := Tryd.prog) Tryd.underlying9 s k c hc W
      have H := hide (digit_is hD)
      clear hc hD
      go_wp2_with fail
      refine (H.out _).mono ?_
      rintro e w' ⟨rfl, rfl⟩
      go_wp2
      go_round
      case rel => exact ⟨k + 1, hlt, by go_num⟩
      case measure => simp [intOf]; omega
    · have hkd : d = k := by omega
      subst hkd
      clear hlt
      have hend : (d < s.size ∧ ∃ c, s.data.toList[d]? = some c ∧ isD c = false) ∨ d = s.size := by
        rcases Nat.lt_or_ge d s.size with h | h
        · have hc : s.data.toList[d]? = some (s.data.toList[d]'(by rw [size_list]; exact h)) := List.getElem?_eq_getElem _
          exact .inl ⟨h, _, hc, HX.out _ hc⟩
        · exact .inr (by omega)
      clear HX HD
      by_cases hz : s.size = 0
      · have hl : s.data.toList = [] := List.eq_nil_of_length_eq_zero (by rw [size_list]; exact hz)
        have hR := hide (show natR s.data.toList = ((0 : Int).toNat, (0 : Int).toNat, (3 : Int).toNat) by rw [hl]; rfl)
        have hd0 : d = 0 := by omega
        subst hd0
        clear hl hend hdd
        go_wp2
        go_ret3
        exact nat_is hR.out (by omega) (by omega) (by omega) (Below.refl _ _)
      · have hz1 : ((0 : Int) == (s.size : Int)) = false := by rw [beq_eq_false_iff_ne]; omega
        have hl : s.data.toList ≠ [] := fun h => hz (by rw [← size_list, h]; rfl)
        obtain ⟨word, hword⟩ : ∃ word, s.extract 0 d = word := ⟨_, rfl⟩
        have hwl : word.data.toList = s.data.toList.take d := by rw [← hword, Lib.extract_data]; simp
        have hws : word.size = d := by rw [← size_list, hwl, List.length_take, size_list]; omega
        by_cases hd0 : d = 0
        · have hR := hide (show natR s.data.toList = ((0 : Int).toNat, (0 : Int).toNat, (2 : Int).toNat) by
            unfold natR; rw [if_neg hl, if_pos (.inl (by rw [hdd.out]; exact hd0))]; rfl)
          have hwe : word = ⟨#[]⟩ := by
            have : word.data.toList = [] := by rw [hwl, hd0]; rfl
            obtain ⟨⟨wl⟩⟩ := word
            simp at this
            rw [this]
          subst hwe
          have hd0' : ¬ (0 < d) := by omega
          subst hd0
          have hlt : 0 < s.size := by omega
          rcases hend with ⟨h1, c, hc, hD⟩ | h1
          · have hidx := fun W => idx_head (P := Tryd.prog) Tryd.underlying9 s c hc W
            have H := hide (digit_is hD)
            clear hc hD hl hwl hws hdd
            go_wp2_with fail
            refine (H.out _).mono ?_
            rintro e w' ⟨rfl, rfl⟩
            go_wp2
            go_ret3
            exact nat_is hR.out (by omega) (by omega) (by omega) (Below.refl _ _)
          · omega
        · obtain ⟨c0, hc0⟩ : ∃ c0, s.data.toList[0]? = some c0 := ⟨_, List.getElem?_eq_getElem (by rw [size_list]; omega)⟩
          have hwc : word.data.toList[0]? = some c0 := by rw [hwl]; exact take_head (by omega) hc0
          have hhead : s.data.toList.head? = some c0 := by rw [List.head?_eq_getElem?]; exact hc0
          have hidw := fun W => idx_head (P := Tryd.prog) Tryd.underlying9 word c0 hwc W
          have hwt3 : ¬ word.toList = [] := by
            intro h
            have h1 : word.data.toList.length = 0 := by rw [← Lib.toList_data, h]; rfl
            rw [size_list] at h1; omega
          have hwt1 : word.toList.isEmpty = false := by simpa using hwt3
          have hwt2 : (!word.toList.isEmpty) = true := by rw [hwt1]; rfl
          have hend' := hide hend
          clear hend
          by_cases h48 : bt c0 = 48 ∧ 1 < d
          · obtain ⟨h1, h2⟩ := h48
            have hR := hide (show natR s.data.toList = ((0 : Int).toNat, (0 : Int).toNat, (2 : Int).toNat) by
              unfold natR; rw [if_neg hl, if_pos (.inr ⟨by rw [hhead, bt_48.1 h1], by rw [hdd.out]; exact h2⟩)]; rfl)
            have h2I : (1 : Int) < d := by omega
            clear hl hwl hdd hc0 hwc hhead
            rcases hend'.out with ⟨h3, c, hc, hD⟩ | h3
            · have hidx := fun W => idx_byte (P := Tryd.prog) Tryd.underlying9 s d c hc W
              have H := hide (digit_is hD)
              clear hc hD
              go_wp2_with fail
              refine (H.out _).mono ?_
              rintro e w' ⟨rfl, rfl⟩
              go_wp2
              go_ret3
              exact nat_is hR.out (by omega) (by omega) (by omega) (Below.refl _ _)
            · have h3' : ¬ d < s.size := by omega
              have h3I : ¬ (d : Int) < s.size := by omega
              clear h3
              go_wp2
              go_ret3
              exact nat_is hR.out (by omega) (by omega) (by omega) (Below.refl _ _)
          · have hno : ¬ (dlen s.data.toList = 0 ∨ s.data.toList.head? = some 48 ∧ 1 < dlen s.data.toList) := by
              rw [hdd.out, hhead]
              rintro (h | ⟨h1, h2⟩)
              · exact hd0 h
              · exact h48 ⟨bt_48.2 (Option.some.inj h1), h2⟩
            by_cases h9 : 9 < d
            · have hR := hide (show natR s.data.toList = ((0 : Int).toNat, (0 : Int).toNat, (5 : Int).toNat) by
                unfold natR; rw [if_neg hl, if_neg hno, if_pos (by rw [hdd.out]; exact h9)]; rfl)
              have h9I : (9 : Int) < d := by omega
              have hb0 : ¬ bt c0 = 48 := fun h => h48 ⟨h, by omega⟩
              have hb1 : (bt c0 == 48) = false := by rw [beq_eq_false_iff_ne]; exact hb0
              clear hl hwl hdd hc0 hwc hhead hno h48
              rcases hend'.out with ⟨h3, c, hc, hD⟩ | h3
              · have hidx := fun W => idx_byte (P := Tryd.prog) Tryd.underlying9 s d c hc W
                have H := hide (digit_is hD)
                clear hc hD
                go_wp2_with fail
                refine (H.out _).mono ?_
                rintro e w' ⟨rfl, rfl⟩
                go_wp2
                go_ret3
                exact nat_is hR.out (by omega) (by omega) (by omega) (Below.refl _ _)
              · have h3' : ¬ d < s.size := by omega
                have h3I : ¬ (d : Int) < s.size := by omega
                clear h3
                go_wp2
                go_ret3
                exact nat_is hR.out (by omega) (by omega) (by omega) (Below.refl _ _)
            · have hR := hide (show natR s.data.toList = ((decV (s.data.toList.take d) : Int).toNat, (d : Int).toNat, (0 : Int).toNat) by
                unfold natR; rw [if_neg hl, if_neg hno, if_neg (by rw [hdd.out]; exact h9), hdd.out]; rfl)
              have hat : Lib.atoi word.data.toList = some ((decV (s.data.toList.take d) : Nat) : Int) := by
                rw [hwl]
                refine atoi_digits _ ?_ ?_
                · intro h; have := congrArg List.length h; rw [List.length_take, size_list] at this
                  have h0 : ([] : List UInt8).length = 0 := rfl
                  omega
                · have := dlen_all s.data.toList
                  rw [hdd.out] at this; exact this
              have HA := hide (fun W => Tryd.strconv_Atoi word _ (by omega) hat W)
              have h9I : ¬ (9 : Int) < d := by omega
              have hlts : 0 < d := by omega
              generalize decV (s.data.toList.take d) = v at *
              clear hl hwl hdd hc0 hwc hhead hno hat
              by_cases hb0 : bt c0 = 48
              · have h1d : ¬ 1 < d := fun h => h48 ⟨hb0, h⟩
                have h1I : ¬ (1 : Int) < d := by omega
                clear h48
                rcases hend'.out with ⟨h3, c, hc, hD⟩ | h3
                · have hidx := fun W => idx_byte (P := Tryd.prog) Tryd.underlying9 s d c hc W
                  have H := hide (digit_is hD)
                  clear hc hD
                  go_wp2_with fail
                  refine (H.out _).mono ?_
                  rintro e w' ⟨rfl, rfl⟩
                  go_wp2_with fail
                  refine (HA.out _).mono ?_
                  rintro e w' ⟨rfl, t, rfl⟩
                  have hb := Lib.bytesWorld_below w 5 t
                  generalize Lib.bytesWorld w 5 t = w1 at *
                  go_wp2
                  go_ret3
                  exact nat_is hR.out (by omega) (by omega) (by omega) hb
                · have h3' : ¬ d < s.size := by omega
                  have h3I : ¬ (d : Int) < s.size := by omega
                  clear h3
                  go_wp2_with fail
                  refine (HA.out _).mono ?_
                  rintro e w' ⟨rfl, t, rfl⟩
                  have hb := Lib.bytesWorld_below w 5 t
                  generalize Lib.bytesWorld w 5 t = w1 at *
                  go_wp2
                  go_ret3
                  exact nat_is hR.out (by omega) (by omega) (by omega) hb
              · have hb1 : (bt c0 == 48) = false := by rw [beq_eq_false_iff_ne]; exact hb0
                clear h48
                rcases hend'.out with ⟨h3, c, hc, hD⟩ | h3
                · have hidx := fun W => idx_byte (P := Tryd.prog) Tryd.underlying9 s d c hc W
                  have H := hide (digit_is hD)
                  clear hc hD
                  go_wp2_with fail
                  refine (H.out _).mono ?_
                  rintro e w' ⟨rfl, rfl⟩
                  go_wp2_with fail
                  refine (HA.out _).mono ?_
                  rintro e w' ⟨rfl, t, rfl⟩
                  have hb := Lib.bytesWorld_below w 5 t
                  generalize Lib.bytesWorld w 5 t = w1 at *
                  go_wp2
                  go_ret3
                  exact nat_is hR.out (by omega) (by omega) (by omega) hb
                · have h3' : ¬ d < s.size := by omega
                  have h3I : ¬ (d : Int) < s.size := by omega
                  clear h3
                  go_wp2_with fail
                  refine (HA.out _).mono ?_
                  rintro e w' ⟨rfl, t, rfl⟩
                  have hb := Lib.bytesWorld_below w 5 t
                  generalize Lib.bytesWorld w 5 t = w1 at *
                  go_wp2
                  go_ret3
                  exact nat_is hR.out (by omega) (by omega) (by omega) hb
end Go.Proofs.YtcjoohaagdihlaaDoor.Dec
