/- Texts behind a row, one behind the other: Tri1, SortShelf, Sorted2, RegIn. -/
import Derived.Test.YtcjoohaagdihlaaWS4
import Derived.Shelf.Sort.Plain
import Derived.Ground.Names2Prog
import Derived.Shelf.Slices.Clone
import Derived.Shelf.Slices.CompactI
import Derived.Shelf.Slices.In.SortNone
import Derived.Test.YtcjoohaagdihlaaProg
import Derived.Test.YtcjoohaagdihlaaWS1
import Derived.Test.YtcjoohaagdihlaaWS2
import Derived.Sort.OwnSortedInts
import Derived.OrdersIn
import Derived.RangeFuncCalls
import Derived.TacticsIn
section
/- The program's value of a literal: tri.Lit. -/
namespace Go.Proofs.Ytcjoohaagdihlaa.Watch
open Go.RowKit Go.Lt Go.Proofs.Ytcjoohaagdihlaa.Lit Go.Proofs.Ytcjoohaagdihlaa.Sorted Go.Proofs.Ytcjoohaagdihlaa.Learn
set_option linter.unusedVariables false
set_option linter.unusedSimpArgs false

def toldB (a : Int) : Bool := decide (a = 0 ∨ a = 1)
theorem tri_told (a : Int) (w : World) : Calls Try.prog 154 #[.int .i64 a] w fun e w' => e = .returned (.bool (toldB a)) ∧ w = w' := by
  by_cases h0 : a = 0
  · subst h0
    go_enter Try.func154, Try.ntmps154
    go_wp2
    go_ret
    exact ⟨rfl, rfl⟩
  · by_cases h1 : a = 1
    · subst h1
      go_enter Try.func154, Try.ntmps154
      go_wp2
      go_ret
      exact ⟨rfl, rfl⟩
    · have e0 : (a == 0) = false := by simp [h0]
      have e1 : (a == 1) = false := by simp [h1]
      have HV := hide (show false = toldB a from (decide_eq_false (by omega)).symm)
      go_enter Try.func154, Try.ntmps154
      go_wp2
      go_ret
      exact ⟨ret_bool HV.out, rfl⟩
theorem told_is {a : Int} {b : Bool} (h : toldB a = b) (w : World) : Calls Try.prog 154 #[.int .i64 a] w fun e w' => e = .returned (.bool b) ∧ w = w' := by subst h; exact tri_told a w
theorem tri_Not (a : Int) (w : World) : Calls Try.prog 155 #[.int .i64 a] w fun e w' => e = .returned (.int .i64 (triNot a)) ∧ w = w' := by
  by_cases h0 : a = 0
  · subst h0
    have HT := hide (fun W => told_is (a := 0) (b := true) rfl W)
    go_enter Try.func155, Try.ntmps155
    go_wp2_with (go_at_call 154; refine (HT.out _).mono ?_; rintro e w' ⟨rfl, rfl⟩)
    go_ret
    exact ⟨rfl, rfl⟩
  · by_cases h1 : a = 1
    · subst h1
      have HT := hide (fun W => told_is (a := 1) (b := true) rfl W)
      go_enter Try.func155, Try.ntmps155
      go_wp2_with (go_at_call 154; refine (HT.out _).mono ?_; rintro e w' ⟨rfl, rfl⟩)
      go_ret
      exact ⟨rfl, rfl⟩
    · have HT := hide (fun W => told_is (a := a) (b := false) (decide_eq_false (by omega)) W)
      have HV := hide (show 2 = triNot a by unfold triNot; rw [if_neg h0, if_neg h1])
      go_enter Try.func155, Try.ntmps155
      go_wp2_with (go_at_call 154; refine (HT.out _).mono ?_; rintro e w' ⟨rfl, rfl⟩)
      go_ret
      exact ⟨ret_int HV.out, rfl⟩
theorem var_is {l v : Int} (h : litVar l = v) (w : World) : Calls Try.prog 84 #[.int .i64 l] w fun e w' => e = .returned (.int .i64 v) ∧ w = w' := by subst h; exact lit_Var l w
theorem neg_is {l : Int} {b : Bool} (h : litNeg l = b) (w : World) : Calls Try.prog 153 #[.int .i64 l] w fun e w' => e = .returned (.bool b) ∧ w = w' := by subst h; exact lit_Neg l w
set_option maxHeartbeats 1000000 in
theorem tri_Lit (A : Option Addr) (n c : Nat) (vals : List Int) (x : Int) (w : World) (hn : n ≤ 10000000) (hr : Rd w A n (ivs vals)) :
    Calls Try.prog 137 #[.slice A n c, .int .i64 x] w fun e w' => e = .returned (.int .i64 (litV vals x)) ∧ w = w' := by
  have hnI : (n : Int) ≤ 10000000 := by omega
  have hlen := hr.len
  cases hg : litGood x with
  | false =>
    have HV := hide (fun W => var_is (l := x) (v := -1) (by unfold litVar; rw [hg]; rfl) W)
    have HN := hide (fun W => neg_is (l := x) (b := false) (by unfold litNeg; rw [hg]; rfl) W)
    have HR := hide (show 2 = litV vals x by unfold litV; rw [hg]; rfl)
    clear hg
    go_enter Try.func137, Try.ntmps137
    go_wp2_with first | (go_at_call 84; refine (HV.out _).mono ?_; rintro e w' ⟨rfl, rfl⟩) | (go_at_call 153; refine (HN.out _).mono ?_; rintro e w' ⟨rfl, rfl⟩)
    go_ret
    exact ⟨ret_int HR.out, rfl⟩
  | true =>
    obtain ⟨h0, h1⟩ := good_iff.1 hg
    obtain ⟨k, hk⟩ : ∃ k : Nat, x / 2 = (k : Int) := ⟨(x / 2).toNat, by omega⟩
    have HV := hide (fun W => var_is (l := x) (v := (k : Int)) (by unfold litVar; rw [hg, ← hk]; rfl) W)
    obtain ⟨nb, hnb⟩ : ∃ nb, decide (x % 2 = 1) = nb := ⟨_, rfl⟩
    have HN := hide (fun W => neg_is (l := x) (b := nb) (by unfold litNeg; rw [hg, hnb]; rfl) W)
    have HX := hide (fun a W => tri_Not a W)
    have hneg : ∀ a : Int, (if x % 2 = 1 then triNot a else a) = if nb = true then triNot a else a := fun a => by rw [← hnb]; by_cases h : x % 2 = 1 <;> simp [h]
    by_cases hk0 : k = 0
    · subst hk0
      have hk : x / 2 = 0 := hk
      have HR := hide (show (if nb = true then triNot 0 else 0) = litV vals x by unfold litV; rw [if_pos hg, if_pos hk, hneg])
      clear hg hneg hnb hk
      cases nb with
      | true =>
        go_enter Try.func137, Try.ntmps137
        go_wp2_with first | (go_at_call 84; refine (HV.out _).mono ?_; rintro e w' ⟨rfl, rfl⟩) | (go_at_call 153; refine (HN.out _).mono ?_; rintro e w' ⟨rfl, rfl⟩) | (go_at_call 155; refine (HX.out _ _).mono ?_; rintro e w' ⟨rfl, rfl⟩)
        go_ret
        exact ⟨ret_int HR.out, rfl⟩
      | false =>
        go_enter Try.func137, Try.ntmps137
        go_wp2_with first | (go_at_call 84; refine (HV.out _).mono ?_; rintro e w' ⟨rfl, rfl⟩) | (go_at_call 153; refine (HN.out _).mono ?_; rintro e w' ⟨rfl, rfl⟩)
        go_ret
        exact ⟨ret_int HR.out, rfl⟩
    · have e1 : ((k : Int) == 0) = false := by simp; omega
      have e2 : decide (0 < (k : Int)) = true := decide_eq_true (by omega)
      have e3 : ¬ (k : Int) = 0 := by omega
      by_cases hkn : k < n
      · have hknI : (k : Int) < n := by omega
        obtain ⟨ad, a, rfl, hB, ha, hca⟩ := hr.get hkn
        have hga : vals.getD (x / 2).toNat 0 = a := by rw [hk, Int.toNat_natCast, List.getD_eq_getElem?_getD, ha]; rfl
        obtain ⟨tb, htb⟩ : ∃ tb, toldB a = tb := ⟨_, rfl⟩
        have HT := hide (fun W => told_is htb W)
        have hta : triV a = if tb = true then a else 2 := by
          rw [← htb]; unfold triV toldB
          by_cases h : a = 0 ∨ a = 1 <;> simp [h]
        have HR := hide (show (if nb = true then triNot (if tb = true then a else 2) else (if tb = true then a else 2)) = litV vals x by unfold litV; rw [if_pos hg, hga, hk, if_neg e3, if_pos (show (k : Int) < (vals.length : Int) by omega), hneg, hta])
        clear hg ha hga hneg hta htb hnb hk
        cases tb <;> cases nb
        all_goals
          go_enter Try.func137, Try.ntmps137
          go_wp2_with first | (go_at_call 84; refine (HV.out _).mono ?_; rintro e w' ⟨rfl, rfl⟩) | (go_at_call 153; refine (HN.out _).mono ?_; rintro e w' ⟨rfl, rfl⟩) | (go_at_call 155; refine (HX.out _ _).mono ?_; rintro e w' ⟨rfl, rfl⟩) | (go_at_call 154; refine (HT.out _).mono ?_; rintro e w' ⟨rfl, rfl⟩)
          go_ret
          exact ⟨ret_int HR.out, rfl⟩
      · have e4 : decide ((k : Int) < n) = false := decide_eq_false (by omega)
        have e5 : ¬ (k : Int) < n := by omega
        have HR := hide (show (if nb = true then triNot 2 else 2) = litV vals x by unfold litV; rw [if_pos hg, hk, if_neg e3, if_neg (show ¬ (k : Int) < (vals.length : Int) by omega), hneg])
        clear hg hneg hnb hk
        cases nb
        all_goals
          go_enter Try.func137, Try.ntmps137
          go_wp2_with first | (go_at_call 84; refine (HV.out _).mono ?_; rintro e w' ⟨rfl, rfl⟩) | (go_at_call 153; refine (HN.out _).mono ?_; rintro e w' ⟨rfl, rfl⟩) | (go_at_call 155; refine (HX.out _ _).mono ?_; rintro e w' ⟨rfl, rfl⟩)
          go_ret
          exact ⟨ret_int HR.out, rfl⟩
end Go.Proofs.Ytcjoohaagdihlaa.Watch
end

section
/-
  DERIVED: THE SHELF's CONTRACTS AT THIS DUMP, IN PLAIN WORDS (tools/lay-plain.mjs out of 'YtcjoohaagdihlaaSortShelfL.lean', which tools/lay-shelf.mjs wrote): THE SAME DECLARATIONS UNDER THE SAME NAMES: 'import', 'namespace', 'open', 'def', 'theorem' AND NOTHING ELSE: no command of the shelf's: FOR A HAND-IN. Each laying: the table of numbers ('.._ren') and one theorem, a field a fact of the dump's own or the kernel's comparison; each contract: ONE APPLICATION.
-/
namespace Go.Proofs
open Go.Shelf
def Try.lays189_ren : Go.Shelf.Ren := ⟨fun | 189 => 127 | 125 => 151 | 257 => 150 | 128 => 167 | 129 => 168 | 294 => 158 | 295 => 159 | 296 => 160 | 297 => 161 | 298 => 162 | 299 => 163 | 216 => 164 | 300 => 165 | 301 => 166 | 328 => 171 | 329 => 172 | 330 => 173 | 331 => 174 | 332 => 175 | 215 => 176 | 343 => 178 | n => n, fun | 28 => 40 | 3 => 3 | 46 => 151 | 0 => 0 | 51 => 176 | 53 => 22 | 4 => 4 | 183 => 168 | 182 => 167 | 131 => 173 | 5 => 5 | 9 => 9 | 218 => 180 | 222 => 184 | 228 => 186 | 229 => 187 | n => n, fun | n => n⟩
theorem Try.lays189 : Go.Proofs.Lays.n189 Try.prog Try.lays189_ren := {
  mixed := by kernel_rfl
  f125 := Try.func151.trans (congrArg some (by kernel_rfl))
  f128 := Try.func167.trans (congrArg some (by kernel_rfl))
  f129 := Try.func168.trans (congrArg some (by kernel_rfl))
  f189 := Try.func127.trans (congrArg some (by kernel_rfl))
  f215 := Try.func176.trans (congrArg some (by kernel_rfl))
  f216 := Try.func164.trans (congrArg some (by kernel_rfl))
  f257 := Try.func150.trans (congrArg some (by kernel_rfl))
  f294 := Try.func158.trans (congrArg some (by kernel_rfl))
  f295 := Try.func159.trans (congrArg some (by kernel_rfl))
  f296 := Try.func160.trans (congrArg some (by kernel_rfl))
  f297 := Try.func161.trans (congrArg some (by kernel_rfl))
  f298 := Try.func162.trans (congrArg some (by kernel_rfl))
  f299 := Try.func163.trans (congrArg some (by kernel_rfl))
  f300 := Try.func165.trans (congrArg some (by kernel_rfl))
  f301 := Try.func166.trans (congrArg some (by kernel_rfl))
  f328 := Try.func171.trans (congrArg some (by kernel_rfl))
  f329 := Try.func172.trans (congrArg some (by kernel_rfl))
  f330 := Try.func173.trans (congrArg some (by kernel_rfl))
  f331 := Try.func174.trans (congrArg some (by kernel_rfl))
  f332 := Try.func175.trans (congrArg some (by kernel_rfl))
  f343 := Try.func178.trans (congrArg some (by kernel_rfl))
  t0 := Try.underlying0
  a0 := Try.isAgg0
  z0 := Try.sizeOf0
  v0 := Try.zeroValue0
  t3 := Try.underlying3
  a3 := Try.isAgg3
  z3 := Try.sizeOf3
  v3 := Try.zeroValue3
  t4 := Try.underlying4
  a4 := Try.isAgg4
  z4 := Try.sizeOf4
  v4 := Try.zeroValue4
  t5 := Try.underlying5
  a5 := Try.isAgg5
  z5 := Try.sizeOf5
  v5 := Try.zeroValue5
  t9 := Try.underlying9
  a9 := Try.isAgg9
  z9 := Try.sizeOf9
  v9 := Try.zeroValue9
  t28 := Try.underlying40
  a28 := Try.isAgg40
  z28 := Try.sizeOf40
  v28 := Try.zeroValue40
  t46 := Try.underlying151
  a46 := Try.isAgg151
  z46 := Try.sizeOf151
  v46 := Try.zeroValue151
  t51 := Try.underlying176
  a51 := Try.isAgg176
  z51 := Try.sizeOf176
  v51 := Try.zeroValue176
  t53 := Try.underlying22
  a53 := Try.isAgg22
  z53 := Try.sizeOf22
  v53 := Try.zeroValue22
  t131 := Try.underlying173
  a131 := Try.isAgg173
  z131 := Try.sizeOf173
  v131 := Try.zeroValue173
  t182 := Try.underlying167
  a182 := Try.isAgg167
  z182 := Try.sizeOf167
  v182 := Try.zeroValue167
  t183 := Try.underlying168
  a183 := Try.isAgg168
  z183 := Try.sizeOf168
  v183 := Try.zeroValue168
  t218 := Try.underlying180
  a218 := Try.isAgg180
  z218 := Try.sizeOf180
  v218 := Try.zeroValue180
  t222 := Try.underlying184
  a222 := Try.isAgg184
  z222 := Try.sizeOf184
  v222 := Try.zeroValue184
  t228 := Try.underlying186
  a228 := Try.isAgg186
  z228 := Try.sizeOf186
  v228 := Try.zeroValue186
  t229 := Try.underlying187
  a229 := Try.isAgg187
  z229 := Try.sizeOf187
  v229 := Try.zeroValue187 }
open Go.Sort Go.RowKit in
theorem Try.slices_Sort_int (blk off cap : Nat) (zs : List Int) (w : World) (hH : Holds (Value.int .i64) w blk off zs.toArray) (hblk : blk < w.heap.size) (hsz : zs.length < 4611686018427387904) :
    Calls Try.prog 127 #[.slice (some ⟨blk, off, none⟩) zs.length cap] w fun e w' =>
      e = .returned (.tuple #[]) ∧ ∃ n os, w' = grow (putRow (Value.int .i64) (Sort.ahead w n) blk off (zs.mergeSort fun x y => decide (x ≤ y)).toArray) os := Any.slices_Sort_int Try.lays189 blk off cap zs w hH hblk hsz
def Try.laysNm215_ren : Go.Shelf.Ren := ⟨fun | 15 => 108 | n => n, fun | 22 => 40 | 3 => 3 | 4 => 4 | n => n, fun | n => n⟩
theorem Try.laysNm215 : Go.Proofs.Lays2.n15 Try.prog Try.laysNm215_ren := {
  mixed := by kernel_rfl
  f15 := Try.func108.trans (congrArg some (by kernel_rfl))
  t3 := Try.underlying3
  a3 := Try.isAgg3
  z3 := Try.sizeOf3
  v3 := Try.zeroValue3
  t4 := Try.underlying4
  a4 := Try.isAgg4
  z4 := Try.sizeOf4
  v4 := Try.zeroValue4
  t22 := Try.underlying40
  a22 := Try.isAgg40
  z22 := Try.sizeOf40
  v22 := Try.zeroValue40
  i3 := by kernel_rfl }
open Go.RowKit Go.Lib in
/-- slices.Clone at []int: "Clone returns a copy of the slice. The elements are copied using assignment, so this is a shallow clone. The result may have additional unused capacity. The result preserves the nilness of s.": OF A SLICE THAT IS NOT nil IT RETURNS A SLICE THAT IS NOT nil, OF THE SAME ELEMENTS, IN MEMORY OF THE CALL's OWN: in the how-to's words (6f): 'w'.ownsRow B e 1 v' n cells': v' begins at the head of a row among the blocks from B on (B: the heap's size at the call), not frozen, whose first cells are the elements · 'Below B w w'': below B all is as it was. The capacity is whatever the run-time gives. 'zs': what the cells behind the slice's address hold; 'zs.take n': its elements. (LAID: no walk: one application.) -/
theorem Try.slices_Clone_int (b off n c : Nat) (zs : List Int) (w : World) (hz : n ≤ zs.length) (hbig : n * 8 ≤ 140737488355328) (hc : ∀ j, j < zs.length → w.cell? ⟨b, off + j, none⟩ = some (.int .i64 (zs.getD j 0))) :
    Calls Try.prog 108 #[.slice (some ⟨b, off, none⟩) n c] w fun e w' => ∃ v', e = .returned v' ∧ w'.ownsRow w.heap.size 3 1 v' n ((zs.take n).map (Value.int .i64)) ∧ v' ≠ .slice none 0 0 ∧ Below w.heap.size w w' := Any.slices_Clone_int Try.laysNm215 b off n c zs w hz hbig hc
open Go.RowKit Go.Lib in
/-- The same at nil: nil comes back; the world is as it was. (LAID: no walk: one application.) -/
theorem Try.slices_Clone_int_nil (n c : Nat) (w : World) :
    Calls Try.prog 108 #[.slice none n c] w fun e w' => e = .returned (.slice none 0 0) ∧ w' = w := Any.slices_Clone_int_nil Try.laysNm215 n c w
open Go.RowKit Go.Lib in
/-- The same at a slice of length 0 that is not nil, WHATEVER ITS ADDRESS (no cell is asked for): a slice that is not nil and owns nothing comes back. (LAID: no walk: one application.) -/
theorem Try.slices_Clone_int_zero (a : Addr) (c : Nat) (w : World) :
    Calls Try.prog 108 #[.slice (some a) 0 c] w fun e w' => ∃ v', e = .returned v' ∧ w'.ownsRow w.heap.size 3 1 v' 0 [] ∧ v' ≠ .slice none 0 0 ∧ Below w.heap.size w w' := Any.slices_Clone_int_zero Try.laysNm215 a c w
def Try.laysNm220_ren : Go.Shelf.Ren := ⟨fun | 20 => 128 | n => n, fun | 22 => 40 | 3 => 3 | 4 => 4 | 0 => 0 | n => n, fun | n => n⟩
theorem Try.laysNm220 : Go.Proofs.Lays2.n20 Try.prog Try.laysNm220_ren := {
  mixed := by kernel_rfl
  f20 := Try.func128.trans (congrArg some (by kernel_rfl))
  t0 := Try.underlying0
  a0 := Try.isAgg0
  z0 := Try.sizeOf0
  v0 := Try.zeroValue0
  t3 := Try.underlying3
  a3 := Try.isAgg3
  z3 := Try.sizeOf3
  v3 := Try.zeroValue3
  t4 := Try.underlying4
  a4 := Try.isAgg4
  z4 := Try.sizeOf4
  v4 := Try.zeroValue4
  t22 := Try.underlying40
  a22 := Try.isAgg40
  z22 := Try.sizeOf40
  v22 := Try.zeroValue40
  i3 := by kernel_rfl }
open Go.RowKit Go.Lib Go.Sort in
/-- slices.Compact at []int: "Compact replaces consecutive runs of equal elements with a single copy. This is like the uniq command found on Unix. Compact modifies the contents of the slice s and returns the modified slice, which may have a smaller length. Compact zeroes the elements between the new length and the original length. The result preserves the nilness of s.": IT RETURNS THE SLICE CUT TO 'Lib.compact zs'; ITS CELLS HOLD 'Lib.compact zs', THEN ZERO VALUES up to the old length; all else is as it was, but for the count of draws. IN THE WORDS OF slices.Sort's CONTRACT ('Holds', 'putRow'): so the everyday 'slices.Sort(xs); xs = slices.Compact(xs)' goes from the one contract to the other. It asks 'zs.length ≤ cap' (every slice's: the reslicing 's[:k]' looks at it). Length 0, nil: '.._empty'. (LAID: no walk: one application.) -/
theorem Try.slices_Compact_int (blk off cap : Nat) (zs : List Int) (w : World) (hH : Holds (Value.int .i64) w blk off zs.toArray) (hsz : zs.length ≤ 9223372036854775807) (hcap : zs.length ≤ cap) :
    Calls Try.prog 128 #[.slice (some ⟨blk, off, none⟩) zs.length cap] w fun e w' => e = .returned (.slice (some ⟨blk, off, none⟩) (Lib.compact zs).length cap) ∧ ∃ q, w' = putRow (Value.int .i64) (Sort.ahead w q) blk off (Lib.compact zs ++ List.replicate (zs.length - (Lib.compact zs).length) 0).toArray := Any.slices_Compact_int Try.laysNm220 blk off cap zs w hH hsz hcap
open Go.RowKit Go.Lib Go.Sort in
/-- The same at a slice of length 0, a nil one too: it comes back as it is. (LAID: no walk: one application.) -/
theorem Try.slices_Compact_int_empty (a : Option Addr) (cap : Nat) (w : World) :
    Calls Try.prog 128 #[.slice a 0 cap] w fun e w' => e = .returned (.slice a 0 cap) ∧ w' = w := Any.slices_Compact_int_empty Try.laysNm220 a cap w
open Go.RowKit Go.Sort in
/-- .. and plain. (LAID: no walk: one application.) -/
theorem Try.slices_Sort_int_none (p : Option Addr) (cap : Nat) (w : World) :
    Calls Try.prog 127 #[.slice p 0 cap] w fun e w' => e = .returned (.tuple #[]) ∧ w' = w := Any.slices_Sort_int_none Try.lays189 p cap w
end Go.Proofs
end

section
/- Contracts on what puts numbers in order: the program's slices.Clone and lit.Sorted, the document's Sorted. -/
namespace Go.Proofs.Ytcjoohaagdihlaa.Sorted
open Go.RowKit Go.Lt Go.Proofs.Ytcjoohaagdihlaa.Lit
set_option linter.unusedVariables false
set_option linter.unusedSimpArgs false

theorem info_i : (Try.prog.info? 3).map (fun i => (i.zero, i.size, i.bytes)) = some (some (.int .i64 0), 1, 8) := by kernel_rfl
theorem ivs_one {l : List Int} : ∀ u ∈ ivs l, u.oneCell' = true := by
  intro u hu
  obtain ⟨x, _, rfl⟩ := List.mem_map.1 hu
  rfl
theorem ivs_len (l : List Int) : (ivs l).length = l.length := by simp [ivs]

set_option maxHeartbeats 1000000 in
theorem slices_Clone (A : Option Addr) (n c : Nat) (l : List Int) (w : World) (hn : n ≤ 1000000) (hr : Rd w A n (ivs l)) :
    Calls Try.prog 108 #[.slice A n c] w fun e w' => ∃ v, e = .returned v ∧ w'.ownsRow w.heap.size 3 1 v n (ivs l) ∧ Below w.heap.size w w' := by
  have q22 : ∀ (w : World) (a : Option Addr) (n c n' c' : Nat), (binOp .eql 40 (.slice a n c) (.slice none n' c')).run Try.prog w = .ok (.bool a.isNone) w := fun w a n c n' c' => Lib.run_eql_slice_nil w _ _ a n c n' c' Try.underlying40
  have hl := hide hr.len
  have HN := hide hn
  clear hn
  rcases A with _ | ad
  · have h0 := hr.none
    subst h0
    have hl0 : l = [] := List.eq_nil_of_length_eq_zero hl.out
    subst hl0
    clear hl
    go_enter Try.func108, Try.ntmps108
    go_wp2
    go_ret
    exact ⟨_, rfl, World.ownsRow_nil _ _ _ _, Below.refl _ _⟩
  · go_enter Try.func108, Try.ntmps108
    go_wp2_with (at_builtin; refine wpList_append_rd rfl _ _ _ rfl Try.underlying40 info_i rfl rfl rfl (World.ownsRow_lit w #[] 0 (Nat.le_refl _) (by unfold maxLen; omega) rfl) ((Below.refl w.heap.size w).alloc (Nat.le_refl _) _) (by simp) (hr.below ((Below.refl w.heap.size w).alloc (Nat.le_refl _) _) (Nat.le_refl _)) ivs_one (by have := HN.out; unfold maxLen; omega) (by have := HN.out; omega) ?_; intro v4 w4 hown4 hb4)
    go_ret
    exact ⟨_, rfl, by simpa using hown4, hb4⟩

theorem lit_Sorted (A : Option Addr) (n c : Nat) (l : List Int) (w : World) (hn : n ≤ 1000000) (hr : Rd w A n (ivs l)) :
    Calls Try.prog 87 #[.slice A n c] w fun e w' => ∃ v, e = .returned v ∧ w'.ownsRow w.heap.size 3 1 v (srt l).length (ivs (srt l)) ∧ Below w.heap.size w w' := by
  have hl := hide hr.len
  go_enter Try.func87, Try.ntmps87
  go_wp2_with fail
  refine (slices_Clone _ _ _ l _ hn hr).mono ?_
  rintro e w1 ⟨v, rfl, hown, hb⟩
  rcases hown.2 with ⟨rfl, hx⟩ | ⟨g, cap, cur, rfl, hbg, hg, hnc, hcm, hcs, htake⟩
  · have hl0 : l = [] := List.eq_nil_of_length_eq_zero (by have := hl.out; omega)
    subst hl0
    have hn0 : n = 0 := hl.out.symm
    subst hn0
    clear hown hx hl
    go_wp2_with fail
    refine (Try.slices_Sort_int_none _ _ _).mono ?_
    rintro e w2 ⟨rfl, rfl⟩
    go_wp2_with fail
    refine (Try.slices_Compact_int_empty _ _ _).mono ?_
    rintro e w3 ⟨rfl, rfl⟩
    go_wp2
    go_ret
    exact ⟨_, rfl, World.ownsRow_nil _ _ _ _, hb⟩
  · have hn' : n = l.length := hl.out.symm
    subst hn'
    have hg' : g < w1.heap.size := (Array.getElem?_eq_some_iff.1 hg).1
    have htake' : cur.toList.take l.length = l.map (Value.int .i64) := by rw [Nat.mul_one] at htake; exact htake
    have hH := Go.holds_of_blockI hg htake'
    clear hown hl
    go_wp2_with fail
    refine (Try.slices_Sort_int g 0 cap l _ hH hg' (by omega)).mono ?_
    rintro e w2 ⟨rfl, q, os, hw2⟩
    obtain ⟨sl, hsl⟩ : ∃ sl, sl = l.mergeSort fun x y => decide (x ≤ y) := ⟨_, rfl⟩
    have hs : Lib.compact sl = srt l := by rw [hsl]; exact compact_sort l
    have hlen : sl.length = l.length := by rw [hsl]; exact List.length_mergeSort _
    rw [← hsl] at hw2
    obtain ⟨cur2, hg2, ht2, hz2⟩ : ∃ cur2, w2.heap[g]? = some (.cells cur2 3 (0, 0)) ∧ cur2.toList.take sl.length = sl.map (Value.int .i64) ∧ cur2.size = cur.size := by
      rw [hw2]
      exact ⟨_, Go.heap_sortedI _ hg, Go.take_putCellsI cur sl (by omega), by simp [Sort.putCells]⟩
    have hgr2 : w1.grownBy w2 (some g) := by rw [hw2]; exact Go.grownBy_sortedI _
    have hb2 : Below w.heap.size w w2 := hb.grown hgr2 hb.size (fun k hk => by cases hk; exact hbg)
    have hC := Try.slices_Compact_int g 0 cap sl w2 (Go.holds_of_blockI hg2 ht2) (by omega) (by omega)
    rw [hlen] at hC
    rw [hs] at hC
    have hk : (srt l).length ≤ l.length := srt_len l
    have hG := hide (show ∀ (w3 : World) (q : Nat), w3 = Sort.putRow (Value.int .i64) (Sort.ahead w2 q) g 0 (srt l ++ List.replicate (l.length - (srt l).length) 0).toArray →
        w3.ownsRow w.heap.size 3 1 (.slice (some ⟨g, 0, none⟩) (srt l).length cap) (srt l).length (ivs (srt l)) ∧ Below w.heap.size w w3 by
      intro w3 q3 e3
      have hlz : (srt l ++ List.replicate (l.length - (srt l).length) 0).length = l.length := by rw [List.length_append, List.length_replicate]; omega
      obtain ⟨cur3, hg3, ht3, hz3⟩ : ∃ cur3, w3.heap[g]? = some (.cells cur3 3 (0, 0)) ∧ cur3.toList.take l.length = (srt l ++ List.replicate (l.length - (srt l).length) 0).map (Value.int .i64) ∧ cur3.size = cur2.size := by
        have h1 := Go.heap_sortedI (n := q3) (os := #[]) (srt l ++ List.replicate (l.length - (srt l).length) 0).toArray hg2
        rw [Sort.grow_empty, ← e3] at h1
        refine ⟨_, h1, ?_, by simp [Sort.putCells]⟩
        have h2 := Go.take_putCellsI cur2 (srt l ++ List.replicate (l.length - (srt l).length) 0) (by omega)
        rw [hlz] at h2
        exact h2
      have hgr3 : w2.grownBy w3 (some g) := by
        have h1 := Go.grownBy_sortedI (w := w2) (g := g) (n := q3) (os := #[]) (srt l ++ List.replicate (l.length - (srt l).length) 0).toArray
        rw [Sort.grow_empty, ← e3] at h1
        exact h1
      refine ⟨⟨by rw [ivs_len, Nat.mul_one], .inr ⟨g, cap, cur3, rfl, hbg, hg3, by omega, hcm, by omega, ?_⟩⟩, hb2.grown hgr3 hb2.size (fun k hk => by cases hk; exact hbg)⟩
      have h4 : (cur3.toList.take l.length).take (srt l).length = ((srt l ++ List.replicate (l.length - (srt l).length) 0).map (Value.int .i64)).take (srt l).length := by rw [ht3]
      rw [List.take_take, Nat.min_eq_left hk, ← List.map_take, List.take_left] at h4
      rw [Nat.mul_one]
      exact h4)
    clear hw2 hsl hs hlen hH hg hg' htake htake' hcs hg2 ht2 hz2 hgr2 hb2 hb hnc hr hk hn hcm hbg
    go_wp2_with fail
    refine hC.mono ?_
    rintro e w3 ⟨rfl, q3, e3⟩
    have hG := hide (hG.out w3 q3 e3)
    clear hC e3
    go_wp2
    go_ret
    exact ⟨_, rfl, hG.out.1, hG.out.2⟩
end Go.Proofs.Ytcjoohaagdihlaa.Sorted
end

section
/- A region that draws its order in a round of a range over a function: by one invariant. No program in sight. -/
namespace Go.Lt
open Go.RowKit
set_option linter.unusedVariables false
set_option linter.unusedSimpArgs false

section
variable {P : Program} {ops : Array Oper} {Q : Exit → Act → World → Prop} {md : Region.Mode} {l n : Nat}
theorem oper_wpIn_of {o : Oper} {a : Act} {w : World} {K : Act → World → Prop} (hd : ∀ c, o.op ≠ .defer c) (h : o.wp P a w K Q) : o.wpIn (Fence.wide.inRound l) n P a w K Q := by
  unfold Oper.wpIn
  refine ⟨fun _ _ => trivial, ?_⟩
  rw [show (Fence.wide.inRound l).round = some l from rfl, Oper.semAt_some l _ o hd]
  unfold Oper.wp at h
  generalize (execOp a.eval o).run P w = r at h ⊢
  cases r with
  | ok x w' =>
    cases x with
    | value v => exact h
    | skip => exact h
    | defer d => exact h
    | enter f args => exact ⟨fun h => (by cases h), CallsIn.inRound l (callsIn_wide.2 h)⟩
    | row r args =>
      refine ⟨fun h => (by cases h), fun c cs _ => ?_⟩
      obtain ⟨v, w'', h1, h2⟩ := h c cs
      exact ⟨v, w'', h1, stepsIn_wide.2 h2⟩
    | _ => exact h.elim
  | halt x w' =>
    cases x <;> exact h
theorem wpOpIn_of {i : Nat} {a : Act} {w : World} {K : Act → World → Prop} (hd : ∀ o : Oper, ops[i]? = some o → ∀ c, o.op ≠ .defer c) (hQ : ¬ LetsOut Q) (h : wpOp P ops Q i K a w) : wpOpIn (Fence.wide.inRound l) n P ops Q i K a w := by
  unfold wpOp at h
  unfold wpOpIn
  cases ho : ops[i]? with
  | none => rw [ho] at h; exact h
  | some o =>
    rw [ho] at h
    dsimp only at h ⊢
    split
    · rename_i hw
      rw [if_pos hw] at h
      rcases h with h | h
      · exact oper_wpIn_of (hd o ho) h
      · exact absurd h.2 hQ
    · rename_i hw
      rw [if_neg hw] at h
      exact ⟨fun _ _ => trivial, h⟩
theorem wpAnyIn_of (hd : ∀ (i : Nat) (o : Oper), ops[i]? = some o → ∀ c, o.op ≠ .defer c) (hQ : ¬ LetsOut Q) : ∀ (fuel : Nat) (listed : Array Bool) (a : Act) (w : World), wpAny P md ops Q fuel listed a w → wpAnyIn (Fence.wide.inRound l) n P md ops Q fuel listed a w
  | 0, _, _, _, h => h
  | fuel + 1, _, _, _, h => ⟨h.1, fun i hi => wpOpIn_mono (fun a' w' h' => wpAnyIn_of hd hQ fuel _ a' w' h') (wpOpIn_of (hd i) hQ (h.2 i hi))⟩
def noDefer (ops : Array Oper) : Bool := ops.toList.all fun o => match o.op with | .defer _ => false | _ => true
theorem noDefer_spec (h : noDefer ops = true) : ∀ (i : Nat) (o : Oper), ops[i]? = some o → ∀ c, o.op ≠ .defer c := by
  intro i o ho c he
  have hm : o ∈ ops.toList := Array.mem_toList_iff.2 (Array.mem_of_getElem? ho)
  have := List.all_eq_true.1 h o hm
  rw [he] at this
  cases this
theorem wpAny_of_inv3 {a : Act} {w : World} (I : (Nat → Prop) → Act → World → Prop)
    (hwf : (ops.toList.zipIdx.all fun p => p.1.after.all fun e => !Region.binds .any e || decide (e.on < p.2)) = true)
    (h0 : I (fun j => ops.size ≤ j) a w.drew)
    (hstep : ∀ D a w i, i < ops.size → ¬ D i → (∀ j, depsB ops i j = true → D j) → I D a w → wpOp P ops Q i (fun a' w' => I (fun j => j = i ∨ D j) a' w') a w)
    (hdone : ∀ D a w, (∀ j, D j) → I D a w → Q .normal a w) : wpAny P .any ops Q ops.size (Array.replicate ops.size false) a w.drew := by
  refine wpAny_inv3 I (fun j o ho e he hb => ?_) (fun D a w i o ho hn hd hI => hstep D a w i (Array.getElem?_eq_some_iff.1 ho).1 hn (fun j hj => ?_) hI) hdone ops.size _ a _ (by simp) (by unfold leftN; simp [List.countP_replicate]) ?_
  · have hlt : j < ops.size := (Array.getElem?_eq_some_iff.1 ho).1
    have hp : (o, j) ∈ ops.toList.zipIdx := by
      rw [List.mem_iff_getElem?]
      exact ⟨j, by rw [List.getElem?_zipIdx, Array.getElem?_toList, ho]; simp⟩
    have h1 := List.all_eq_true.1 hwf _ hp
    have h2 := Array.all_eq_true_iff_forall_mem.1 h1 e he
    simpa [hb] using h2
  · unfold depsB at hj
    rw [ho] at hj
    simp only [Option.map_some, Option.getD_some] at hj
    rw [List.any_eq_true] at hj
    obtain ⟨e, he, h2⟩ := hj
    rw [Bool.and_eq_true, beq_iff_eq] at h2
    obtain ⟨h3, rfl⟩ := h2
    exact hd e (Array.mem_toList_iff.1 he) h3
  · have hfun : (fun j => (Array.replicate ops.size false).getD j true = true) = fun j => ops.size ≤ j := funext fun j => propext (by
      by_cases hj : j < ops.size
      · simp [Array.getD, hj]
      · simp [Array.getD, hj]; omega)
    rw [hfun]
    exact h0
/-- the law of one invariant, in a round -/
theorem wpIn_region_inv3 {id : Nat} {a : Act} {w : World} (I : (Nat → Prop) → Act → World → Prop) (hm : P.follows .mixedOrders = true)
    (hwf : (ops.toList.zipIdx.all fun p => p.1.after.all fun e => !Region.binds .any e || decide (e.on < p.2)) = true) (hnd : noDefer ops = true) (hQ : ¬ LetsOut Q)
    (h0 : I (fun j => ops.size ≤ j) a w.drew)
    (hstep : ∀ D a w i, i < ops.size → ¬ D i → (∀ j, depsB ops i j = true → D j) → I D a w → wpOp P ops Q i (fun a' w' => I (fun j => j = i ∨ D j) a' w') a w)
    (hdone : ∀ D a w, (∀ j, D j) → I D a w → Q .normal a w) : (Code.region id ops true).wpIn (Fence.wide.inRound l) n P Q a w :=
  wpIn_region_any hm (wpAnyIn_of (noDefer_spec hnd) hQ _ _ _ _ (wpAny_of_inv3 I hwf h0 hstep hdone))
end
end Go.Lt
end
