/- The document's Find on kept cubes. -/
import Derived.Test.YtcjoohaagdihlaaStore14
namespace Go.Proofs.Ytcjoohaagdihlaa.Kept
open Go.RowKit Go.Shelf Go.Lt Go.Proofs.Ytcjoohaagdihlaa.Lit Go.Proofs.Ytcjoohaagdihlaa.CubeHas Go.Proofs.Ytcjoohaagdihlaa.Cube Go.Proofs.Ytcjoohaagdihlaa.Sorted
set_option linter.unusedVariables false
set_option linter.unusedSimpArgs false

/-- where the best one is -/
def atZ : Option Nat → Int
  | none => -1
  | some j => j
theorem best_lt {l : List Kc} {s : List Bool} {n j : Nat} (h : bestN l s (List.range n) = some j) : j < n := List.mem_range.1 (bestN_mem _ h)
theorem best_succ (l : List Kc) (s : List Bool) (n : Nat) : bestN l s (List.range (n + 1)) = stepB l s (bestN l s (List.range n)) n := by rw [List.range_succ, bestN_snoc]
set_option maxRecDepth 20000 in
set_option maxHeartbeats 4000000 in
theorem ref_Find (A : Option Addr) (n c : Nat) (L : List Kv) (l : List Kc) (B : Option Addr) (m cd : Nat) (s : List Bool) (w : World) (hr : RdK w A n L) (hA : AllK w L l) (hn : n ≤ 1000) (hg : GoodL l) (hrs : Rd w B m (bvs s)) (hm : m ≤ 1000) :
    Calls Try.prog 49 #[.slice A n c, .slice B m cd] w fun e w' => e = .returned (.int .i64 (atZ (bestN l s (List.range n)))) ∧ Dr w w' := by
  have hnn := hide hr.1
  have hLl := hide (show n = l.length from hr.1.symm.trans hA.1)
  have hnI : (n : Int) ≤ 1000 := by omega
  replace hA := hide hA
  replace hg := hide hg
  go_enter Try.func49, Try.ntmps49
  go_wp2
  go_loopw [5, 6] (fun b i wr => ∃ (k : Nat) (o : Option Nat), k ≤ n ∧ i = .int .i64 k ∧ b = .int .i64 (atZ o) ∧ Hid (bestN l s (List.range k) = o) ∧ Dr w wr) (fun _ i _ => n - (intOf i).toNat)
  case atStart => exact ⟨0, none, Nat.zero_le _, rfl, rfl, rfl, Dr.refl _⟩
  case round =>
    obtain ⟨k, o, hk, rfl, rfl, ho, hd⟩ := hrel
    have hkI : (k : Int) ≤ 1000 := by omega
    by_cases hlt : k < n
    · obtain ⟨ad, x, rfl, hB, hx, c0, c1, c2⟩ := hr.get hlt
      have hxk := hA.out.2 k (by rw [hnn.out]; exact hlt)
      rw [kvAt_is hx] at hxk
      have hgk := hg.out.at (j := k) (by have := hLl.out; omega)
      have hcl : (kcAt l k).c.length = x.c.n := hxk.c.len
      have hcn : x.c.n ≤ 1000000 := by have := hgk.c; omega
      have hdx : x.d = (kcAt l k).d := hxk.d
      have c0 := (hd.cell _).trans c0
      have c1 := (hd.cell _).trans c1
      have HS := hide (best_succ l s k)
      rw [ho.out] at HS
      have hlo := hide (fun j (h : o = some j) => (best_lt (n := k) (by rw [ho.out]; exact h)))
      cases hh : hasS (kcAt l k).c s with
      | false =>
        have hN := hide (show bestN l s (List.range (k + 1)) = o by rw [HS.out, stepB_no hh])
        have H := hide (fun q => hasS_is (cc := x.c.c) (cd := cd) hcn (show m ≤ 1000000 by omega) (Dr.rd (hd.more q) hxk.c) (Dr.rd (hd.more q) hrs) hgk.w hh)
        clear hx hxk hcl hdx HS hgk hh c2 hB ho hlo
        go_wp2
        go_quiet ((go_at_call 43; exact quiet_dr (H.out _)))
        go_wp2
        go_roundw
        case rel => exact ⟨k + 1, o, hlt, by go_num, rfl, hN.out, hd.more _⟩
        case measure => simp [intOf]; omega
      | true =>
        have H := hide (fun q => hasS_is (cc := x.c.c) (cd := cd) hcn (show m ≤ 1000000 by omega) (Dr.rd (hd.more q) hxk.c) (Dr.rd (hd.more q) hrs) hgk.w hh)
        rcases o with _ | j
        · have hN := hide (show bestN l s (List.range (k + 1)) = some k by rw [HS.out, stepB_none hh])
          have d0 : decide (atZ none < 0) = true := by decide
          have e0 : atZ none = -1 := rfl
          rw [e0] at d0 ⊢
          clear hx hxk hcl hdx HS hgk hh c2 hB ho hlo e0
          go_wp2
          go_quiet ((go_at_call 43; exact quiet_dr (H.out _)))
          go_wp2
          go_roundw
          case rel => exact ⟨k + 1, some k, hlt, by go_num, rfl, hN.out, hd.more _⟩
          case measure => simp [intOf]; omega
        · have hjk := hlo.out j rfl
          have hjn : j < n := by omega
          obtain ⟨ad', y, hA', hB', hy, e0, e1, e2⟩ := hr.get hjn
          injection hA' with hA'
          subst hA'
          have hyk := hA.out.2 j (by rw [hnn.out]; exact hjn)
          rw [kvAt_is hy] at hyk
          have hdy : y.d = (kcAt l j).d := hyk.d
          have e1 := (hd.cell _).trans e1
          have z0 : atZ (some j) = (j : Int) := rfl
          have d0 : decide ((j : Int) < 0) = false := by rw [decide_eq_false_iff_not]; omega
          have hjI : (j : Int) ≤ 1000 := by omega
          rw [z0]
          by_cases hdd : x.d < y.d
          · have hN := hide (show bestN l s (List.range (k + 1)) = some k by rw [HS.out, stepB_lt hh (by rw [← hdx, ← hdy]; exact hdd)])
            have d1 : decide (x.d < y.d) = true := decide_eq_true hdd
            clear hx hxk hcl hdx HS hgk hh c2 hB ho hlo hy hyk hdy e0 e2 z0 hB'
            go_wp2
            go_quiet ((go_at_call 43; exact quiet_dr (H.out _)))
            go_wp2
            go_roundw
            case rel => exact ⟨k + 1, some k, hlt, by go_num, rfl, hN.out, hd.more _⟩
            case measure => simp [intOf]; omega
          · have hN := hide (show bestN l s (List.range (k + 1)) = some j by rw [HS.out, stepB_ge (by rw [← hdx, ← hdy]; exact hdd)])
            have d1 : decide (x.d < y.d) = false := decide_eq_false hdd
            clear hx hxk hcl hdx HS hgk hh c2 hB ho hlo hy hyk hdy e0 e2 z0 hB'
            go_wp2
            go_quiet ((go_at_call 43; exact quiet_dr (H.out _)))
            go_wp2
            go_roundw
            case rel => exact ⟨k + 1, some j, hlt, by go_num, rfl, hN.out, hd.more _⟩
            case measure => simp [intOf]; omega
    · have hkn : n = k := by omega
      subst hkn
      have HO := hide (show atZ o = atZ (bestN l s (List.range n)) by rw [ho.out])
      go_wp2
      go_ret
      exact ⟨ret_int HO.out, hd⟩
end Go.Proofs.Ytcjoohaagdihlaa.Kept
