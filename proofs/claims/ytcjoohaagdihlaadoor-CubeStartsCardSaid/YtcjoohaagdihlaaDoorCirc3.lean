/- Contracts on what a gate waits for, on a literal by its place. -/
import Derived.Test.YtcjoohaagdihlaaDoorCirc2
namespace Go.Proofs.YtcjoohaagdihlaaDoor.Circ
open Go.RowKit Go.Lt Go.Proofs.YtcjoohaagdihlaaDoor.Lit Go.Proofs.YtcjoohaagdihlaaDoor.CubeHas Go.Proofs.YtcjoohaagdihlaaDoor.CubeStart
set_option linter.unusedVariables false
set_option linter.unusedSimpArgs false

/-- the gates' literals are small -/
def Rng (c : Ci) : Prop := ∀ x ∈ c.gat, (0 ≤ x.a ∧ x.a ≤ 1000) ∧ (0 ≤ x.b ∧ x.b ≤ 1000) ∧ 0 ≤ x.c ∧ x.c ≤ 1000
def SomeB (w : World) (e : Ending) (w' : World) : Prop := ∃ b : Bool, e = .returned (.bool b) ∧ Below w.heap.size w w'
set_option maxHeartbeats 4000000 in
theorem ref_waits (v : Cv) (c : Ci) (B : Option Addr) (d : Nat) (told : List Bool) (y : Int) (w : World) (hg : v.gat.n ≤ 30) (hr : Rng c) (h0 : 0 ≤ y) (h1 : y ≤ 1000) (hi : CiIs w v c) (hrb : Rd w B v.gat.n (bvs told)) :
    Calls Tryd.prog 150 #[.agg (cells9 c.max v), .slice B v.gat.n d, .int .i64 y] w (SomeB w) := by
  have hb1 := (Below.refl w.heap.size w).alloc (Nat.le_refl _) (.cells (cells9 c.max v) 27)
  have q1 := Blk.new w 27 (cells9 c.max v)
  have hi1 := hi.below hb1 (Nat.le_refl _)
  obtain ⟨W1, hW1⟩ : ∃ W1, w.alloc (.cells (cells9 c.max v) 27) = W1 := ⟨_, rfl⟩
  rw [hW1] at hb1 q1 hi1
  have hlt1 : w.heap.size < W1.heap.size := q1.lt
  have hb1 := hide hb1
  have hrb1 := hrb.below hb1.out (Nat.le_refl _)
  have cB : W1.cell? ⟨w.heap.size, 6, none⟩ = some (.slice v.gat.A v.gat.n v.gat.c) := q1.cell 6
  have hR := hide hr
  clear hr hi hrb
  go_enter Tryd.func150, Tryd.ntmps150
  go_wp2
  go_loop [7] (fun i => ∃ k : Nat, k ≤ v.gat.n ∧ i = .int .i64 k) (fun i => v.gat.n - (intOf i).toNat)
  case atStart => exact ⟨0, Nat.zero_le _, rfl⟩
  case round =>
    obtain ⟨k, hk, rfl⟩ := hrel
    have hkI : (k : Int) ≤ 30 := by omega
    by_cases hlt : k < v.gat.n
    · have hltI : (k : Int) < v.gat.n := by omega
      obtain ⟨ad, x, hA, hB, hx, c0, c1, c2⟩ := hi1.gat.get hlt
      obtain ⟨ad2, t, rfl, hB2, ht, hct⟩ := hrb1.get hlt
      rw [hA] at cB
      obtain ⟨⟨r0, r1⟩, _⟩ := hR.out x (List.mem_of_getElem? hx)
      clear hx ht c1 c2
      cases t
      · obtain ⟨e, he⟩ : ∃ e, (x.a / 2 == y / 2) = e := ⟨_, rfl⟩
        have he2 : decide (x.a / 2 = y / 2) = e := he
        cases e
        · go_wp2
          go_round
          case rel => exact ⟨k + 1, hlt, by go_num⟩
          case measure => simp [intOf]; omega
        · go_wp2
          go_ret
          exact ⟨_, rfl, hb1.out⟩
      · go_wp2
        go_round
        case rel => exact ⟨k + 1, hlt, by go_num⟩
        case measure => simp [intOf]; omega
    · have hkn : k = v.gat.n := by omega
      have hkn' : ¬ (k : Int) < v.gat.n := by omega
      go_wp2
      go_ret
      exact ⟨_, rfl, hb1.out⟩
def SomeI (w : World) (e : Ending) (w' : World) : Prop := ∃ r : Int, e = .returned (.int .i64 r) ∧ Dr w w'
set_option maxHeartbeats 4000000 in
theorem ref_lit (A : Option Addr) (n k : Nat) (xs : List Int) (y : Int) (w : World) (h0 : 0 ≤ y) (h1 : y ≤ 1000) (h2 : y / 2 < n) (hr : Rd w A n (ivs xs)) :
    Calls Tryd.prog 129 #[.slice A n k, .int .i64 y] w (SomeI w) := by
  obtain ⟨q, hq⟩ := Int.eq_ofNat_of_zero_le (show 0 ≤ y / 2 by omega)
  obtain ⟨ad, x, rfl, hB, hx, hc⟩ := hr.get (show q < n by omega)
  have hqI : (q : Int) < n := by omega
  have hqI2 : (q : Int) ≤ 500 := by omega
  clear hx
  by_cases hy : y % 2 = 1
  · go_enter Tryd.func129, Tryd.ntmps129
    go_wp2
    go_quiet (fail)
    go_wp2
    go_ret
    exact ⟨_, rfl, (Dr.refl _).more _⟩
  · have hy2 : (y % 2 == 1) = false := by simpa using hy
    go_enter Tryd.func129, Tryd.ntmps129
    go_wp2
    go_ret
    exact ⟨_, rfl, Dr.refl _⟩
end Go.Proofs.YtcjoohaagdihlaaDoor.Circ
