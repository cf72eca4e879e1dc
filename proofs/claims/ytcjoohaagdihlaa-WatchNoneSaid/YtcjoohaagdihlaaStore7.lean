/- Deleting from a row of kept cubes, in place, by a function. -/
import Derived.Test.YtcjoohaagdihlaaStore5
import Derived.Test.YtcjoohaagdihlaaCovers
import Derived.Laws.CopyRow
namespace Go.Proofs.Ytcjoohaagdihlaa.Kept
open Go.RowKit Go.Shelf Go.Lt Go.Proofs.Ytcjoohaagdihlaa.Lit Go.Proofs.Ytcjoohaagdihlaa.CubeHas Go.Proofs.Ytcjoohaagdihlaa.Cube
set_option linter.unusedVariables false
set_option linter.unusedSimpArgs false

/-- what the closure tells: no lesser depth, and covered -/
def strikes (dep : Int) (n : List Int) (k : Kc) : Bool := decide (k.d ≥ dep) && covB n k.c
set_option maxRecDepth 8000 in
set_option maxHeartbeats 2000000 in
theorem store_strikes (x : Kv) (k : Kc) (dep : Int) (a b : Nat) (s : Sl) (n : List Int) (w : World) (ha : w.cell? ⟨a, 0, none⟩ = some (.int .i64 dep)) (hb : w.cell? ⟨b, 0, none⟩ = some s.val) (hs : Rd w s.A s.n (ivs n)) (hsn : n.length ≤ 1000000) (hk : KvR w x k) (hkn : k.c.length ≤ 1000000) :
    Calls Try.prog 104 #[.agg x.cells, .pointer (some ⟨a, 0, none⟩), .pointer (some ⟨b, 0, none⟩)] w fun e w' => e = .returned (.bool (strikes dep n k)) ∧ Below w.heap.size w w' := by
  have hd := hk.d
  have hkl : k.c.length = x.c.n := hk.c.len
  have hnl : n.length = s.n := hs.len
  have hla := World.block_lt_of_cell? _ _ ha
  have hlb := World.block_lt_of_cell? _ _ hb
  have hbs := (Below.refl w.heap.size w).alloc (Nat.le_refl _) (.cells x.cells 66)
  have hcv := cube_Covers s.A x.c.A s.n x.c.n s.c x.c.c n k.c (w.alloc (.cells x.cells 66)) (by omega) (by omega) (hs.below hbs (Nat.le_refl _)) (hk.c.below hbs (Nat.le_refl _))
  have bX := Blk.new w 66 x.cells
  have c0 : (w.alloc (.cells x.cells 66)).cell? ⟨w.heap.size, 0, none⟩ = some (.slice x.c.A x.c.n x.c.c) := bX.cell 0
  have c1 : (w.alloc (.cells x.cells 66)).cell? ⟨w.heap.size, 1, none⟩ = some (.int .i64 x.d) := bX.cell 1
  have ha := keepCell hbs ha
  have hb := keepCell hbs hb
  unfold strikes
  rw [← hd]
  clear hd hk bX hs
  obtain ⟨W1, hW1⟩ : ∃ W1, (w.alloc (.cells x.cells 66)) = W1 := ⟨_, rfl⟩
  rw [hW1] at hbs hcv c0 c1 ha hb
  by_cases hge : x.d ≥ dep
  · have hd1 : decide (x.d ≥ dep) = true := decide_eq_true hge
    rw [hd1]
    have hge2 : dep ≤ x.d := hge
    cases hc : covB n k.c <;> rw [hc] at hcv
    all_goals
      clear hc
      go_enter Try.func104, Try.ntmps104
      go_wp2_with (go_at_call 102; refine hcv.mono ?_; rintro e w' ⟨rfl, rfl⟩)
      go_ret
      exact ⟨rfl, hbs⟩
  · have hd1 : decide (x.d ≥ dep) = false := decide_eq_false hge
    rw [hd1]
    have hge2 : ¬ dep ≤ x.d := hge
    clear hcv
    go_enter Try.func104, Try.ntmps104
    go_wp2
    go_ret
    exact ⟨rfl, hbs⟩
def IdxIs (p : Nat → Bool) (m : Nat) (w : World) (e : Ending) (w' : World) : Prop :=
  (e = .returned (.int .i64 (-1)) ∧ (∀ j, j < m → p j = false) ∧ Below w.heap.size w w') ∨ (∃ k : Nat, k < m ∧ e = .returned (.int .i64 k) ∧ p k = true ∧ (∀ j, j < k → p j = false) ∧ Below w.heap.size w w')
set_option maxRecDepth 8000 in
set_option maxHeartbeats 2000000 in
theorem idx_fn (A : Option Addr) (c : Nat) (L : List Kv) (p : Nat → Bool) (f1 f2 : Value) (w : World) (hr : RdK w A L.length L) (hm : L.length ≤ 1000000)
    (hp : ∀ W, Below w.heap.size w W → ∀ j, j < L.length → Calls Try.prog 104 #[.agg (kvAt L j).cells, f1, f2] W fun e W' => e = .returned (.bool (p j)) ∧ Below W.heap.size W W') :
    Calls Try.prog 135 #[.slice A L.length c, .func (.func 104) #[] #[f1, f2]] w (IdxIs p L.length w) := by
  have hmI : (L.length : Int) ≤ 1000000 := by omega
  go_enter Try.func135, Try.ntmps135
  go_wp2
  go_loopw [8] (fun i wr => ∃ k : Nat, k ≤ L.length ∧ i = .int .i64 k ∧ Below w.heap.size w wr ∧ Hid (∀ j, j < k → p j = false)) (fun i _ => L.length - (intOf i).toNat)
  case atStart => exact ⟨0, Nat.zero_le _, rfl, Below.refl _ _, hide (fun j hj => absurd hj (Nat.not_lt_zero _))⟩
  case round =>
    obtain ⟨k, hk, rfl, hb, hno⟩ := hrel
    by_cases hlt : k < L.length
    · have hltI : (k : Int) < L.length := by omega
      obtain ⟨ad, x, rfl, hB, hx, c0, c1, c2⟩ := hr.get hlt
      have hx' : kvAt L k = x := by unfold kvAt; rw [List.getD_eq_getElem?_getD, hx]; rfl
      have c0 := (hb.cell (p := ad.add (k * 3)) (by rw [add_block]; exact hB)).trans c0
      have c1 := (hb.cell (p := ⟨(ad.add (k * 3)).block, (ad.add (k * 3)).off + 1, none⟩) (by rw [add_block]; exact hB)).trans c1
      have c2 := (hb.cell (p := ⟨(ad.add (k * 3)).block, (ad.add (k * 3)).off + 2, none⟩) (by rw [add_block]; exact hB)).trans c2
      have hcall := hp wr hb k hlt
      rw [hx'] at hcall
      clear hx hx'
      cases hpk : p k with
      | true =>
        have HP := hide hpk
        rw [hpk] at hcall
        clear hpk
        go_wp2_with (go_at_call 104; refine hcall.mono ?_; rintro e w2 ⟨rfl, hb2⟩)
        go_ret
        exact .inr ⟨k, hlt, rfl, HP.out, hno.out, hb.trans (hb2.mono hb.size)⟩
      | false =>
        have HP := hide hpk
        rw [hpk] at hcall
        clear hpk
        go_wp2_with (go_at_call 104; refine hcall.mono ?_; rintro e w2 ⟨rfl, hb2⟩)
        go_roundw
        case rel => exact ⟨k + 1, by omega, by simp, hb.trans (hb2.mono hb.size), hide (fun j hj => by
          by_cases h1 : j = k
          · rw [h1]; exact HP.out
          · exact hno.out j (by omega))⟩
        case measure => simp [intOf]; omega
    · obtain rfl : k = L.length := by omega
      go_wp2
      go_ret
      exact .inl ⟨rfl, hno.out, hb⟩
end Go.Proofs.Ytcjoohaagdihlaa.Kept
