/- A nil store keeps nothing: the walk. -/
import Derived.Test.YtcjoohaagdihlaaStore12
import Derived.Test.YtcjoohaagdihlaaBig
namespace Go.Proofs.Ytcjoohaagdihlaa.Kept
open Go.RowKit Go.Shelf Go.Lt Go.Proofs.Ytcjoohaagdihlaa.Lit Go.Proofs.Ytcjoohaagdihlaa.CubeHas Go.Proofs.Ytcjoohaagdihlaa.Cube Go.Proofs.Ytcjoohaagdihlaa.Sorted
set_option linter.unusedVariables false
set_option linter.unusedSimpArgs false

set_option maxRecDepth 8000 in
set_option maxHeartbeats 1000000 in
theorem store_Add_nil (A : Option Addr) (n cc : Nat) (cl : List Int) (dep : Int) (v3 : Value) (w : World) (hrc : Rd w A n (ivs cl)) (hn : n ≤ 17592186044416) :
    Calls Try.prog 41 #[.pointer none, .slice A n cc, .int .i64 dep, v3] w fun e w' => e = .returned (.bool false) ∧ Below w.heap.size w w' := by
  have hbw : Below w.heap.size w ((w.alloc (.cells #[.int .i64 dep] 3)).alloc (.cells #[.bool false] 4)) := ((Below.refl w.heap.size w).alloc (Nat.le_refl _) _).alloc (by simp) _
  have hN := cube_NormB A n cc cl _ hn (hrc.below hbw (Nat.le_refl _))
  have b8 := Blk.new (w.alloc (.cells #[.int .i64 dep] 3)) 4 #[.bool false]
  rw [World.size_alloc] at b8
  refine (callsIn_wide (n := 10)).1 ?_
  refine callsIn_of_wp_marks Try.func41 rfl trivial ?_ rfl
  simp only [Try.ntmps41, List.size_toArray, List.length_cons, List.length_nil, Nat.reduceAdd, Nat.reduceSub, Array.replicate_succ, Array.replicate_zero, List.push_toArray, List.append_toArray, List.nil_append, List.cons_append]
  gi_wp2_with fail
  refine ⟨trivial, ?_⟩
  refine (callsIn_wide.2 hN).mono ?_
  rintro e W1 (⟨hnb, v, rfl, hrow, hb1⟩ | ⟨hnb, rfl, hb1⟩)
  · obtain ⟨s, rfl, hsn⟩ := own_sl hrow
    have hbl : Below w.heap.size w (W1.alloc (.cells #[s.val] 40)) := (hbw.trans (hb1.mono (by simp; omega))).alloc (by have := hb1.size; simp at this; omega) _
    have b8 := (b8.below hb1 b8.lt).alloc (.cells #[s.val] 40)
    have c8 : (W1.alloc (.cells #[s.val] 40)).cell? ⟨w.heap.size + 1, 0, none⟩ = some (.bool false) := b8.cell 0
    have f8 := b8.frozen 0
    clear hN hbw hsn hrow hrc hn
    gi_wp2
    have hb8 := b8.set_ 0 (.bool false)
    have k8 : ((W1.alloc (.cells #[s.val] 40)).setCell ⟨w.heap.size + 1, 0, none⟩ (.bool false)).cell? ⟨w.heap.size + 1, 0, none⟩ = some (.bool false) := hb8.cell 0
    refine ⟨.bool false, by simp [results, Try.results41, go_sem, k8], ?_⟩
    exact ⟨rfl, hbl.setCell (p := ⟨w.heap.size + 1, 0, none⟩) (by show w.heap.size ≤ w.heap.size + 1; omega) _⟩
  · have hbl : Below w.heap.size w (W1.alloc (.cells #[.slice none 0 0] 40)) := (hbw.trans (hb1.mono (by simp; omega))).alloc (by have := hb1.size; simp at this; omega) _
    have b8 := (b8.below hb1 b8.lt).alloc (.cells #[.slice none 0 0] 40)
    have c8 : (W1.alloc (.cells #[.slice none 0 0] 40)).cell? ⟨w.heap.size + 1, 0, none⟩ = some (.bool false) := b8.cell 0
    have f8 := b8.frozen 0
    clear hN hbw hrc hn
    gi_wp2
    have hb8 := b8.set_ 0 (.bool false)
    have k8 : ((W1.alloc (.cells #[.slice none 0 0] 40)).setCell ⟨w.heap.size + 1, 0, none⟩ (.bool false)).cell? ⟨w.heap.size + 1, 0, none⟩ = some (.bool false) := hb8.cell 0
    refine ⟨.bool false, by simp [results, Try.results41, go_sem, k8], ?_⟩
    exact ⟨rfl, hbl.setCell (p := ⟨w.heap.size + 1, 0, none⟩) (by show w.heap.size ≤ w.heap.size + 1; omega) _⟩
def sameK (a b : Kc) : Bool := sameI a.c b.c && decide (a.d = b.d) && sameB a.i b.i
set_option maxRecDepth 8000 in
set_option maxHeartbeats 1000000 in
theorem ref_Same (x y : Kv) (a b : Kc) (w : World) (hx : KvR w x a) (hy : KvR w y b) (h1 : x.c.n ≤ 1000000) (h2 : x.i.n ≤ 1000000) :
    Calls Try.prog 51 #[.agg x.cells, .agg y.cells] w fun e w' => e = .returned (.bool (sameK a b)) ∧ Below w.heap.size w w' := by
  have hdx := hx.d
  have hdy := hy.d
  have hbs : Below w.heap.size w ((w.alloc (.cells x.cells 66)).alloc (.cells y.cells 66)) := ((Below.refl w.heap.size w).alloc (Nat.le_refl _) _).alloc (by simp) _
  have bx := (Blk.new w 66 x.cells).alloc (.cells y.cells 66)
  have by' := Blk.new (w.alloc (.cells x.cells 66)) 66 y.cells
  rw [World.size_alloc] at by'
  obtain ⟨W1, hW1⟩ : ∃ W1, ((w.alloc (.cells x.cells 66)).alloc (.cells y.cells 66)) = W1 := ⟨_, rfl⟩
  rw [hW1] at hbs bx by'
  have a0 : W1.cell? ⟨w.heap.size, 0, none⟩ = some (.slice x.c.A x.c.n x.c.c) := bx.cell 0
  have a1 : W1.cell? ⟨w.heap.size, 1, none⟩ = some (.int .i64 x.d) := bx.cell 1
  have a2 : W1.cell? ⟨w.heap.size, 2, none⟩ = some (.slice x.i.A x.i.n x.i.c) := bx.cell 2
  have e0 : W1.cell? ⟨w.heap.size + 1, 0, none⟩ = some (.slice y.c.A y.c.n y.c.c) := by'.cell 0
  have e1 : W1.cell? ⟨w.heap.size + 1, 1, none⟩ = some (.int .i64 y.d) := by'.cell 1
  have e2 : W1.cell? ⟨w.heap.size + 1, 2, none⟩ = some (.slice y.i.A y.i.n y.i.c) := by'.cell 2
  have hI := ref_Ints x.c.A y.c.A x.c.n y.c.n x.c.c y.c.c a.c b.c W1 h1 (hx.c.below hbs (Nat.le_refl _)) (hy.c.below hbs (Nat.le_refl _))
  have hxi := hide (hx.i.below hbs (Nat.le_refl _))
  have hyi := hide (hy.i.below hbs (Nat.le_refl _))
  replace h2 := hide h2
  replace hbs := hide hbs
  clear hx hy bx by' h1
  unfold sameK
  rw [← hdx, ← hdy]
  clear hdx hdy
  cases hi : sameI a.c b.c with
  | false =>
    rw [hi] at hI
    clear hi
    go_enter Try.func51, Try.ntmps51
    go_wp2_with fail
    refine hI.mono ?_
    rintro e w' ⟨rfl, hdr⟩
    replace hbs := hide (hbs.out.trans (hdr.below _))
    clear hdr
    go_wp2
    go_ret
    exact ⟨rfl, hbs.out⟩
  | true =>
    rw [hi] at hI
    clear hi
    by_cases hd : x.d = y.d
    · have hdd : decide (x.d = y.d) = true := decide_eq_true hd
      have hf : (x.d == y.d) = true := by simp [hd]
      rw [hdd]
      have hd := hide hd
      clear hdd
      go_enter Try.func51, Try.ntmps51
      go_wp2_with fail
      refine hI.mono ?_
      rintro e w2 ⟨rfl, hdr⟩
      have hB := bits_Same x.i.A y.i.A x.i.n y.i.n x.i.c y.i.c a.i b.i w2 h2.out (hdr.rd hxi.out) (hdr.rd hyi.out)
      replace hbs := hide (hbs.out.trans (hdr.below _))
      have a1 := (hdr.cell _).trans a1
      have a2 := (hdr.cell _).trans a2
      have e1 := (hdr.cell _).trans e1
      have e2 := (hdr.cell _).trans e2
      clear hdr
      go_wp2_with fail
      refine hB.mono ?_
      rintro e w3 ⟨rfl, hdr⟩
      replace hbs := hide (hbs.out.trans (hdr.below _))
      clear hdr
      go_wp2
      go_ret
      exact ⟨by simp, hbs.out⟩
    · have hdd : decide (x.d = y.d) = false := decide_eq_false hd
      have hf : (x.d == y.d) = false := by simp [hd]
      rw [hdd]
      clear hdd
      go_enter Try.func51, Try.ntmps51
      go_wp2_with fail
      refine hI.mono ?_
      rintro e w2 ⟨rfl, hdr⟩
      replace hbs := hide (hbs.out.trans (hdr.below _))
      have a1 := (hdr.cell _).trans a1
      have e1 := (hdr.cell _).trans e1
      clear hdr
      go_wp2
      go_ret
      exact ⟨by simp, hbs.out⟩
set_option maxRecDepth 8000 in
set_option maxHeartbeats 2000000 in
/-- a nil store keeps nothing -/
theorem nones (A : Option Addr) (n c : Nat) (cl : List Int) (dep : Int) (B : Option Addr) (m cd : Nat) (s : List Bool) (w : World) (hn : n ≤ 17592186044416) (hrc : Rd w A n (ivs cl)) (hrs : Rd w B m (bvs s)) :
    Calls Try.prog 9 #[.slice A n c, .int .i64 dep, .slice B m cd] w fun e w' => e = .returned (.bool true) ∧ Below w.heap.size w w' := by
  have hK : ∀ W : World, Keeps W.heap.size W none [] := fun W => .inl ⟨rfl, rfl⟩
  have hA : ∀ W : World, AllK W [] [] := fun W => ⟨rfl, fun j hj => absurd hj (Nat.not_lt_zero _)⟩
  have hG : GoodL [] := fun _ h => by cases h
  replace hK := hide hK
  replace hA := hide hA
  replace hG := hide hG
  go_enter Try.func9, Try.ntmps9
  go_wp2_with fail
  refine (store_FindE none [] [] s B m cd _ (hK.out _) (hA.out _) hrs (fun h => absurd rfl h) hG.out (by decide)).mono ?_
  rintro e w1 ⟨x, rfl, hd, hc, hi, hb1⟩
  have hkv : KvR w1 x zKc := (show KvO w.heap.size w1 x zKc from ⟨hd, hc, hi⟩).rd
  replace hd : x.d = 0 := hd
  have hcn : x.c.n = 0 := hkv.c.len.symm
  have hin : x.i.n = 0 := hkv.i.len.symm
  replace hb1 := hide hb1
  have ba := (Below.refl w1.heap.size w1).alloc (Nat.le_refl _) (.cells x.cells 66)
  have bX := Blk.new w1 66 x.cells
  have hkv := hide (hkv)
  have HX := hide hd
  have HC := hide hcn
  have HI := hide hin
  clear hc hi hd hcn hin
  simp only [Option.map_none, Option.isSome_none, bestN, List.range_zero, List.foldl_nil, List.length_nil]
  go_wp2_with fail
  have hbw := hide (hb1.out.trans (ba.mono hb1.out.size))
  have hkv := hide (hkv.out.below ba (Nat.le_refl _))
  have b0 : (w1.alloc (.cells x.cells 66)).cell? ⟨w1.heap.size, 0, none⟩ = some x.c.val := bX.cell 0
  have b1 : (w1.alloc (.cells x.cells 66)).cell? ⟨w1.heap.size, 1, none⟩ = some (.int .i64 x.d) := bX.cell 1
  have b2 : (w1.alloc (.cells x.cells 66)).cell? ⟨w1.heap.size, 2, none⟩ = some x.i.val := bX.cell 2
  clear ba bX hb1
  obtain ⟨w2, hw2⟩ : ∃ w2, w1.alloc (.cells x.cells 66) = w2 := ⟨_, rfl⟩
  rw [hw2] at hbw hkv b0 b1 b2
  refine (store_Add_nil A n c cl dep (.slice none 0 0) _ (hrc.below (show Below w.heap.size w (w1.alloc (.cells x.cells 66)) by rw [hw2]; exact hbw.out) (Nat.le_refl _)) hn).mono ?_
  rintro e w3 ⟨rfl, hb3⟩
  rw [hw2] at hb3
  have hkv := hide (hkv.out.below hb3 (Nat.le_refl _))
  have b0 := keepCell hb3 b0
  have b1 := keepCell hb3 b1
  have b2 := keepCell hb3 b2
  have hbw := hide (hbw.out.trans (hb3.mono hbw.out.size))
  have hNl := hide hw2
  clear hb3 hw2 hn hrc
  go_wp2_with fail
  refine (ref_Same x zKv zKc zKc w3 hkv.out ⟨rfl, Rd.nil _ _, Rd.nil _ _⟩ (by rw [HC.out]; decide) (by rw [HI.out]; decide)).mono ?_
  rintro e w4 ⟨rfl, hb4⟩
  have hbw := hide (hbw.out.trans (hb4.mono hbw.out.size))
  rw [show sameK zKc zKc = true by decide]
  clear hb4 b0 b1 b2 hkv
  go_wp2_with fail
  refine (store_DepthE none [] [] s B m cd w4 (hK.out _) (hA.out _) (hrs.below hbw.out (Nat.le_refl _)) (fun h => absurd rfl h) hG.out (by decide)).mono ?_
  rintro e w5 ⟨rfl, hb5⟩
  rw [show depthL [] s = -1 from rfl]
  have hbw := hide (hbw.out.trans (hb5.mono hbw.out.size))
  clear hb5
  go_wp2_with fail
  refine (store_List none [] [] w5 (hK.out _) (hA.out _) hG.out (by decide)).mono ?_
  rintro e w6 ⟨v, rfl, hrow, hb6⟩
  obtain ⟨s6, rfl, hs6⟩ := hrow.sl
  have hs6 : s6.n = 0 := hs6
  have hbw := hide (hbw.out.trans (hb6.mono hbw.out.size))
  clear hb6 hrow
  go_wp2_with fail
  refine (store_At none [] [] dep w6 (hK.out _) (hA.out _) hG.out (by decide)).mono ?_
  rintro e w7 ⟨v, rfl, hrow, hb7⟩
  obtain ⟨s7, rfl, hs7⟩ := hrow.sl
  replace hs7 : s7.n = 0 := hs7
  have hbw := hide (hbw.out.trans (hb7.mono hbw.out.size))
  clear hb7 hrow
  go_wp2_with fail
  refine (store_Len none [] w7.heap.size w7 (hK.out _) (by decide)).mono ?_
  rintro e w' ⟨rfl, rfl⟩
  go_wp2_with fail
  refine (store_Clone_nil w7).mono ?_
  rintro e w' ⟨rfl, rfl⟩
  go_wp2_with fail
  refine (law_lives w7).mono ?_
  rintro e w8 ⟨rfl, hb8⟩
  have hbw := hide (hbw.out.trans (hb8.mono hbw.out.size))
  clear hb8
  go_wp2
  go_ret
  exact ⟨rfl, hbw.out⟩
end Go.Proofs.Ytcjoohaagdihlaa.Kept
