/- The law on faults of one class. -/
import Derived.Test.YtcjoohaagdihlaaDoorFaultOuts
import Derived.Test.YtcjoohaagdihlaaDoorFaultLists1
import Derived.Deep.RegionHeld3
namespace Go.Proofs.YtcjoohaagdihlaaDoor.Fault
open Go.RowKit Go.Lt Go.Proofs.YtcjoohaagdihlaaDoor.Lit Go.Proofs.YtcjoohaagdihlaaDoor.Dec Go.Instr
set_option linter.unusedVariables false
set_option linter.unusedSimpArgs false

theorem bits_yes {A B : Option Addr} {n m c d : Nat} {a : List Bool} (w : World) (hn : n ≤ 1000000) (hra : Rd w A n (bvs a)) (hrb : Rd w B m (bvs a)) :
    Calls Tryd.prog 19 #[.slice A n c, .slice B m d] w fun e w' => e = .returned (.bool true) ∧ Dr w w' :=
  (bits_Same A B n m c d a a w hn hra hrb).mono fun e w' ⟨h1, h2⟩ => ⟨by rw [h1]; unfold sameB; rw [decide_eq_true rfl], h2⟩
theorem RdF.of_one {w : World} {g : Nat} {t : TypeId} {f : Ft} (h : Blk w g t #[.int .i64 f.v, .int .i64 f.p, .bool f.o]) : RdF w (some ⟨g, 0, none⟩) 1 [f] := by
  refine ⟨rfl, fun k hk => ?_⟩
  have : k = 0 := by omega
  subst this
  exact ⟨_, f, rfl, h.lt, rfl, h.cell 0, h.cell 1, h.cell 2⟩
/-- what is known between the steps -/
structure Sx (w : World) (f g : Ft) (ad : Addr) (W : World) : Prop where
  fb : Blk W w.heap.size 54 #[.int .i64 f.v, .int .i64 f.p, .bool f.o]
  al : ad.block < W.heap.size
  a0 : W.cell? ad = some (.int .i64 g.v)
  a1 : W.cell? ⟨ad.block, ad.off + 1, none⟩ = some (.int .i64 g.p)
  a2 : W.cell? ⟨ad.block, ad.off + 2, none⟩ = some (.bool g.o)
  bel : Below w.heap.size w W
theorem Sx.step {w W W' : World} {f g : Ft} {ad : Addr} (h : Sx w f g ad W) (hb : Below W.heap.size W W') : Sx w f g ad W' :=
  ⟨h.fb.below hb h.fb.lt, Nat.lt_of_lt_of_le h.al hb.size, (hb.cell h.al).trans h.a0, (hb.cell (p := ⟨ad.block, ad.off + 1, none⟩) h.al).trans h.a1, (hb.cell (p := ⟨ad.block, ad.off + 2, none⟩) h.al).trans h.a2, h.bel.trans (hb.mono h.bel.size)⟩

set_option maxRecDepth 4000 in
set_option maxHeartbeats 8000000 in
theorem sames (A C I : Option Addr) (n m ni c cc ci : Nat) (l : List Nd) (outs : List Int) (f : Ft) (ins : List Bool) (w : World) (hp : Pows w) (hn0 : n ≤ maxLen) (hm0 : m ≤ maxLen) (hni : ni ≤ maxLen) (hr : RdN w A n l) (hro : Rd w C m (ivs outs)) (hri : Rd w I ni (bvs ins)) :
    Calls Tryd.prog 6 #[.slice A n c, .slice C m cc, .agg #[.int .i64 f.v, .int .i64 f.p, .bool f.o], .slice I ni ci] w fun e w' => e = .returned (.bool true) ∧ Below w.heap.size w w' := by
  have bf := (Below.refl w.heap.size w).alloc (Nat.le_refl _) (.cells #[.int .i64 f.v, .int .i64 f.p, .bool f.o] 54)
  have q0 := Blk.new w 54 #[.int .i64 f.v, .int .i64 f.p, .bool f.o]
  have HS := hide (fun W a b => run_Small A C n m c cc 30 l outs W (by omega) hn0 hm0 a b)
  have hNi := hide hni
  clear hn0 hm0 hni
  go_enter Tryd.func6, Tryd.ntmps6
  go_wp2_with fail
  refine (HS.out _ (hr.below bf (Nat.le_refl _)) (hro.below bf (Nat.le_refl _))).mono ?_
  rintro e w1 (⟨rfl, hd⟩ | ⟨rfl, hd, hn, hg, hm, ho⟩)
  · have hb := hide (bf.trans (hd.below _))
    go_wp2_with fail
    refine (lives _ (hp.below hb.out)).mono ?_
    rintro e w2 ⟨rfl, hb2⟩
    have hb2 := hide (hb.out.trans (hb2.mono hb.out.size))
    go_wp2
    go_ret
    exact ⟨rfl, hb2.out⟩
  · clear HS
    have b1 := hide (bf.trans (hd.below _))
    have q1 := hide (q0.dr hd)
    have hN := hide (show n ≤ 1000 by omega)
    have hM := hide (show m ≤ 1000 by omega)
    clear hn hm hd q0 bf
    have cf0 : w1.cell? ⟨w.heap.size, 0, none⟩ = some (.int .i64 f.v) := q1.out.cell 0
    have cf1 : w1.cell? ⟨w.heap.size, 1, none⟩ = some (.int .i64 f.p) := q1.out.cell 1
    have cf2 : w1.cell? ⟨w.heap.size, 2, none⟩ = some (.bool f.o) := q1.out.cell 2
    cases hgf : goodF l f
    · have HG := hide (fun W hW => goodR_is (A := A) (n := n) (c := c) hgf (by have := hN.out; omega) W hW)
      clear hgf
      go_wp2_with fail
      refine (HG.out _ (hr.below b1.out (Nat.le_refl _))).mono ?_
      rintro e w2 ⟨rfl, hb2⟩
      have b2 := hide (b1.out.trans (hb2.mono b1.out.size))
      clear hb2 cf0 cf1 cf2
      go_wp2_with fail
      refine (lives _ (hp.below b2.out)).mono ?_
      rintro e w3 ⟨rfl, hb3⟩
      have b3 := hide (b2.out.trans (hb3.mono b2.out.size))
      go_wp2
      go_ret
      exact ⟨rfl, b3.out⟩
    · have HG := hide (fun W hW => goodR_is (A := A) (n := n) (c := c) hgf (by have := hN.out; omega) W hW)
      obtain ⟨g, hgl⟩ : ∃ g, lastF l.length (occs l l.length) outs f = g := ⟨_, rfl⟩
      obtain ⟨h1, h2⟩ := same_last hg.out ho.out ins (rank l.length f + 1) f (Nat.lt_succ_self _) hgf
      rw [hgl] at h1 h2
      have hco := hide (show collP l outs [f] = [g] by unfold collP; rw [coll_one hgf, hgl])
      have HG2 := hide (fun W hW => goodR_is (A := A) (n := n) (c := c) h1 (by have := hN.out; omega) W hW)
      have h2 := hide h2
      clear hgf hgl h1
      go_wp2_with fail
      refine (HG.out _ (hr.below b1.out (Nat.le_refl _))).mono ?_
      rintro e w2 ⟨rfl, hb2⟩
      have b2 := hide (b1.out.trans (hb2.mono b1.out.size))
      have q2 := hide (q1.out.below hb2 q1.out.lt)
      clear hb2 cf0 cf1 cf2 HG q1 b1
      have cf0 : w2.cell? ⟨w.heap.size, 0, none⟩ = some (.int .i64 f.v) := q2.out.cell 0
      have cf1 : w2.cell? ⟨w.heap.size, 1, none⟩ = some (.int .i64 f.p) := q2.out.cell 1
      have cf2 : w2.cell? ⟨w.heap.size, 2, none⟩ = some (.bool f.o) := q2.out.cell 2
      have ba := b2.out.alloc b2.out.size (.cells #[.int .i64 f.v, .int .i64 f.p, .bool f.o] 54)
      go_wp2_with fail
      refine (fault_Collapse A C _ n m 1 c cc _ l outs [f] _ hN.out hM.out (by omega) (hr.below ba (Nat.le_refl _)) (hro.below ba (Nat.le_refl _)) (RdF.of_one (Blk.new w2 _ _)) hg.out ho.out).mono ?_
      rintro e w3 ⟨v3, m3, rfl, hown3, hb3⟩
      have hm3 : m3 = 1 := by have h1 := hown3.1; rw [encF_len, hco.out] at h1; simp at h1; omega
      subst hm3
      obtain ⟨F3, c3, rfl, _, _, hr3⟩ := RdF.of_own hown3
      obtain ⟨ad, x, rfl, hBl, hx, hc0, hc1, hc2⟩ := hr3.get (k := 0) (by omega)
      rw [hco.out] at hx
      injection hx with hx
      subst hx
      have ez : ad.add 0 = ad := by unfold Addr.add; rw [if_pos rfl]
      simp only [Nat.zero_mul, ez] at hc0 hc1 hc2
      have HF := hide (show Sx w f g ad w3 from ⟨(q2.out.alloc _).below hb3 (q2.out.alloc _).lt, hBl, hc0, hc1, hc2, ba.trans (hb3.mono ba.size)⟩)
      clear hown3 hb3 hr3 ez ba q2 b2 cf0 cf1 cf2 hco
      have HF := hide (show Sx w f g ad w3.drew from HF.out.step (Dr.below ⟨1, rfl⟩ _))
      have HO1 := hide (fun W a b d => ref_Outs A C I n m ni c cc ci l outs f ins W hN.out hM.out hNi.out hg.out ho.out a b d)
      have HO2 := hide (fun W a b d => ref_Outs A C I n m ni c cc ci l outs g ins W hN.out hM.out hNi.out hg.out ho.out a b d)
      unfold OutsIs at HO1 HO2
      rw [← h2.out] at HO2
      obtain ⟨X, hX⟩ : ∃ X, outsN l outs f ins = X := ⟨_, rfl⟩
      obtain ⟨mo, hmo⟩ : ∃ mo, outs.length = mo := ⟨_, rfl⟩
      rw [hX, hmo] at HO1 HO2
      have hmo2 := hide (show mo ≤ 1000000 by have h1 := hro.len; have h3 := hM.out; omega)
      clear h2 hX hmo
      go_wp2
      go_region_held3 (fun W' => W'.cell? ⟨w.heap.size, 0, none⟩ = some (.int .i64 f.v) ∧ W'.cell? ⟨w.heap.size, 1, none⟩ = some (.int .i64 f.p) ∧ W'.cell? ⟨w.heap.size, 2, none⟩ = some (.bool f.o) ∧ W'.cell? ad = some (.int .i64 g.v) ∧ W'.cell? ⟨ad.block, ad.off + 1, none⟩ = some (.int .i64 g.p) ∧ W'.cell? ⟨ad.block, ad.off + 2, none⟩ = some (.bool g.o))
        (exact ⟨HF.out.fb.cell 0, HF.out.fb.cell 1, HF.out.fb.cell 2, HF.out.a0, HF.out.a1, HF.out.a2⟩)
        (first
          | (go_at_call 32; (with_reducible refine (HG2.out _ (hr.below HF.out.bel (Nat.le_refl _))).mono ?_); rintro e w4 ⟨rfl, hb4⟩; have HF := hide (HF.out.step hb4); clear hb4)
          | (go_at_call 38; (with_reducible refine (HO1.out _ (hr.below HF.out.bel (Nat.le_refl _)) (hro.below HF.out.bel (Nat.le_refl _)) (hri.below HF.out.bel (Nat.le_refl _))).mono ?_); rintro e w4 ⟨v4, rfl, hown4, hb4⟩; obtain ⟨A4, c4, rfl, _, _, hr4⟩ := Rd.of_own hown4; have HF := hide (HF.out.step hb4); have HR1 := hide hr4; (try have HR2 := hide (HR2.out.below hb4 (Nat.le_refl _))); clear hown4 hr4 hb4)
          | (go_at_call 38; (with_reducible refine (HO2.out _ (hr.below HF.out.bel (Nat.le_refl _)) (hro.below HF.out.bel (Nat.le_refl _)) (hri.below HF.out.bel (Nat.le_refl _))).mono ?_); rintro e w4 ⟨v5, rfl, hown4, hb4⟩; obtain ⟨A5, c5, rfl, _, _, hr4⟩ := Rd.of_own hown4; have HF := hide (HF.out.step hb4); have HR2 := hide hr4; (try have HR1 := hide (HR1.out.below hb4 (Nat.le_refl _))); clear hown4 hr4 hb4)
          | (go_at_call 19; (with_reducible refine (bits_yes _ hmo2.out HR1.out HR2.out).mono ?_); rintro e w4 ⟨rfl, hd4⟩; have HF := hide (HF.out.step (hd4.below _)); clear hd4)
          | (go_at_call 30; (with_reducible refine (lives _ (hp.below HF.out.bel)).mono ?_); rintro e w4 ⟨rfl, hb4⟩; have HF := hide (HF.out.step hb4); clear hb4))
      all_goals
        go_wp2
        go_ret
        exact ⟨rfl, HF.out.bel⟩
end Go.Proofs.YtcjoohaagdihlaaDoor.Fault
