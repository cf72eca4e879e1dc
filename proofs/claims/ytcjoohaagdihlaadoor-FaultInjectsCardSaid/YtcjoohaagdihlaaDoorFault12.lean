/- The contract of the document's Last. -/
import Derived.Test.YtcjoohaagdihlaaDoorFault11
namespace Go.Proofs.YtcjoohaagdihlaaDoor.Fault
open Go.RowKit Go.Lt Go.Proofs.YtcjoohaagdihlaaDoor.Lit Go.Instr
set_option linter.unusedVariables false
set_option linter.unusedSimpArgs false

def LastTo (l : List Nd) (outs : List Int) (f : Ft) (W : World) (e : Ending) (w' : World) : Prop :=
  e = .returned (.agg #[.int .i64 (lastF l.length (occs l l.length) outs f).v, .int .i64 (lastF l.length (occs l l.length) outs f).p, .bool (lastF l.length (occs l l.length) outs f).o]) ∧ Below W.heap.size W w'
theorem last_to {l : List Nd} {outs : List Int} {f g : Ft} {W W' : World} (h : lastF l.length (occs l l.length) outs f = g) (hb : Below W.heap.size W W') :
    LastTo l outs f W (.returned (.agg #[.int .i64 g.v, .int .i64 g.p, .bool g.o])) W' := by subst h; exact ⟨rfl, hb⟩
theorem name_pin {os : List Oc} {outs : List Int} {v p : Int} (hp : 0 < p) : nameF os outs ⟨v, p, false⟩ = (⟨v, 0, false⟩, true) := by unfold nameF; rw [if_pos ⟨hp, rfl⟩]
theorem last_out {os : List Oc} {outs : List Int} {v : Int} {o : Bool} {k : Nat} {y : Int} {n : Nat} (hl : Later n os) (hy : outs[k]? = some y) (hv : y / 2 = v) : lastF n os outs ⟨v, 0, o⟩ = ⟨v, 0, o⟩ := by
  refine lastF_end hl outs _ ?_
  have h1 : 1 ≤ cntOut outs v := by
    unfold cntOut
    exact List.length_pos_of_mem (List.mem_filter.2 ⟨List.mem_of_getElem? hy, by simpa using hv⟩)
  unfold nameF
  rw [if_neg (by simp), if_neg (by unfold usedN; simp only; omega)]
/-- what the cell of the last use holds -/
def useC (os : List Oc) (v : Int) (o : Bool) : Ft := ((lastO os v).map fun u => (⟨u.f.v, u.f.p, o != decide (u.lit % 2 = 1)⟩ : Ft)).getD ⟨v, 0, o⟩
theorem useC_snoc (os : List Oc) (v : Int) (o : Bool) (u : Oc) : useC (os ++ [u]) v o = if u.k = v then ⟨u.f.v, u.f.p, o != decide (u.lit % 2 = 1)⟩ else useC os v o := by
  unfold useC
  rw [lastO_snoc]
  split <;> rfl
theorem last_many {n : Nat} {os : List Oc} {outs : List Int} {v : Int} {o : Bool} (hl : Later n os) (h : cntOut outs v = 0) (h1 : countO os v ≠ 1) : lastF n os outs ⟨v, 0, o⟩ = ⟨v, 0, o⟩ :=
  lastF_end hl outs _ (by unfold nameF; rw [if_neg (by simp), if_neg (by unfold usedN; simp only; omega)])
theorem name_use {os : List Oc} {outs : List Int} {v : Int} {o : Bool} (h : cntOut outs v = 0) (h1 : countO os v = 1) : nameF os outs ⟨v, 0, o⟩ = (useC os v o, true) := by
  unfold nameF
  rw [if_neg (by simp), if_pos ⟨rfl, by unfold usedN; simp only; omega⟩]
  unfold useC
  cases hu : lastO os v with
  | none =>
    exfalso
    unfold lastO at hu
    unfold countO at h1
    rw [List.getLast?_eq_none_iff] at hu
    rw [hu] at h1
    simp at h1
  | some u => rfl
theorem use_pin {n : Nat} {os : List Oc} {v : Int} {o : Bool} (hl : Later n os) : 0 ≤ (useC os v o).p := by
  unfold useC
  cases hu : lastO os v with
  | none => simp
  | some u =>
    obtain ⟨_, _, h, _⟩ := hl u (lastO_mem hu).1
    simp only [Option.map_some, Option.getD_some]
    omega
theorem name_pin1 {os : List Oc} {outs : List Int} {v p : Int} (hp : 0 < p) : nameF os outs ⟨v, p, true⟩ = (⟨v, p, true⟩, false) := by unfold nameF; rw [if_neg (by simp), if_neg (by simp; omega)]

/-- three stores into a block of the call's own -/
theorem tri_blk {w : World} {g m : Nat} {t : TypeId} {x y z : Value} (h : Blk w g t #[x, y, z]) (a b c : Value) : Blk ((((w.drewN m).setCell ⟨g, 0, none⟩ a).setCell ⟨g, 1, none⟩ b).setCell ⟨g, 2, none⟩ c) g t #[a, b, c] :=
  (((h.dr ⟨m, rfl⟩).set_ 0 a).set_ 1 b).set_ 2 c
theorem tri_far {w : World} {g g' m : Nat} {t : TypeId} {cs : Array Value} (h : Blk w g' t cs) (hne : g' ≠ g) (a b c : Value) : Blk ((((w.drewN m).setCell ⟨g, 0, none⟩ a).setCell ⟨g, 1, none⟩ b).setCell ⟨g, 2, none⟩ c) g' t cs :=
  (((h.dr ⟨m, rfl⟩).far hne a).far hne b).far hne c
theorem tri_below {w : World} {B g m : Nat} (hB : B ≤ g) (a b c : Value) : Below B w ((((w.drewN m).setCell ⟨g, 0, none⟩ a).setCell ⟨g, 1, none⟩ b).setCell ⟨g, 2, none⟩ c) :=
  (((Dr.below ⟨m, rfl⟩ B).setCell (p := ⟨g, 0, none⟩) hB a).setCell (p := ⟨g, 1, none⟩) hB b).setCell (p := ⟨g, 2, none⟩) hB c

set_option maxRecDepth 8000 in
set_option maxHeartbeats 4000000 in
theorem ref_Last (A C : Option Addr) (n m c cc : Nat) (l : List Nd) (outs : List Int) (hn : n ≤ 1000) (hm : m ≤ 1000) (hg : GoodNet l) (ho : GoodOuts l outs) : ∀ (N : Nat) (f : Ft) (W : World), rank l.length f < N → RdN W A n l → Rd W C m (ivs outs) → 0 ≤ f.p →
    Calls Tryd.prog 92 #[.slice A n c, .slice C m cc, .agg #[.int .i64 f.v, .int .i64 f.p, .bool f.o]] W (LastTo l outs f W) := by
  have HL := hide (occs_later hg)
  have HN := hide hn
  have HM := hide hm
  have HG := hide hg
  have HO := hide ho
  clear hn hm hg ho
  intro N
  induction N with
  | zero => intro f W h; exact absurd h (Nat.not_lt_zero _)
  | succ N ih =>
    intro f W hrk hr hro hfp
    have hrk := hide hrk
    have ih := hide ih
    obtain ⟨v, p, o⟩ := f
    by_cases hp : 0 < p
    · have d1 : decide (0 < p) = true := by rw [decide_eq_true_iff]; exact hp
      cases o
      · have hs := hide (show lastF l.length (occs l l.length) outs ⟨v, p, false⟩ = lastF l.length (occs l l.length) outs ⟨v, 0, false⟩ by
          have := lastF_step HL.out outs ⟨v, p, false⟩ (by rw [name_pin hp])
          rw [name_pin hp] at this
          exact this)
        have hlt : rank l.length ⟨v, 0, false⟩ < rank l.length ⟨v, p, false⟩ := by
          have := name_falls HL.out outs ⟨v, p, false⟩ (by rw [name_pin hp])
          rw [name_pin hp] at this
          exact this
        have HC := hide (fun W' => ih.out ⟨v, 0, false⟩ W' (by have := hrk.out; omega))
        clear hlt
        have hbA := ((Below.refl W.heap.size W).alloc (Nat.le_refl _) (.cells #[.int .i64 v, .int .i64 p, .bool false] 54)).alloc (by simp) (.cells #[.int .i64 0, .int .i64 0, .bool false] 54)
        go_enter Tryd.func92, Tryd.ntmps92
        go_wp2_with fail
        refine (HC.out _ (hr.below hbA (Nat.le_refl _)) (hro.below hbA (Nat.le_refl _)) (Int.le_refl _)).mono ?_
        rintro e w2 ⟨rfl, hb2⟩
        have hblk : Blk w2 (W.heap.size + 1) 54 #[.int .i64 0, .int .i64 0, .bool false] := by
          have := (Blk.new (W.alloc (.cells #[.int .i64 v, .int .i64 p, .bool false] 54)) 54 #[.int .i64 0, .int .i64 0, .bool false]).below hb2 (by simp)
          simpa using this
        have hc0 : w2.cell? ⟨W.heap.size + 1, 0, none⟩ = some (.int .i64 0) := hblk.cell 0
        have hc1 : w2.cell? ⟨W.heap.size + 1, 1, none⟩ = some (.int .i64 0) := hblk.cell 1
        have hc2 : w2.cell? ⟨W.heap.size + 1, 2, none⟩ = some (.bool false) := hblk.cell 2
        have hz0 := hblk.frozen 0
        have hz1 := hblk.frozen 1
        have hz2 := hblk.frozen 2
        have hb3 := hide (hbA.trans (hb2.mono hbA.size))
        clear hb2
        obtain ⟨LF, hLF⟩ : ∃ LF, lastF l.length (occs l l.length) outs ⟨v, 0, false⟩ = LF := ⟨_, rfl⟩
        rw [hLF]
        have hs := hide (hs.out.trans hLF)
        clear hLF
        go_wp2
        refine bodyPost_ret (v := .agg #[.int .i64 LF.v, .int .i64 LF.p, .bool LF.o]) (by simp [results, Tryd.results92, go_sem, hc0, hc1, hc2]) rfl ?_
        refine last_to hs.out ?_
        exact ((hb3.out.setCell (p := ⟨W.heap.size + 1, 0, none⟩) (by simp) _).setCell (p := ⟨W.heap.size + 1, 1, none⟩) (by simp) _).setCell (p := ⟨W.heap.size + 1, 2, none⟩) (by simp) _
      · have hs := hide (lastF_end HL.out outs ⟨v, p, true⟩ (by rw [name_pin1 hp]))
        go_enter Tryd.func92, Tryd.ntmps92
        go_wp2
        refine bodyPost_ret (v := .agg #[.int .i64 v, .int .i64 p, .bool true]) (by simp [results, Tryd.results92, go_sem]) rfl ?_
        refine last_to (g := ⟨v, p, true⟩) hs.out ?_
        repeat first | exact Below.refl _ _ | refine Below.alloc ?_ (by first | (simp; done) | (simp; omega)) _ | refine Below.setCell ?_ (by first | (simp; done) | (simp; omega)) _
    · have hpz : p = 0 := by simp only at hfp; omega
      subst hpz
      clear hp
      have hbA := ((Below.refl W.heap.size W).alloc (Nat.le_refl _) (.cells #[.int .i64 v, .int .i64 0, .bool o] 54)).alloc (by simp) (.cells #[.int .i64 0, .int .i64 0, .bool false] 54)
      have hm9 := HM.out
      have hmI : (m : Int) ≤ 1000 := by omega
      go_enter Tryd.func92, Tryd.ntmps92
      go_wp2
      go_region
      go_wp2
      go_loopw [9] (fun i wr => ∃ k : Nat, k ≤ m ∧ i = .int .i64 k ∧ Blk wr W.heap.size 54 #[.int .i64 v, .int .i64 0, .bool o] ∧ Blk wr (W.heap.size + 1) 54 #[.int .i64 0, .int .i64 0, .bool false] ∧ Blk wr (W.heap.size + 1 + 1) 54 #[.int .i64 v, .int .i64 0, .bool o] ∧ Below W.heap.size W wr ∧ Hid (cntOut (outs.take k) v = 0)) (fun i _ => m - (intOf i).toNat)
      case atStart =>
        refine ⟨0, Nat.zero_le _, rfl, ?_, ?_, ?_, ?_, hide rfl⟩
        · exact ((Blk.new _ _ _).alloc _).alloc _
        · have := (Blk.new (W.alloc (.cells #[.int .i64 v, .int .i64 0, .bool o] 54)) 54 #[.int .i64 0, .int .i64 0, .bool false]).alloc (.cells #[.int .i64 v, .int .i64 0, .bool o] 54)
          simp only [World.size_alloc] at this
          exact this
        · have := Blk.new ((W.alloc (.cells #[.int .i64 v, .int .i64 0, .bool o] 54)).alloc (.cells #[.int .i64 0, .int .i64 0, .bool false] 54)) 54 #[.int .i64 v, .int .i64 0, .bool o]
          simp only [World.size_alloc] at this
          exact this
        · exact (hbA.alloc hbA.size (.cells #[.int .i64 v, .int .i64 0, .bool o] 54)).trans ((Dr.refl _).drew.below _)
      case round =>
        obtain ⟨k, hk, rfl, hb0, hb1, hb2, hb, hcnt⟩ := hrel
        have hkI : (k : Int) ≤ 1000 := by omega
        have c0 : wr.cell? ⟨W.heap.size, 0, none⟩ = some (.int .i64 v) := hb0.cell 0
        have c1 : wr.cell? ⟨W.heap.size, 1, none⟩ = some (.int .i64 0) := hb0.cell 1
        have c2 : wr.cell? ⟨W.heap.size, 2, none⟩ = some (.bool o) := hb0.cell 2
        have r0 : wr.cell? ⟨W.heap.size + 1, 0, none⟩ = some (.int .i64 0) := hb1.cell 0
        have r1 : wr.cell? ⟨W.heap.size + 1, 1, none⟩ = some (.int .i64 0) := hb1.cell 1
        have r2 : wr.cell? ⟨W.heap.size + 1, 2, none⟩ = some (.bool false) := hb1.cell 2
        have z0 := hb1.frozen 0
        have z1 := hb1.frozen 1
        have z2 := hb1.frozen 2
        by_cases hlt : k < m
        · obtain ⟨ad, y, rfl, hB, hy, hc⟩ := (hro.below hb (Nat.le_refl _)).get hlt
          obtain ⟨hy0, hy1⟩ := HO.out y (List.mem_of_getElem? hy)
          have hyb : y ≤ 3000 := by have := HN.out; have := hr.1; omega
          have hT := hide (show outs.take (k + 1) = outs.take k ++ [y] by rw [List.take_add_one, hy]; rfl)
          by_cases hyv : y / 2 = v
          · have hs := hide (last_out (os := occs l l.length) (o := o) HL.out hy hyv)
            have e1 : (y / 2 == v) = true := by simp [hyv]
            clear hy hyv hy1
            go_wp2
            go_quiet (fail)
            go_wp2
            refine bodyPost_ret (v := .agg #[.int .i64 v, .int .i64 0, .bool o]) (by simp [results, Tryd.results92, go_sem, c0, c1, c2, r0, r1, r2]) rfl ?_
            refine last_to (g := ⟨v, 0, o⟩) hs.out ?_
            repeat first | exact hb.trans (Dr.below ⟨_, rfl⟩ _) | refine Below.setCell ?_ (by simp) _
          · have hcn := hide (show cntOut (outs.take (k + 1)) v = 0 by rw [hT.out, cntOut_snoc, hcnt.out, if_neg hyv])
            have e1 : (y / 2 == v) = false := by simp [hyv]
            clear hy hyv hy1
            go_wp2
            go_quiet (fail)
            go_wp2
            go_roundw
            case rel => exact ⟨k + 1, hlt, by go_num, hb0.dr ⟨_, rfl⟩, hb1.dr ⟨_, rfl⟩, hb2.dr ⟨_, rfl⟩, hb.trans (Dr.below ⟨_, rfl⟩ _), hcn⟩
            case measure => simp [intOf]; omega
        · have hkm : k = m := by omega
          subst hkm
          have hcn := hide (show cntOut outs v = 0 by
            have := hcnt.out
            rwa [List.take_of_length_le (by have := hro.1; simp [ivs] at this; omega)] at this)
          clear hcnt
          have hnI : (n : Int) ≤ 1000 := by have := HN.out; omega
          go_wp2
          go_loopw [7, 10] (fun c i wr => ∃ (k K : Nat) (U : Ft), k ≤ n ∧ c = .int .i64 K ∧ i = .int .i64 k ∧ Blk wr W.heap.size 54 #[.int .i64 v, .int .i64 0, .bool o] ∧ Blk wr (W.heap.size + 1) 54 #[.int .i64 0, .int .i64 0, .bool false] ∧ Blk wr (W.heap.size + 1 + 1) 54 #[.int .i64 U.v, .int .i64 U.p, .bool U.o] ∧ Below W.heap.size W wr ∧ Hid (K = countO (occs l k) v) ∧ Hid (U = useC (occs l k) v o)) (fun _ i _ => n - (intOf i).toNat)
          case atStart => exact ⟨0, 0, ⟨v, 0, o⟩, Nat.zero_le _, rfl, rfl, hb0, hb1, hb2, hb, hide rfl, hide rfl⟩
          case round =>
            clear hb0 hb1 hb2 hb c0 c1 c2 r0 r1 r2 z0 z1 z2
            obtain ⟨j, K, U, hj, rfl, rfl, hb0, hb1, hb2, hb, hK, hU⟩ := hrel
            have hjI : (j : Int) ≤ 1000 := by omega
            have c0 : wr.cell? ⟨W.heap.size, 0, none⟩ = some (.int .i64 v) := hb0.cell 0
            have c1 : wr.cell? ⟨W.heap.size, 1, none⟩ = some (.int .i64 0) := hb0.cell 1
            have c2 : wr.cell? ⟨W.heap.size, 2, none⟩ = some (.bool o) := hb0.cell 2
            have hKb : (K : Int) ≤ 2000 := by have := countO_le (occs l j) v; have := occs_len l j; have := hK.out; omega
            by_cases hltn : j < n
            · obtain ⟨ad, x, rfl, hB, hx, hc, hc2, _, _⟩ := (hr.below hb (Nat.le_refl _)).get hltn
              have HS := hide (occs_succ l j x hx)
              have hgx := hide (HG.out j x hx)
              obtain ⟨a, b⟩ := x
              simp only at hc hc2
              clear hx
              by_cases ha : a < 0
              · have hno := hide (show occNode j ⟨a, b⟩ = [] by unfold occNode; rw [if_pos ha])
                have d1 : decide (0 ≤ a) = false := by rw [decide_eq_false_iff_not]; omega
                go_wp2
                go_quiet (fail)
                go_wp2
                go_quiet (fail)
                go_wp2
                go_roundw
                case rel => exact ⟨j + 1, K, U, hltn, rfl, by go_num, hb0, hb1, hb2, hb.trans (Dr.below ⟨_, rfl⟩ _), by rw [HS.out, hno.out, List.append_nil]; exact hK, by rw [HS.out, hno.out, List.append_nil]; exact hU⟩
                case measure => simp [intOf]; omega
              · obtain ⟨ha1, hy0, hy1⟩ := hgx.out (by simp only; omega)
                simp only at ha1 hy0 hy1
                have ha0 : 0 ≤ a := by omega
                have d1 : decide (0 ≤ a) = true := by rw [decide_eq_true_iff]; omega
                have hnode := hide (show occNode j ⟨a, b⟩ = [⟨a / 2, ⟨(j : Int) + 1, 1, false⟩, a⟩] ++ [⟨b / 2, ⟨(j : Int) + 1, 2, false⟩, b⟩] by unfold occNode; rw [if_neg ha]; rfl)
                have hKs := hide (show countO (occs l (j + 1)) v = K + (if a / 2 = v then 1 else 0) + (if b / 2 = v then 1 else 0) by rw [HS.out, hnode.out, ← List.append_assoc, countO_snoc, countO_snoc, ← hK.out])
                have hUs := hide (show useC (occs l (j + 1)) v o = if b / 2 = v then ⟨(j : Int) + 1, 2, o != decide (b % 2 = 1)⟩ else if a / 2 = v then ⟨(j : Int) + 1, 1, o != decide (a % 2 = 1)⟩ else U by rw [HS.out, hnode.out, ← List.append_assoc, useC_snoc, useC_snoc, ← hU.out])
                have hadW : ad.block < W.heap.size := by
                  obtain ⟨_, _, h1, h2, _⟩ := hr.get hltn
                  injection h1 with h1
                  rw [h1]; exact h2
                clear hK hU hgx HS
                by_cases h1 : a / 2 = v
                · have e1 : (a / 2 == v) = true := by simp [h1]
                  obtain ⟨oa, hoa⟩ : ∃ oa, decide (a % 2 = 1) = oa := ⟨_, rfl⟩
                  have ta : (a % 2 == 1) = oa := by rw [← hoa, Bool.eq_iff_iff, decide_eq_true_iff]; simp
                  have s0 : wr.cell? ⟨W.heap.size + 1 + 1, 0, none⟩ = some (.int .i64 U.v) := hb2.cell 0
                  have s1 : wr.cell? ⟨W.heap.size + 1 + 1, 1, none⟩ = some (.int .i64 U.p) := hb2.cell 1
                  have s2 : wr.cell? ⟨W.heap.size + 1 + 1, 2, none⟩ = some (.bool U.o) := hb2.cell 2
                  have y0 := hb2.frozen 0
                  have y1 := hb2.frozen 1
                  have y2 := hb2.frozen 2
                  by_cases h2 : b / 2 = v
                  · have e2 : (b / 2 == v) = true := by simp [h2]
                    obtain ⟨ob, hob⟩ : ∃ ob, decide (b % 2 = 1) = ob := ⟨_, rfl⟩
                    have tb : (b % 2 == 1) = ob := by rw [← hob, Bool.eq_iff_iff, decide_eq_true_iff]; simp
                    have hKs := hide (show K + 1 + 1 = countO (occs l (j + 1)) v by rw [hKs.out, if_pos h1, if_pos h2])
                    have hUs := hide (show (⟨(j : Int) + 1, 2, o != ob⟩ : Ft) = useC (occs l (j + 1)) v o by rw [hUs.out, if_pos h2, hob])
                    clear h1 h2 hoa hob
                    cases o <;> cases oa <;> cases ob
                    all_goals
                      go_wp2
                      go_quiet (fail)
                      go_wp2
                      go_region
                      generalize hw2 : World.setCell (World.setCell (World.setCell _ _ _) _ _) _ _ = w2
                      have hp2 := hide (show Blk w2 (W.heap.size + 1 + 1) 54 #[.int .i64 ((j : Int) + 1), .int .i64 1, .bool _] by rw [← hw2]; exact tri_blk hb2 _ _ _)
                      have hp1 := hide (show Blk w2 (W.heap.size + 1) 54 #[.int .i64 0, .int .i64 0, .bool false] by rw [← hw2]; exact tri_far hb1 (by omega) _ _ _)
                      have hp0 := hide (show Blk w2 W.heap.size 54 #[.int .i64 v, .int .i64 0, .bool _] by rw [← hw2]; exact tri_far hb0 (by omega) _ _ _)
                      have hpx := hide (show Below W.heap.size wr w2 by rw [← hw2]; exact tri_below (by omega) _ _ _)
                      have hpb := hide (hb.trans hpx.out)
                      clear hw2
                      have gc := (hpx.out.cell (p := ad.add (j * 2)) (by rw [add_block]; exact hadW)).trans hc
                      have gc2 := (hpx.out.cell (p := ⟨(ad.add (j * 2)).block, (ad.add (j * 2)).off + 1, none⟩) (by rw [add_block]; exact hadW)).trans hc2
                      have g0 : w2.cell? ⟨W.heap.size, 0, none⟩ = some (.int .i64 v) := hp0.out.cell 0
                      have g1 : w2.cell? ⟨W.heap.size, 1, none⟩ = some (.int .i64 0) := hp0.out.cell 1
                      have g2 : w2.cell? ⟨W.heap.size, 2, none⟩ = some (.bool _) := hp0.out.cell 2
                      have t0 : w2.cell? ⟨W.heap.size + 1 + 1, 0, none⟩ = some (.int .i64 ((j : Int) + 1)) := hp2.out.cell 0
                      have t1 : w2.cell? ⟨W.heap.size + 1 + 1, 1, none⟩ = some (.int .i64 1) := hp2.out.cell 1
                      have t2 : w2.cell? ⟨W.heap.size + 1 + 1, 2, none⟩ = some (.bool _) := hp2.out.cell 2
                      have x0 := hp2.out.frozen 0
                      have x1 := hp2.out.frozen 1
                      have x2 := hp2.out.frozen 2
                      go_wp2
                      go_quiet (fail)
                      go_wp2
                      go_region
                      generalize hw3 : World.setCell (World.setCell (World.setCell _ _ _) _ _) _ _ = w3
                      have hq2 := hide (show Blk w3 (W.heap.size + 1 + 1) 54 #[.int .i64 ((j : Int) + 1), .int .i64 2, .bool _] by rw [← hw3]; exact tri_blk hp2.out _ _ _)
                      have hq1 := hide (show Blk w3 (W.heap.size + 1) 54 #[.int .i64 0, .int .i64 0, .bool false] by rw [← hw3]; exact tri_far hp1.out (by omega) _ _ _)
                      have hq0 := hide (show Blk w3 W.heap.size 54 #[.int .i64 v, .int .i64 0, .bool _] by rw [← hw3]; exact tri_far hp0.out (by omega) _ _ _)
                      have hqb := hide (show Below W.heap.size W w3 by rw [← hw3]; exact hpb.out.trans (tri_below (by omega) _ _ _))
                      clear hw3
                      go_wp2
                      go_roundw
                      case rel => exact ⟨j + 1, K + 1 + 1, ⟨(j : Int) + 1, 2, _⟩, hltn, by go_num, by go_num, hq0.out, hq1.out, hq2.out, hqb.out, hKs, hUs⟩
                      case measure => simp [intOf]; omega
                  · have e2 : (b / 2 == v) = false := by simp [h2]
                    have hKs := hide (show K + 1 = countO (occs l (j + 1)) v by rw [hKs.out, if_pos h1, if_neg h2]; try simp)
                    have hUs := hide (show (⟨(j : Int) + 1, 1, o != oa⟩ : Ft) = useC (occs l (j + 1)) v o by rw [hUs.out, if_neg h2, if_pos h1, hoa])
                    clear h1 h2 hoa
                    cases o <;> cases oa
                    all_goals
                      go_wp2
                      go_quiet (fail)
                      go_wp2
                      go_region
                      generalize hw2 : World.setCell (World.setCell (World.setCell _ _ _) _ _) _ _ = w2
                      have hp2 := hide (show Blk w2 (W.heap.size + 1 + 1) 54 #[.int .i64 ((j : Int) + 1), .int .i64 1, .bool _] by rw [← hw2]; exact tri_blk hb2 _ _ _)
                      have hp1 := hide (show Blk w2 (W.heap.size + 1) 54 #[.int .i64 0, .int .i64 0, .bool false] by rw [← hw2]; exact tri_far hb1 (by omega) _ _ _)
                      have hp0 := hide (show Blk w2 W.heap.size 54 #[.int .i64 v, .int .i64 0, .bool _] by rw [← hw2]; exact tri_far hb0 (by omega) _ _ _)
                      have hpx := hide (show Below W.heap.size wr w2 by rw [← hw2]; exact tri_below (by omega) _ _ _)
                      have hpb := hide (hb.trans hpx.out)
                      clear hw2
                      have gc := (hpx.out.cell (p := ad.add (j * 2)) (by rw [add_block]; exact hadW)).trans hc
                      have gc2 := (hpx.out.cell (p := ⟨(ad.add (j * 2)).block, (ad.add (j * 2)).off + 1, none⟩) (by rw [add_block]; exact hadW)).trans hc2
                      have g0 : w2.cell? ⟨W.heap.size, 0, none⟩ = some (.int .i64 v) := hp0.out.cell 0
                      have g1 : w2.cell? ⟨W.heap.size, 1, none⟩ = some (.int .i64 0) := hp0.out.cell 1
                      have g2 : w2.cell? ⟨W.heap.size, 2, none⟩ = some (.bool _) := hp0.out.cell 2
                      have t0 : w2.cell? ⟨W.heap.size + 1 + 1, 0, none⟩ = some (.int .i64 ((j : Int) + 1)) := hp2.out.cell 0
                      have t1 : w2.cell? ⟨W.heap.size + 1 + 1, 1, none⟩ = some (.int .i64 1) := hp2.out.cell 1
                      have t2 : w2.cell? ⟨W.heap.size + 1 + 1, 2, none⟩ = some (.bool _) := hp2.out.cell 2
                      have x0 := hp2.out.frozen 0
                      have x1 := hp2.out.frozen 1
                      have x2 := hp2.out.frozen 2
                      go_wp2
                      go_quiet (fail)
                      go_wp2
                      go_roundw
                      case rel => exact ⟨j + 1, K + 1, ⟨(j : Int) + 1, 1, _⟩, hltn, by go_num, by go_num, hp0.out.dr ⟨_, rfl⟩, hp1.out.dr ⟨_, rfl⟩, hp2.out.dr ⟨_, rfl⟩, hpb.out.trans (Dr.below ⟨_, rfl⟩ _), hKs, hUs⟩
                      case measure => simp [intOf]; omega
                · have e1 : (a / 2 == v) = false := by simp [h1]
                  by_cases h2 : b / 2 = v
                  · have e2 : (b / 2 == v) = true := by simp [h2]
                    obtain ⟨ob, hob⟩ : ∃ ob, decide (b % 2 = 1) = ob := ⟨_, rfl⟩
                    have tb : (b % 2 == 1) = ob := by rw [← hob, Bool.eq_iff_iff, decide_eq_true_iff]; simp
                    have s0 : wr.cell? ⟨W.heap.size + 1 + 1, 0, none⟩ = some (.int .i64 U.v) := hb2.cell 0
                    have s1 : wr.cell? ⟨W.heap.size + 1 + 1, 1, none⟩ = some (.int .i64 U.p) := hb2.cell 1
                    have s2 : wr.cell? ⟨W.heap.size + 1 + 1, 2, none⟩ = some (.bool U.o) := hb2.cell 2
                    have y0 := hb2.frozen 0
                    have y1 := hb2.frozen 1
                    have y2 := hb2.frozen 2
                    have hKs := hide (show K + 1 = countO (occs l (j + 1)) v by rw [hKs.out, if_neg h1, if_pos h2]; try simp)
                    have hUs := hide (show (⟨(j : Int) + 1, 2, o != ob⟩ : Ft) = useC (occs l (j + 1)) v o by rw [hUs.out, if_pos h2, hob])
                    clear h1 h2 hob
                    cases o <;> cases ob
                    all_goals
                      go_wp2
                      go_quiet (fail)
                      go_wp2
                      go_quiet (fail)
                      go_wp2
                      go_region
                      generalize hw3 : World.setCell (World.setCell (World.setCell _ _ _) _ _) _ _ = w3
                      have hq2 := hide (show Blk w3 (W.heap.size + 1 + 1) 54 #[.int .i64 ((j : Int) + 1), .int .i64 2, .bool _] by rw [← hw3]; exact tri_blk hb2 _ _ _)
                      have hq1 := hide (show Blk w3 (W.heap.size + 1) 54 #[.int .i64 0, .int .i64 0, .bool false] by rw [← hw3]; exact tri_far hb1 (by omega) _ _ _)
                      have hq0 := hide (show Blk w3 W.heap.size 54 #[.int .i64 v, .int .i64 0, .bool _] by rw [← hw3]; exact tri_far hb0 (by omega) _ _ _)
                      have hqb := hide (show Below W.heap.size W w3 by rw [← hw3]; exact hb.trans (tri_below (by omega) _ _ _))
                      clear hw3
                      go_wp2
                      go_roundw
                      case rel => exact ⟨j + 1, K + 1, ⟨(j : Int) + 1, 2, _⟩, hltn, by go_num, by go_num, hq0.out, hq1.out, hq2.out, hqb.out, hKs, hUs⟩
                      case measure => simp [intOf]; omega
                  · have e2 : (b / 2 == v) = false := by simp [h2]
                    have hKs := hide (show K = countO (occs l (j + 1)) v by rw [hKs.out, if_neg h1, if_neg h2]; try simp)
                    have hUs := hide (show U = useC (occs l (j + 1)) v o by rw [hUs.out, if_neg h1, if_neg h2]; try simp)
                    clear h1 h2
                    go_wp2
                    go_quiet (fail)
                    go_wp2
                    go_quiet (fail)
                    go_wp2
                    go_roundw
                    case rel => exact ⟨j + 1, K, U, hltn, rfl, by go_num, hb0, hb1, hb2, hb.trans (Dr.below ⟨_, rfl⟩ _), hKs, hUs⟩
                    case measure => simp [intOf]; omega
            · have hjn : j = n := by omega
              subst hjn
              have r0 : wr.cell? ⟨W.heap.size + 1, 0, none⟩ = some (.int .i64 0) := hb1.cell 0
              have r1 : wr.cell? ⟨W.heap.size + 1, 1, none⟩ = some (.int .i64 0) := hb1.cell 1
              have r2 : wr.cell? ⟨W.heap.size + 1, 2, none⟩ = some (.bool false) := hb1.cell 2
              have z0 := hb1.frozen 0
              have z1 := hb1.frozen 1
              have z2 := hb1.frozen 2
              have hK2 := hide (show K = countO (occs l l.length) v by rw [hr.1]; exact hK.out)
              have hU2 := hide (show U = useC (occs l l.length) v o by rw [hr.1]; exact hU.out)
              clear hK hU
              by_cases hK1 : K = 1
              · subst hK1
                have hnm := hide (name_use (outs := outs) (o := o) hcn.out hK2.out.symm)
                have hs := hide (show lastF l.length (occs l l.length) outs ⟨v, 0, o⟩ = lastF l.length (occs l l.length) outs U by
                  rw [lastF_step HL.out outs ⟨v, 0, o⟩ (by rw [hnm.out]), hnm.out, hU2.out])
                have hlt2 := hide (show rank l.length U < rank l.length ⟨v, 0, o⟩ by
                  have := name_falls HL.out outs ⟨v, 0, o⟩ (by rw [hnm.out])
                  rw [hnm.out] at this
                  rw [hU2.out]; exact this)
                have hup := hide (show 0 ≤ U.p by rw [hU2.out]; exact use_pin HL.out)
                have HC := hide (fun W' => ih.out U W' (by have := hrk.out; have := hlt2.out; omega))
                clear hlt2
                have u0 : wr.cell? ⟨W.heap.size + 1 + 1, 0, none⟩ = some (.int .i64 U.v) := hb2.cell 0
                have u1 : wr.cell? ⟨W.heap.size + 1 + 1, 1, none⟩ = some (.int .i64 U.p) := hb2.cell 1
                have u2 : wr.cell? ⟨W.heap.size + 1 + 1, 2, none⟩ = some (.bool U.o) := hb2.cell 2
                go_wp2_with fail
                refine (HC.out _ (hr.below hb (Nat.le_refl _)) (hro.below hb (Nat.le_refl _)) hup.out).mono ?_
                rintro e w2 ⟨rfl, hb3⟩
                have hblk := hb1.below hb3 hb1.lt
                clear r0 r1 r2 z0 z1 z2 u0 u1 u2 c0 c1 c2
                have hc0 : w2.cell? ⟨W.heap.size + 1, 0, none⟩ = some (.int .i64 0) := hblk.cell 0
                have hc1 : w2.cell? ⟨W.heap.size + 1, 1, none⟩ = some (.int .i64 0) := hblk.cell 1
                have hc2 : w2.cell? ⟨W.heap.size + 1, 2, none⟩ = some (.bool false) := hblk.cell 2
                have hz0 := hblk.frozen 0
                have hz1 := hblk.frozen 1
                have hz2 := hblk.frozen 2
                have hb5 := hide (hb.trans (hb3.mono hb.size))
                clear hb3
                obtain ⟨LF, hLF⟩ : ∃ LF, lastF l.length (occs l l.length) outs U = LF := ⟨_, rfl⟩
                rw [hLF]
                have hs := hide (hs.out.trans hLF)
                clear hLF
                go_wp2
                refine bodyPost_ret (v := .agg #[.int .i64 LF.v, .int .i64 LF.p, .bool LF.o]) (by simp [results, Tryd.results92, go_sem, hc0, hc1, hc2]) rfl ?_
                refine last_to hs.out ?_
                exact ((hb5.out.setCell (p := ⟨W.heap.size + 1, 0, none⟩) (by simp) _).setCell (p := ⟨W.heap.size + 1, 1, none⟩) (by simp) _).setCell (p := ⟨W.heap.size + 1, 2, none⟩) (by simp) _
              · have hs := hide (last_many (o := o) HL.out hcn.out (by rw [← hK2.out]; exact hK1))
                have e1 : ((K : Int) != 1) = true := by simp; omega
                go_wp2
                refine bodyPost_ret (v := .agg #[.int .i64 v, .int .i64 0, .bool o]) (by simp [results, Tryd.results92, go_sem, c0, c1, c2, r0, r1, r2]) rfl ?_
                refine last_to (g := ⟨v, 0, o⟩) hs.out ?_
                repeat first | exact hb | refine Below.setCell ?_ (by simp) _
end Go.Proofs.YtcjoohaagdihlaaDoor.Fault
