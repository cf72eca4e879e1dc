/- The contract of the document's Outs. -/
import Derived.Test.YtcjoohaagdihlaaDoorFaultInj2
import Derived.Test.YtcjoohaagdihlaaDoorFaultVals
namespace Go.Proofs.YtcjoohaagdihlaaDoor.Fault
open Go.RowKit Go.Lt Go.Proofs.YtcjoohaagdihlaaDoor.Lit Go.Instr
set_option linter.unusedVariables false
set_option linter.unusedSimpArgs false

theorem own_base {w : World} {b b' e s n : Nat} {v : Value} {xs : List Value} (h : w.ownsRow b e s v n xs) (hb : b' ≤ b) : w.ownsRow b' e s v n xs := by
  refine ⟨h.1, ?_⟩
  rcases h.2 with h2 | ⟨g, c, cur, hv, hg, rest⟩
  · exact .inl h2
  · exact .inr ⟨g, c, cur, hv, Nat.le_trans hb hg, rest⟩
def OutsIs (l : List Nd) (outs : List Int) (f : Ft) (ins : List Bool) (w : World) (e : Ending) (w' : World) : Prop :=
  ∃ v, e = .returned v ∧ w'.ownsRow w.heap.size 4 1 v outs.length (bvs (outsN l outs f ins)) ∧ Below w.heap.size w w'
theorem outs_get {M : List Int} {vals : List Bool} {k : Nat} {y : Int} (h : M[k]? = some y) : (M.map (ofL vals)).take (k + 1) = (M.map (ofL vals)).take k ++ [ofL vals y] := by
  rw [List.take_add_one, List.getElem?_map, h]; rfl

set_option maxHeartbeats 4000000 in
theorem ref_Outs (A C I : Option Addr) (n m ni c cc ci : Nat) (l : List Nd) (outs : List Int) (f : Ft) (ins : List Bool) (w : World) (hn : n ≤ 1000) (hm : m ≤ 1000) (hni : ni ≤ maxLen) (hg : GoodNet l) (ho : GoodOuts l outs) (hr : RdN w A n l) (hro : Rd w C m (ivs outs)) (hri : Rd w I ni (bvs ins)) :
    Calls Tryd.prog 38 #[.slice A n c, .slice C m cc, .agg #[.int .i64 f.v, .int .i64 f.p, .bool f.o], .slice I ni ci] w (OutsIs l outs f ins w) := by
  have hnI : (n : Int) ≤ 1000 := by omega
  have hmI : (m : Int) ≤ 1000 := by omega
  have hl := hide hr.1
  have hlo := hide hro.len
  have HG := hide hg
  have HO := hide ho
  have HI := hide (fun W a b => ref_Inject A C n m c cc l outs f W hn hm hg ho a b)
  have HV := hide (fun A1 c1 W a b => ref_Values A1 I n ni c1 ci (injN l f) ins W hn hni (injN_good hg f) a b)
  have hgM := hide (injO_good ho f)
  have hMl := hide (show (injO l outs f).length = m by rw [injO_len]; exact hlo.out)
  have hoN := hide (show outsN l outs f ins = (injO l outs f).map (ofL (valsN (injN l f) ins)) from rfl)
  have hLl := hide (injN_len l f)
  obtain ⟨v, p, o⟩ := f
  obtain ⟨L, hL⟩ : ∃ L, injN l ⟨v, p, o⟩ = L := ⟨_, rfl⟩
  obtain ⟨M, hM⟩ : ∃ M, injO l outs ⟨v, p, o⟩ = M := ⟨_, rfl⟩
  have HE := hide (fun u (w' : World) (h1 : w'.ownsRow w.heap.size 4 1 u m (bvs (M.map (ofL (valsN L ins))))) (hb : Below w.heap.size w w') => show OutsIs l outs ⟨v, p, o⟩ ins w (.returned u) w' from
    ⟨u, rfl, by rw [hoN.out, hL, hM, hlo.out]; exact h1, hb⟩)
  unfold InjIs at HI
  rw [hL, hM] at HI
  rw [hL] at HV hLl
  rw [hM] at hgM hMl
  clear hL hM hg ho hn hm hni hoN HG HO
  have bf := (Below.refl w.heap.size w).alloc (Nat.le_refl _) (.cells #[.int .i64 v, .int .i64 p, .bool o] 54)
  go_enter Tryd.func38, Tryd.ntmps38
  go_wp2_with fail
  refine (HI.out _ (hr.below bf (Nat.le_refl _)) (hro.below bf (Nat.le_refl _))).mono ?_
  rintro e w2 ⟨v1, v2, rfl, hown1, hown2, hb2⟩
  have b2 := hide (bf.trans (hb2.mono bf.size))
  obtain ⟨A1, c1, rfl, _, _, hr1⟩ := RdN.of_own hown1
  obtain ⟨A2, c2, rfl, _, _, hr2⟩ := Rd.of_own hown2
  rw [hl.out] at hr1
  rw [hlo.out] at hr2
  clear hown1 hown2 hb2 bf HI
  simp only [hl.out, hlo.out]
  go_wp2_with fail
  refine (HV.out A1 c1 _ hr1 (hri.below b2.out (Nat.le_refl _))).mono ?_
  rintro e w3 ⟨v3, rfl, hown3, hb3⟩
  have b3 := hide (b2.out.trans (hb3.mono b2.out.size))
  obtain ⟨A3, c3, rfl, _, _, hr3⟩ := Rd.of_own hown3
  rw [hLl.out, hl.out] at hr3
  have hr2 := hr2.below hb3 (Nat.le_refl _)
  clear hown3 hb3 b2 hr1 HV
  simp only [hLl.out, hl.out]
  obtain ⟨VL, hVL⟩ : ∃ VL, valsN L ins = VL := ⟨_, rfl⟩
  rw [hVL] at hr3 HE
  clear hVL
  go_wp2
  go_loopw [12, 13] (fun u i wr => ∃ q : Nat, q ≤ m ∧ i = .int .i64 q ∧ wr.ownsRow w3.heap.size 4 1 u q (bvs ((M.map (ofL VL)).take q)) ∧ Below w3.heap.size w3 wr) (fun _ i _ => m - (intOf i).toNat)
  case atStart => exact ⟨0, Nat.zero_le _, rfl, made_empty _ _ _ _ (Nat.le_refl _), (Below.refl _ _).alloc (Nat.le_refl _) _⟩
  case round =>
    obtain ⟨q, hq, rfl, hown, hb⟩ := hrel
    have hqI : (q : Int) ≤ 1000 := by omega
    obtain ⟨U, cU, rfl, _, _, _⟩ := Rd.of_own hown
    by_cases hlt : q < m
    · obtain ⟨ad, y, rfl, hB, hy, hc⟩ := (hr2.below hb (Nat.le_refl _)).get hlt
      obtain ⟨g1, g2⟩ := hgM.out y (List.mem_of_getElem? hy)
      have HT := hide (outs_get (vals := VL) hy)
      obtain ⟨t, ht⟩ : ∃ t, ofL VL y = t := ⟨_, rfl⟩
      rw [ht] at HT
      have hnn := hl.out
      have HA := hide (of_to (A := A3) (n := n + 1) (c := c3) ht wr g1 (by omega) (by omega) (hr3.below hb (Nat.le_refl _)))
      have h63 := hide (show q + 1 ≤ maxLen by unfold maxLen; omega)
      have hby := hide (show (q + 1) * 1 ≤ 140737488355328 by omega)
      clear hnn g1 g2 hy ht
      go_wp2_with fail
      refine HA.out.mono ?_
      rintro e w4 ⟨rfl, rfl⟩
      go_wp2_with (at_builtin; refine wpList_pushG rfl _ _ _ rfl Tryd.underlying30 info_b rfl (by decide) rfl (by first | rfl | simp [go_sem]) hown hb (Nat.le_refl _) rfl (by simp [Value.oneCell']) h63.out hby.out ?_; intro v6 w6 hown6 hb6 hgr6)
      go_roundw
      case rel => exact ⟨q + 1, hlt, by go_num, by rw [HT.out, bvs_app]; exact hown6, hb6⟩
      case measure => simp [intOf]; omega
    · have hqm : q = m := by omega
      subst hqm
      rw [List.take_of_length_le (by rw [List.length_map, hMl.out]; exact Nat.le_refl _)] at hown
      have HEE := hide (HE.out _ _ (own_base hown b3.out.size) (b3.out.trans (hb.mono b3.out.size)))
      go_wp2
      go_ret
      exact HEE.out
end Go.Proofs.YtcjoohaagdihlaaDoor.Fault
