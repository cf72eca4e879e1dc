/- The law on first states in a cube. -/
import Derived.Test.YtcjoohaagdihlaaDoorCirc3b
import Derived.Test.YtcjoohaagdihlaaDoorCirc5
import Derived.Test.YtcjoohaagdihlaaDoorCirc6
import Derived.Test.YtcjoohaagdihlaaDoorCirc7
import Derived.Test.YtcjoohaagdihlaaDoorStart2
import Derived.Test.YtcjoohaagdihlaaDoorCubeText5
namespace Go.Proofs.YtcjoohaagdihlaaDoor.Circ
open Go.RowKit Go.Lt Go.Proofs.YtcjoohaagdihlaaDoor.Lit Go.Proofs.YtcjoohaagdihlaaDoor.CubeHas Go.Proofs.YtcjoohaagdihlaaDoor.CubeStart Go.Proofs.YtcjoohaagdihlaaDoor.CubeText
set_option linter.unusedVariables false
set_option linter.unusedSimpArgs false

theorem sameB_self (a : List Bool) : sameB a a = true := decide_eq_true rfl
/-- whether one of the first states is in the cube -/
def anyN (rs cl : List Int) (L k : Nat) : Bool := (List.range k).any fun n => startsB rs (bitsOf n L) && hasS cl (bitsOf n L)
theorem anyN_succ (rs cl : List Int) (L k : Nat) : anyN rs cl L (k + 1) = (anyN rs cl L k || (startsB rs (bitsOf k L) && hasS cl (bitsOf k L))) := by
  unfold anyN; rw [List.range_succ, List.any_append]; simp
/-- the first state in a cube, or nothing -/
def slOf (rs cl : List Int) : List Bool := if hasS cl (startS rs cl) = true then startS rs cl else []
theorem start_sl {rs cl : List Int} {w w' : World} {e : Ending} (h : StartIs rs cl w e w') : ∃ A m k, e = .returned (.tuple #[.slice A m k, .bool (hasS cl (startS rs cl))]) ∧ Rd w' A m (bvs (slOf rs cl)) ∧ m ≤ rs.length ∧ Below w.heap.size w w' := by
  obtain ⟨u, b, rfl, hb, hbel, h1⟩ := h
  subst hb
  rcases h1 with ⟨h2, A, k, rfl, h3⟩ | ⟨h2, rfl⟩
  · exact ⟨A, _, k, rfl, by unfold slOf; rw [if_pos h2]; exact h3, Nat.le_refl _, hbel⟩
  · exact ⟨none, 0, 0, rfl, by unfold slOf; rw [h2]; exact Rd.nil _ _, Nat.zero_le _, hbel⟩
set_option maxRecDepth 8000 in
set_option maxHeartbeats 4000000 in
theorem starts (v : Cv) (c : Ci) (C : Option Addr) (n d : Nat) (cl : List Int) (w : World) (hs : Signs w) (hi : CiIs w v c) (hn0 : n ≤ maxLen) (hrc : Rd w C n (ivs cl)) (hw : Wfs cl) (hlen : CiLen v) :
    Calls Tryd.prog 3 #[.agg (cells9 c.max v), .slice C n d] w fun e w' => e = .returned (.bool true) ∧ Below w.heap.size w w' := by
  have hb1 := (Below.refl w.heap.size w).alloc (Nat.le_refl _) (.cells (cells9 c.max v) 27)
  have q1 := Blk.new w 27 (cells9 c.max v)
  have hi1 := hi.below hb1 (Nat.le_refl _)
  obtain ⟨W1, hW1⟩ : ∃ W1, w.alloc (.cells (cells9 c.max v) 27) = W1 := ⟨_, rfl⟩
  rw [hW1] at hb1 q1 hi1
  have hlt1 : w.heap.size < W1.heap.size := q1.lt
  have hb1 := hide hb1
  have hrc1 := hide (hrc.below hb1.out (Nat.le_refl _))
  have hln := hide hlen
  have hsg := hide hs
  have hn0 := hide hn0
  have hwf := hide hw
  have hS0 := hide (law_Small v c W1 hi1)
  have hLL : v.lat.n ≤ 9223372036854775807 := hlen.lat
  have hLC : n ≤ 9223372036854775807 := hn0.out
  clear hi hrc hlen hs hw
  have s0 : W1.cell? ⟨w.heap.size, 0, none⟩ = some (.int .i64 c.max) := (q1).cell 0
  have s1 : W1.cell? ⟨w.heap.size, 1, none⟩ = some (.slice v.ins.A v.ins.n v.ins.c) := (q1).cell 1
  have s2 : W1.cell? ⟨w.heap.size, 2, none⟩ = some (.slice v.lat.A v.lat.n v.lat.c) := (q1).cell 2
  have s3 : W1.cell? ⟨w.heap.size, 3, none⟩ = some (.slice v.outs.A v.outs.n v.outs.c) := (q1).cell 3
  have s4 : W1.cell? ⟨w.heap.size, 4, none⟩ = some (.slice v.bads.A v.bads.n v.bads.c) := (q1).cell 4
  have s5 : W1.cell? ⟨w.heap.size, 5, none⟩ = some (.slice v.cons.A v.cons.n v.cons.c) := (q1).cell 5
  have s6 : W1.cell? ⟨w.heap.size, 6, none⟩ = some (.slice v.gat.A v.gat.n v.gat.c) := (q1).cell 6
  have s7 : W1.cell? ⟨w.heap.size, 7, none⟩ = some (.slice v.sym.A v.sym.n v.sym.c) := (q1).cell 7
  have s8 : W1.cell? ⟨w.heap.size, 8, none⟩ = some (.string v.com) := (q1).cell 8
  go_enter Tryd.func3, Tryd.ntmps3
  go_wp2_with fail
  refine hS0.out.mono ?_
  rintro e w2 ⟨b, rfl, hb2, hG⟩
  have q2 := q1.below hb2 hlt1
  have hbw := hide (hb1.out.trans (hb2.mono hb1.out.size))
  clear s0 s1 s2 s3 s4 s5 s6 s7 s8
  have s0 : w2.cell? ⟨w.heap.size, 0, none⟩ = some (.int .i64 c.max) := (q2).cell 0
  have s1 : w2.cell? ⟨w.heap.size, 1, none⟩ = some (.slice v.ins.A v.ins.n v.ins.c) := (q2).cell 1
  have s2 : w2.cell? ⟨w.heap.size, 2, none⟩ = some (.slice v.lat.A v.lat.n v.lat.c) := (q2).cell 2
  have s3 : w2.cell? ⟨w.heap.size, 3, none⟩ = some (.slice v.outs.A v.outs.n v.outs.c) := (q2).cell 3
  have s4 : w2.cell? ⟨w.heap.size, 4, none⟩ = some (.slice v.bads.A v.bads.n v.bads.c) := (q2).cell 4
  have s5 : w2.cell? ⟨w.heap.size, 5, none⟩ = some (.slice v.cons.A v.cons.n v.cons.c) := (q2).cell 5
  have s6 : w2.cell? ⟨w.heap.size, 6, none⟩ = some (.slice v.gat.A v.gat.n v.gat.c) := (q2).cell 6
  have s7 : w2.cell? ⟨w.heap.size, 7, none⟩ = some (.slice v.sym.A v.sym.n v.sym.c) := (q2).cell 7
  have s8 : w2.cell? ⟨w.heap.size, 8, none⟩ = some (.string v.com) := (q2).cell 8
  cases b
  case false =>
    clear hG
    go_wp2_with fail
    refine (lives _ (hsg.out.below hbw.out)).mono ?_
    rintro e wl ⟨rfl, hbl⟩
    have hbl := hide (hbw.out.trans (hbl.mono hbw.out.size))
    go_wp2
    go_ret
    exact ⟨rfl, hbl.out⟩
  have hG2 : Hid (FewOk 30 v ∧ c.max ≤ 300 ∧ GoodC c) := hG rfl
  clear hG
  have hL30 : (v.lat.n : Int) ≤ 30 := hG2.out.1.lat
  by_cases h8 : v.lat.n ≤ 8
  case neg =>
    have h8I : (8 : Int) < v.lat.n := by omega
    go_wp2_with fail
    refine (lives _ (hsg.out.below hbw.out)).mono ?_
    rintro e wl ⟨rfl, hbl⟩
    have hbl := hide (hbw.out.trans (hbl.mono hbw.out.size))
    go_wp2
    go_ret
    exact ⟨rfl, hbl.out⟩
  have h8I : ¬ (8 : Int) < v.lat.n := by omega
  have h8I2 : decide ((8 : Int) < v.lat.n) = false := by simpa using h8I
  by_cases h60 : n ≤ 60
  case neg =>
    have h60I : (60 : Int) < n := by omega
    go_wp2_with fail
    refine (lives _ (hsg.out.below hbw.out)).mono ?_
    rintro e wl ⟨rfl, hbl⟩
    have hbl := hide (hbw.out.trans (hbl.mono hbw.out.size))
    go_wp2
    go_ret
    exact ⟨rfl, hbl.out⟩
  have h60I : ¬ (60 : Int) < n := by omega
  have hi2 := hide (hi1.below hb2 (Nat.le_refl _))
  have hrc2 := hide (hrc1.out.below hb2 (Nat.le_refl _))
  have hq2 := hide q2
  have hlw2 : w.heap.size < w2.heap.size := q2.lt
  have hO := hide (law_Own v c c.max w2 hG2.out.1 hi2.out)
  clear q1 hi1 hb2 hrc1 hLL hLC
  go_wp2_with fail
  refine hO.out.mono ?_
  rintro e w3 ⟨s, rfl, hsn, hsl, hb3⟩
  have hsl := hide hsl
  have hb3 := hide hb3
  clear s0 s1 s2 s3 s4 s5 s6 s7 s8
  go_wp2_with (at_builtin; refine wpList_fresh rfl _ _ rfl (by first | rfl | simp [go_sem]) (by first | rfl | simp [go_sem]) (hrc2.out.below hb3.out (Nat.le_refl _)) (by omega) ?_; intro v4 w4 hown4 hb4; obtain ⟨A4, c4, rfl, _, _, hr4⟩ := Rd.of_own hown4; clear hown4; have hsl := hide (hsl.out.below hb4 (Nat.le_refl _)); have hb4 := hide (hb3.out.trans (hb4.mono hb3.out.size)); have hr4 := hide hr4)
  refine (cube_Start s c A4 n c4 cl w4 c.max (by omega) (by omega) hwf.out hsl.out hr4.out).mono ?_
  rintro e w5 hst
  obtain ⟨U1, m1, k1, rfl, hr1, hm1, hb5⟩ := start_sl hst
  obtain ⟨g, hg⟩ : ∃ g, hasS cl (startS (rsOf c.lat) cl) = g := ⟨_, rfl⟩
  rw [hg]
  have hg := hide hg
  have hb5 := hide (hb4.out.trans (hb5.mono hb4.out.size))
  have hr1 := hide hr1
  have q5 := hide (hq2.out.below hb5.out hq2.out.lt)
  have hi5 := hide (hi2.out.below hb5.out (Nat.le_refl _))
  have hrc5 := hide (hrc2.out.below hb5.out (Nat.le_refl _))
  have hlat := hide (show (rsOf c.lat).length = v.lat.n by unfold rsOf; rw [List.length_map]; exact hi2.out.lat.1)
  have hm1 := hide hm1
  clear hst hb3 hb4 hr4 hsl hsn hO
  have s0 : w5.cell? ⟨w.heap.size, 0, none⟩ = some (.int .i64 c.max) := (q5.out).cell 0
  have s1 : w5.cell? ⟨w.heap.size, 1, none⟩ = some (.slice v.ins.A v.ins.n v.ins.c) := (q5.out).cell 1
  have s2 : w5.cell? ⟨w.heap.size, 2, none⟩ = some (.slice v.lat.A v.lat.n v.lat.c) := (q5.out).cell 2
  have s3 : w5.cell? ⟨w.heap.size, 3, none⟩ = some (.slice v.outs.A v.outs.n v.outs.c) := (q5.out).cell 3
  have s4 : w5.cell? ⟨w.heap.size, 4, none⟩ = some (.slice v.bads.A v.bads.n v.bads.c) := (q5.out).cell 4
  have s5 : w5.cell? ⟨w.heap.size, 5, none⟩ = some (.slice v.cons.A v.cons.n v.cons.c) := (q5.out).cell 5
  have s6 : w5.cell? ⟨w.heap.size, 6, none⟩ = some (.slice v.gat.A v.gat.n v.gat.c) := (q5.out).cell 6
  have s7 : w5.cell? ⟨w.heap.size, 7, none⟩ = some (.slice v.sym.A v.sym.n v.sym.c) := (q5.out).cell 7
  have s8 : w5.cell? ⟨w.heap.size, 8, none⟩ = some (.string v.com) := (q5.out).cell 8
  go_wp2_with fail
  refine (ref_Start v c C n d cl w5 (by omega) (by omega) hwf.out hi5.out hrc5.out).mono ?_
  rintro e w6 hst
  obtain ⟨U2, m2, k2, rfl, hr2, hm2, hb6⟩ := start_sl hst
  rw [hg.out]
  have hr1 := hide (hr1.out.below hb6 (Nat.le_refl _))
  have hr2 := hide hr2
  have q6 := hide (q5.out.below hb6 q5.out.lt)
  have hi6 := hide (hi5.out.below hb6 (Nat.le_refl _))
  have hrc6 := hide (hrc5.out.below hb6 (Nat.le_refl _))
  have hb6 := hide (hb5.out.trans (hb6.mono hb5.out.size))
  have hm2 := hide hm2
  clear hst hb5 q5 hi5 hrc5
  clear s0 s1 s2 s3 s4 s5 s6 s7 s8
  go_wp2_with fail
  refine (bits_Same U1 U2 m1 m2 k1 k2 _ _ w6 (by have := hm1.out; have := hlat.out; omega) hr1.out hr2.out).mono ?_
  rintro e w7 ⟨rfl, hd7⟩
  rw [sameB_self]
  have hb67 := hide (hd7.below w6.heap.size)
  have q7 := hide (q6.out.dr hd7)
  have hi7 := hide (hi6.out.below hb67.out (Nat.le_refl _))
  have hrc7 := hide (hrc6.out.below hb67.out (Nat.le_refl _))
  have hr1 := hide (hr1.out.below hb67.out (Nat.le_refl _))
  have hb7 := hide (hb6.out.trans (hb67.out.mono hb6.out.size))
  clear hd7 hb6 hr2 hm2 q6 hi6 hrc6 hb67
  have s0 : w7.cell? ⟨w.heap.size, 0, none⟩ = some (.int .i64 c.max) := (q7.out).cell 0
  have s1 : w7.cell? ⟨w.heap.size, 1, none⟩ = some (.slice v.ins.A v.ins.n v.ins.c) := (q7.out).cell 1
  have s2 : w7.cell? ⟨w.heap.size, 2, none⟩ = some (.slice v.lat.A v.lat.n v.lat.c) := (q7.out).cell 2
  have s3 : w7.cell? ⟨w.heap.size, 3, none⟩ = some (.slice v.outs.A v.outs.n v.outs.c) := (q7.out).cell 3
  have s4 : w7.cell? ⟨w.heap.size, 4, none⟩ = some (.slice v.bads.A v.bads.n v.bads.c) := (q7.out).cell 4
  have s5 : w7.cell? ⟨w.heap.size, 5, none⟩ = some (.slice v.cons.A v.cons.n v.cons.c) := (q7.out).cell 5
  have s6 : w7.cell? ⟨w.heap.size, 6, none⟩ = some (.slice v.gat.A v.gat.n v.gat.c) := (q7.out).cell 6
  have s7 : w7.cell? ⟨w.heap.size, 7, none⟩ = some (.slice v.sym.A v.sym.n v.sym.c) := (q7.out).cell 7
  have s8 : w7.cell? ⟨w.heap.size, 8, none⟩ = some (.string v.com) := (q7.out).cell 8
  have hN := hide (ref_New v c w7 hG2.out.1 hG2.out.2.1 hG2.out.2.2 hi7.out)
  have hgg : (g != g) = false := by simp
  go_wp2_with fail
  refine hN.out.mono ?_
  rintro e w8 ⟨gM, rfl, hb8, hcM, hgM⟩
  have q8 := hide (q7.out.below hb8 q7.out.lt)
  have hi8 := hide (hi7.out.below hb8 (Nat.le_refl _))
  have hrc8 := hide (hrc7.out.below hb8 (Nat.le_refl _))
  have hr1 := hide (hr1.out.below hb8 (Nat.le_refl _))
  have hW8 := hide (Nat.le_trans hb7.out.size hb8.size)
  have hbw8 := hide (hbw.out.trans ((hb7.out.mono hbw.out.size).trans (hb8.mono (Nat.le_trans hbw.out.size hb7.out.size))))
  have hcM := hide hcM
  clear hb7 hb8 hN hi7 q7 hrc7 hgM hgg
  clear s0 s1 s2 s3 s4 s5 s6 s7 s8
  go_wp2
  go_loopw [10, 11] (fun a i wr => ∃ k : Nat, k ≤ 256 ∧ i = .int .i64 k ∧ (∃ b : Bool, a = .bool b ∧ Hid (anyN (rsOf c.lat) cl v.lat.n k = b)) ∧ Below w8.heap.size w8 wr) (fun _ i _ => 256 - (intOf i).toNat)
  case atStart => exact ⟨0, Nat.zero_le _, rfl, ⟨false, rfl, hide (by unfold anyN; simp)⟩, Below.refl _ _⟩
  case round =>
    obtain ⟨k, hk, rfl, ⟨b, rfl, hany⟩, hb⟩ := hrel
    have hkI : (k : Int) ≤ 256 := by omega
    have q := q8.out.below hb q8.out.lt
    by_cases hlt : k < 256
    · have hltI : (k : Int) < 256 := by omega
      have cL : wr.cell? ⟨w.heap.size, 2, none⟩ = some (.slice v.lat.A v.lat.n v.lat.c) := q.cell 2
      have HS := hide (anyN_succ (rsOf c.lat) cl v.lat.n k)
      rw [hany.out] at HS
      go_wp2_with fail
      refine (ref_Bits k v.lat.n wr (by omega) (by omega)).mono ?_
      rintro e w9 ⟨x, rfl, hown, hb9⟩
      obtain ⟨X, cX, rfl, _, _, hrX⟩ := Rd.of_own hown
      have hb9 := hide (hb.trans (hb9.mono hb.size))
      have hrX := hide hrX
      clear hown cL q
      cases b
      case true =>
        have HS2 := hide (show anyN (rsOf c.lat) cl v.lat.n (k + 1) = true by rw [HS.out]; rfl)
        clear HS
        go_wp2
        go_roundw
        case rel => exact ⟨k + 1, hlt, by go_num, ⟨true, rfl, HS2⟩, hb9.out⟩
        case measure => simp [intOf]; omega
      obtain ⟨b1, h1⟩ : ∃ b1, startsB (rsOf c.lat) (bitsOf k v.lat.n) = b1 := ⟨_, rfl⟩
      obtain ⟨b2, h2⟩ : ∃ b2, hasS cl (bitsOf k v.lat.n) = b2 := ⟨_, rfl⟩
      rw [h1, h2] at HS
      have HM := hide (m_Starts gM v.lat.A X v.lat.n v.lat.n v.lat.c cX c.lat (bitsOf k v.lat.n) w9 (by omega) (by omega) ((hb9.out.cell (World.block_lt_of_cell? _ _ hcM.out)).trans hcM.out) (hi8.out.lat.below hb9.out (Nat.le_refl _)) hrX.out)
      have HH := hide (ref_HasS C X n v.lat.n d cX cl (bitsOf k v.lat.n) w9 (by omega) (by omega) (hrc8.out.below hb9.out (Nat.le_refl _)) hrX.out hwf.out)
      rw [h1] at HM
      rw [h2] at HH
      clear h1 h2
      go_wp2_with fail
      refine HM.out.mono ?_
      rintro e w10 ⟨rfl, rfl⟩
      cases b1
      case false =>
        have HS2 := hide (show anyN (rsOf c.lat) cl v.lat.n (k + 1) = false by rw [HS.out]; rfl)
        clear HS
        go_wp2
        go_roundw
        case rel => exact ⟨k + 1, hlt, by go_num, ⟨false, rfl, HS2⟩, hb9.out⟩
        case measure => simp [intOf]; omega
      have HS2 := hide (show anyN (rsOf c.lat) cl v.lat.n (k + 1) = b2 by rw [HS.out]; simp)
      clear HS
      go_wp2_with fail
      refine HH.out.mono ?_
      rintro e w11 ⟨rfl, hd11⟩
      have hb11 := hide (hb9.out.trans (hd11.below w8.heap.size))
      clear hd11
      go_wp2
      go_roundw
      case rel => exact ⟨k + 1, hlt, by go_num, ⟨b2, rfl, HS2⟩, hb11.out⟩
      case measure => simp [intOf]; omega
    · have hk256 : k = 256 := by omega
      subst hk256
      have hbg : b = g := by
        rw [← hany.out, ← hg.out]
        have := any_start (rsOf c.lat) cl hG2.out.2.2.resets (by rw [hlat.out]; exact h8)
        rw [hlat.out] at this
        exact this
      subst hbg
      have hbF := hide (hbw8.out.trans (hb.mono (Nat.le_trans hbw.out.size hW8.out)))
      cases b
      case false =>
        go_wp2_with fail
        refine (lives _ (hsg.out.below hbF.out)).mono ?_
        rintro e wl ⟨rfl, hbl⟩
        have hbl := hide (hbF.out.trans (hbl.mono hbF.out.size))
        go_wp2
        go_ret
        exact ⟨rfl, hbl.out⟩
      have hsl : Hid (slOf (rsOf c.lat) cl = startS (rsOf c.lat) cl) := by unfold slOf; rw [hg.out]; rfl
      have hr1 := hr1.out
      rw [hsl.out] at hr1
      have hr1 := hr1.below hb (Nat.le_refl _)
      have hm1n : (startS (rsOf c.lat) cl).length = m1 := hr1.len
      have hm1e : m1 ≤ 30 := by have := hm1.out; have := hlat.out; omega
      have HM := hide (m_Starts gM v.lat.A U1 v.lat.n m1 v.lat.c k1 c.lat (startS (rsOf c.lat) cl) wr (by omega) (by omega) ((hb.cell (World.block_lt_of_cell? _ _ hcM.out)).trans hcM.out) (hi8.out.lat.below hb (Nat.le_refl _)) hr1)
      have HH := hide (ref_HasS C U1 n m1 d k1 cl (startS (rsOf c.lat) cl) wr (by omega) (by omega) (hrc8.out.below hb (Nat.le_refl _)) hr1 hwf.out)
      rw [start_starts] at HM
      rw [hg.out] at HH
      clear hm1n hr1 hsl
      go_wp2_with fail
      refine HM.out.mono ?_
      rintro e w10 ⟨rfl, rfl⟩
      go_wp2_with fail
      refine HH.out.mono ?_
      rintro e w11 ⟨rfl, hd11⟩
      have hbG := hide (hbF.out.trans (hd11.below w.heap.size))
      clear hd11 hbF
      go_wp2_with fail
      refine (lives _ (hsg.out.below hbG.out)).mono ?_
      rintro e wl ⟨rfl, hbl⟩
      have hbl := hide (hbG.out.trans (hbl.mono hbG.out.size))
      go_wp2
      go_ret
      exact ⟨rfl, hbl.out⟩
end Go.Proofs.YtcjoohaagdihlaaDoor.Circ
