/- Contracts on a circuit's first state in a cube, the program's and the document's. -/
import Derived.Test.YtcjoohaagdihlaaDoorCirc2
namespace Go.Proofs.YtcjoohaagdihlaaDoor.Circ
open Go.RowKit Go.Lt Go.Proofs.YtcjoohaagdihlaaDoor.Lit Go.Proofs.YtcjoohaagdihlaaDoor.CubeHas Go.Proofs.YtcjoohaagdihlaaDoor.CubeStart
set_option linter.unusedVariables false
set_option linter.unusedSimpArgs false

theorem startS_succ {lat : List T3} {k : Nat} {x : T3} (cl : List Int) (h : lat[k]? = some x) : startN (rsOf lat) cl (k + 1) = startN (rsOf lat) cl k ++ [startB x.c cl k] := by
  rw [startN_succ, rs_get h]
/-- the first state in a cube, if there is one -/
def StartIs (rs cl : List Int) (w : World) (e : Ending) (w' : World) : Prop :=
  ∃ u b, e = .returned (.tuple #[u, .bool b]) ∧ b = hasS cl (startS rs cl) ∧ Below w.heap.size w w' ∧ ((b = true ∧ ∃ A k, u = .slice A rs.length k ∧ Rd w' A rs.length (bvs (startS rs cl))) ∨ (b = false ∧ u = .slice none 0 0))
theorem start_yes {rs cl : List Int} {w W1 w' : World} {v : Value} (h : hasS cl (startS rs cl) = true) (h1 : Below w.heap.size w W1) (hown : w'.ownsRow W1.heap.size 4 1 v rs.length (bvs (startS rs cl))) (h2 : Below W1.heap.size W1 w') : StartIs rs cl w (.returned (.tuple #[v, .bool true])) w' := by
  obtain ⟨A, c, rfl, _, _, hr⟩ := Rd.of_own hown
  exact ⟨_, _, rfl, h.symm, h1.trans (h2.mono h1.size), .inl ⟨rfl, A, c, rfl, hr⟩⟩
theorem start_no {rs cl : List Int} {w W1 w' : World} (h : hasS cl (startS rs cl) = false) (h1 : Below w.heap.size w W1) (h2 : Below W1.heap.size W1 w') : StartIs rs cl w (.returned (.tuple #[.slice none 0 0, .bool false])) w' :=
  ⟨_, _, rfl, h.symm, h1.trans (h2.mono h1.size), .inr ⟨rfl, rfl⟩⟩
theorem startB_one (cl : List Int) (k : Nat) : startB 1 cl k = true := by unfold startB; simp
theorem startB_low {r : Int} (cl : List Int) (k : Nat) (h0 : ¬ r = 1) (h : ¬ 1 < r) : startB r cl k = false := by unfold startB; simp [h0, h]
theorem startB_has {r : Int} (cl : List Int) (k : Nat) (h0 : ¬ r = 1) (h : 1 < r) : startB r cl k = hasB cl (2 * (k : Int)) := by unfold startB; simp [h0, h]
set_option maxHeartbeats 4000000 in
theorem ref_Start (v : Cv) (c : Ci) (C : Option Addr) (m d : Nat) (cl : List Int) (w : World) (hn : v.lat.n ≤ 30) (hm : m ≤ 60) (hw : Wfs cl) (hi : CiIs w v c) (hrc : Rd w C m (ivs cl)) :
    Calls Tryd.prog 18 #[.agg (cells9 c.max v), .slice C m d] w (StartIs (rsOf c.lat) cl w) := by
  have hb1 := (Below.refl w.heap.size w).alloc (Nat.le_refl _) (.cells (cells9 c.max v) 27)
  have q1 := Blk.new w 27 (cells9 c.max v)
  have hi1 := hi.below hb1 (Nat.le_refl _)
  obtain ⟨W1, hW1⟩ : ∃ W1, w.alloc (.cells (cells9 c.max v) 27) = W1 := ⟨_, rfl⟩
  rw [hW1] at hb1 q1 hi1
  have hlt1 : w.heap.size < W1.heap.size := q1.lt
  have hb1 := hide hb1
  have hrc1 := hrc.below hb1.out (Nat.le_refl _)
  have hlen := hide (show (rsOf c.lat).length = v.lat.n by unfold rsOf; rw [List.length_map]; exact hi1.lat.1)
  clear hi hrc
  go_enter Tryd.func18, Tryd.ntmps18
  go_wp2
  go_loopw [6, 7] (fun u i wr => ∃ k : Nat, k ≤ v.lat.n ∧ i = .int .i64 k ∧ wr.ownsRow W1.heap.size 4 1 u k (bvs (startN (rsOf c.lat) cl k)) ∧ Below W1.heap.size W1 wr) (fun _ i _ => v.lat.n - (intOf i).toNat)
  case atStart => exact ⟨0, Nat.zero_le _, rfl, made_empty _ _ _ _ (Nat.le_refl _), (Below.refl _ _).alloc (Nat.le_refl _) _⟩
  case round =>
    obtain ⟨k, hk, rfl, hown, hb⟩ := hrel
    have hkI : (k : Int) ≤ 30 := by omega
    have cB : wr.cell? ⟨w.heap.size, 2, none⟩ = some (.slice v.lat.A v.lat.n v.lat.c) := (q1.below hb hlt1).cell 2
    obtain ⟨U, cU, rfl, _, _, _⟩ := Rd.of_own hown
    by_cases hlt : k < v.lat.n
    · have hltI : (k : Int) < v.lat.n := by omega
      obtain ⟨ad, x, hA, hB, hx, c0, c1, c2⟩ := (hi1.lat.below hb (Nat.le_refl _)).get hlt
      rw [hA] at cB
      have HS := hide (startS_succ cl hx)
      clear hx c0 c1
      have h63 := hide (show k + 1 ≤ maxLen by unfold maxLen; omega)
      have hby := hide (show (k + 1) * 1 ≤ 140737488355328 by omega)
      obtain ⟨xa, xb, xc⟩ := x
      simp only at c2 HS
      by_cases h1 : xc = 1
      · subst h1
        have HT := hide (show startN (rsOf c.lat) cl (k + 1) = startN (rsOf c.lat) cl k ++ [true] by rw [HS.out, startB_one])
        go_wp2_with (first | (at_builtin; refine wpList_pushG rfl _ _ _ rfl Tryd.underlying30 info_b rfl (by decide) rfl (by first | rfl | simp [go_sem]) hown hb (Nat.le_refl _) rfl (by simp [Value.oneCell']) h63.out hby.out ?_; intro v6 w6 hown6 hb6 hgr6) | (go_at_call 79; refine (ref_Has C m d cl _ _ (by omega) (hrc1.below hb (Nat.le_refl _))).mono ?_; rintro e w' ⟨rfl, rfl⟩; rw [hE]))
        go_roundw
        case rel => exact ⟨k + 1, hlt, by go_num, by rw [HT.out, bvs_app]; exact hown6, hb6⟩
        case measure => simp [intOf]; omega
      · have e1 : (xc == 1) = false := by simpa using h1
        by_cases h2 : 1 < xc
        · have e2 : decide (1 < xc) = true := by simpa using h2
          obtain ⟨b, hE⟩ : ∃ b, hasB cl (2 * (k : Int)) = b := ⟨_, rfl⟩
          have HT := hide (show startN (rsOf c.lat) cl (k + 1) = startN (rsOf c.lat) cl k ++ [b] by rw [HS.out, startB_has cl k h1 h2, hE])
          clear h1 h2
          go_wp2_with (first | (at_builtin; refine wpList_pushG rfl _ _ _ rfl Tryd.underlying30 info_b rfl (by decide) rfl (by first | rfl | simp [go_sem]) hown hb (Nat.le_refl _) rfl (by simp [Value.oneCell']) h63.out hby.out ?_; intro v6 w6 hown6 hb6 hgr6) | (go_at_call 79; refine (ref_Has C m d cl _ _ (by omega) (hrc1.below hb (Nat.le_refl _))).mono ?_; rintro e w' ⟨rfl, rfl⟩; rw [hE]))
          go_roundw
          case rel => exact ⟨k + 1, hlt, by go_num, by rw [HT.out, bvs_app]; exact hown6, hb6⟩
          case measure => simp [intOf]; omega
        · have e2 : decide (1 < xc) = false := by simpa using h2
          have HT := hide (show startN (rsOf c.lat) cl (k + 1) = startN (rsOf c.lat) cl k ++ [false] by rw [HS.out, startB_low cl k h1 h2])
          clear h1 h2
          go_wp2_with (first | (at_builtin; refine wpList_pushG rfl _ _ _ rfl Tryd.underlying30 info_b rfl (by decide) rfl (by first | rfl | simp [go_sem]) hown hb (Nat.le_refl _) rfl (by simp [Value.oneCell']) h63.out hby.out ?_; intro v6 w6 hown6 hb6 hgr6) | (go_at_call 79; refine (ref_Has C m d cl _ _ (by omega) (hrc1.below hb (Nat.le_refl _))).mono ?_; rintro e w' ⟨rfl, rfl⟩; rw [hE]))
          go_roundw
          case rel => exact ⟨k + 1, hlt, by go_num, by rw [HT.out, bvs_app]; exact hown6, hb6⟩
          case measure => simp [intOf]; omega
    · have hkn : v.lat.n = k := by omega
      have hkn' : ¬ (k : Int) < v.lat.n := by omega
      have hlk : (rsOf c.lat).length = k := by rw [hlen.out, hkn]
      obtain ⟨g, hg⟩ : ∃ g, hasS cl (startS (rsOf c.lat) cl) = g := ⟨_, rfl⟩
      have hown : wr.ownsRow W1.heap.size 4 1 (.slice U k cU) k (bvs (startS (rsOf c.lat) cl)) := by unfold startS; rw [hlk]; exact hown
      have hG := hide (ref_HasS C U m k d cU cl (startS (rsOf c.lat) cl) wr (by omega) (by omega) (hrc1.below hb (Nat.le_refl _)) (by obtain ⟨_, _, hv, _, _, hr⟩ := Rd.of_own hown; injection hv with e1 e2 e3; rw [e1]; exact hr) hw)
      rw [hg] at hG
      have hown := hide hown
      go_wp2_with fail
      refine hG.out.mono ?_
      rintro e w5 ⟨rfl, hd⟩
      have hb5 := hide (hb.trans (hd.below _))
      have hown5 := hide (show w5.ownsRow W1.heap.size 4 1 (.slice U k cU) (rsOf c.lat).length (bvs (startS (rsOf c.lat) cl)) by rw [hlk]; exact hd.own hown.out)
      clear hd hG
      have hg := hide hg
      cases g
      · go_wp2
        go_ret2
        exact start_no hg.out hb1.out hb5.out
      · go_wp2
        go_ret2
        exact start_yes hg.out hb1.out hown5.out hb5.out
def mixB (rs cl : List Int) (n k : Nat) : List Bool := startN rs cl k ++ List.replicate (n - k) false
theorem mixB_get (rs cl : List Int) (n k : Nat) (h : k < n) : (mixB rs cl n k)[k]? = some false := by
  unfold mixB
  rw [List.getElem?_append_right (by rw [startN_len]; omega), startN_len, Nat.sub_self, List.getElem?_replicate, if_pos (by omega)]
theorem mixB_set (rs cl : List Int) (n k : Nat) (h : k < n) {b : Bool} (hb : startN rs cl (k + 1) = startN rs cl k ++ [b]) : (mixB rs cl n k).set k b = mixB rs cl n (k + 1) := by
  unfold mixB
  rw [List.set_append_right _ _ (by rw [startN_len]; omega), hb, startN_len, Nat.sub_self]
  rw [show n - k = (n - (k + 1)) + 1 by omega, List.replicate_succ]
  simp
set_option maxHeartbeats 4000000 in
theorem cube_Start (v : Cv) (c : Ci) (C : Option Addr) (m d : Nat) (cl : List Int) (w : World) (max : Int) (hn : v.lat.n ≤ 30) (hm : m ≤ 60) (hw : Wfs cl) (hl : RdT w v.lat.A v.lat.n c.lat) (hrc : Rd w C m (ivs cl)) :
    Calls Tryd.prog 16 #[.agg (cells9 max v), .slice C m d] w (StartIs (rsOf c.lat) cl w) := by
  obtain ⟨i0, hi, hz0, hz1, hz2⟩ := info_parts info_b
  have hb1 := (Below.refl w.heap.size w).alloc (Nat.le_refl _) (.cells (cells9 max v) 27)
  have q1 := Blk.new w 27 (cells9 max v)
  have hl1 := hl.below hb1 (Nat.le_refl _)
  have hrc1 := hrc.below hb1 (Nat.le_refl _)
  obtain ⟨W1, hW1⟩ : ∃ W1, w.alloc (.cells (cells9 max v) 27) = W1 := ⟨_, rfl⟩
  rw [hW1] at hb1 q1 hl1 hrc1
  have hlt1 : w.heap.size < W1.heap.size := q1.lt
  have hb1 := hide hb1
  have cB : W1.cell? ⟨w.heap.size, 2, none⟩ = some (.slice v.lat.A v.lat.n v.lat.c) := q1.cell 2
  have hlen := hide (show (rsOf c.lat).length = v.lat.n by unfold rsOf; rw [List.length_map]; exact hl1.1)
  clear hl hrc
  go_enter Tryd.func16, Tryd.ntmps16
  go_wp2_with (at_make; refine wpList_make_full _ rfl _ _ _ rfl W1.heap.size 4 i0 (.bool false) 1 Tryd.underlying30 hi hz0 hz1 .i64 .i64 _ _ v.lat.n rfl rfl rfl rfl (by rw [hz2]; omega) (by unfold maxLen; omega) (Nat.le_refl _) ?_; intro w1 hown1 hg1; have cB2 : w1.cell? ⟨w.heap.size, 2, none⟩ = some (.slice v.lat.A v.lat.n v.lat.c) := (q1.grown hg1 (by simp)).cell 2)
  have hbm := (Below.refl W1.heap.size W1).grown hg1 (Nat.le_refl _) (by simp)
  go_loopw [16] (fun i wr => ∃ k : Nat, k ≤ v.lat.n ∧ i = .int .i64 k ∧ wr.ownsRow W1.heap.size 4 1 (.slice (some ⟨W1.heap.size, 0, none⟩) v.lat.n v.lat.n) v.lat.n (bvs (mixB (rsOf c.lat) cl v.lat.n k)) ∧ Below W1.heap.size W1 wr)
    (fun i _ => v.lat.n - (intOf i).toNat)
  case atStart =>
    refine ⟨0, Nat.zero_le _, rfl, ?_, hbm⟩
    rw [show mixB (rsOf c.lat) cl v.lat.n 0 = List.replicate v.lat.n false by unfold mixB startN; simp]
    have e : (madeCells (Value.cells (.bool false)) (v.lat.n * 1)).toList = bvs (List.replicate v.lat.n false) := by
      show (madeCells #[Value.bool false] (v.lat.n * 1)).toList = _
      unfold bvs
      rw [toList_madeCells_one, Nat.mul_one, List.map_replicate]
    rw [← e]
    exact hown1
  case round =>
    obtain ⟨k, hk, rfl, hown, hb⟩ := hrel
    have hkI : (k : Int) ≤ 30 := by omega
    by_cases hlt : k < v.lat.n
    · have hltI : (k : Int) < v.lat.n := by omega
      obtain ⟨ad, x, hA, hB, hx, c0, c1, c2⟩ := (hl1.below hb (Nat.le_refl _)).get hlt
      have HS := hide (startS_succ cl hx)
      clear hx
      obtain ⟨xa, xb, xc⟩ := x
      simp only at c0 c1 c2 HS
      have hownA := hown.alloc (.cells #[.int .i64 xa, .int .i64 xb, .int .i64 xc] 103)
      have hbA := hb.alloc hb.size (.cells #[.int .i64 xa, .int .i64 xb, .int .i64 xc] 103)
      have hcS : (wr.alloc (.cells #[.int .i64 xa, .int .i64 xb, .int .i64 xc] 103)).cell? ⟨W1.heap.size, k, none⟩ = some (.bool false) := by
        unfold bvs at hownA
        rw [hownA.cellAt k (by omega), List.getElem?_map, mixB_get _ _ _ _ hlt]; rfl
      have hfS := hownA.frozenAt k
      have hrcA := hrc1.below hbA (Nat.le_refl _)
      have hbS := hide (hbA.setCell (p := ⟨W1.heap.size, k, none⟩) (Nat.le_refl _))
      by_cases h1 : xc = 1
      · subst h1
        have HT := hide (mixB_set _ cl v.lat.n k hlt (show startN (rsOf c.lat) cl (k + 1) = startN (rsOf c.lat) cl k ++ [true] by rw [HS.out, startB_one]))
        have hownS := hide (show ((wr.alloc (.cells #[.int .i64 xa, .int .i64 xb, .int .i64 1] 103)).setCell ⟨W1.heap.size, k, none⟩ (.bool true)).ownsRow W1.heap.size 4 1 (.slice (some ⟨W1.heap.size, 0, none⟩) v.lat.n v.lat.n) v.lat.n (bvs (mixB (rsOf c.lat) cl v.lat.n (k + 1))) by rw [← HT.out]; have := (hownA.stored k (.bool true)).1; unfold bvs at this ⊢; rw [List.map_set]; exact this)
        go_wp2
        go_roundw
        case rel => exact ⟨k + 1, hlt, by go_num, hownS.out, hbS.out _⟩
        case measure => simp [intOf]; omega
      · have e1 : (xc == 1) = false := by simpa using h1
        by_cases h2 : 1 < xc
        · have e2 : decide (1 < xc) = true := by simpa using h2
          obtain ⟨b, hE⟩ : ∃ b, hasB cl (2 * (k : Int)) = b := ⟨_, rfl⟩
          have HT := hide (mixB_set _ cl v.lat.n k hlt (show startN (rsOf c.lat) cl (k + 1) = startN (rsOf c.lat) cl k ++ [b] by rw [HS.out, startB_has cl k h1 h2, hE]))
          have hownS := hide (show ((wr.alloc (.cells #[.int .i64 xa, .int .i64 xb, .int .i64 xc] 103)).setCell ⟨W1.heap.size, k, none⟩ (.bool b)).ownsRow W1.heap.size 4 1 (.slice (some ⟨W1.heap.size, 0, none⟩) v.lat.n v.lat.n) v.lat.n (bvs (mixB (rsOf c.lat) cl v.lat.n (k + 1))) by rw [← HT.out]; have := (hownA.stored k (.bool b)).1; unfold bvs at this ⊢; rw [List.map_set]; exact this)
          clear h1 h2
          go_wp2_with (go_at_call 78; refine (lit_Has C m d cl _ _ (by omega) hrcA).mono ?_; rintro e w' ⟨rfl, rfl⟩; rw [hE])
          go_roundw
          case rel => rw [hA]; exact ⟨_, _, _, _, _, _, _, _, _, _, _, _, _, _, _, _, _, _, _, _, _, _, _, _, _, ⟨k + 1, hlt, by go_num, hownS.out, hbS.out _⟩, rfl⟩
          case measure => simp [intOf]; omega
        · have e2 : decide (1 < xc) = false := by simpa using h2
          have HT := hide (mixB_set _ cl v.lat.n k hlt (show startN (rsOf c.lat) cl (k + 1) = startN (rsOf c.lat) cl k ++ [false] by rw [HS.out, startB_low cl k h1 h2]))
          have hownS := hide (show ((wr.alloc (.cells #[.int .i64 xa, .int .i64 xb, .int .i64 xc] 103)).setCell ⟨W1.heap.size, k, none⟩ (.bool false)).ownsRow W1.heap.size 4 1 (.slice (some ⟨W1.heap.size, 0, none⟩) v.lat.n v.lat.n) v.lat.n (bvs (mixB (rsOf c.lat) cl v.lat.n (k + 1))) by rw [← HT.out]; have := (hownA.stored k (.bool false)).1; unfold bvs at this ⊢; rw [List.map_set]; exact this)
          clear h1 h2
          go_wp2
          go_roundw
          case rel => exact ⟨k + 1, hlt, by go_num, hownS.out, hbS.out _⟩
          case measure => simp [intOf]; omega
    · have hkn : k = v.lat.n := by omega
      have hkn' : ¬ (k : Int) < v.lat.n := by omega
      obtain ⟨g, hg⟩ : ∃ g, hasS cl (startS (rsOf c.lat) cl) = g := ⟨_, rfl⟩
      have hown : wr.ownsRow W1.heap.size 4 1 (.slice (some ⟨W1.heap.size, 0, none⟩) v.lat.n v.lat.n) v.lat.n (bvs (startS (rsOf c.lat) cl)) := by
        have e : mixB (rsOf c.lat) cl v.lat.n k = startS (rsOf c.lat) cl := by unfold mixB startS; rw [hlen.out, hkn]; simp
        rw [← e]; exact hown
      have hG := hide (cube_Has C (some ⟨W1.heap.size, 0, none⟩) m v.lat.n d v.lat.n cl (startS (rsOf c.lat) cl) wr (by omega) (by omega) (hrc1.below hb (Nat.le_refl _)) (by obtain ⟨_, _, hv, _, _, hr⟩ := Rd.of_own hown; injection hv with e1 e2 e3; rw [e1]; exact hr) hw)
      rw [hg] at hG
      have hown5 := hide (show wr.ownsRow W1.heap.size 4 1 (.slice (some ⟨W1.heap.size, 0, none⟩) v.lat.n v.lat.n) (rsOf c.lat).length (bvs (startS (rsOf c.lat) cl)) by rw [hlen.out]; exact hown)
      have hb5 := hide hb
      clear hown
      go_wp2_with fail
      refine hG.out.mono ?_
      rintro e w5 ⟨rfl, rfl⟩
      clear hG
      have hg := hide hg
      cases g
      · go_wp2
        go_ret2
        exact start_no hg.out hb1.out hb5.out
      · go_wp2
        go_ret2
        exact start_yes hg.out hb1.out hown5.out hb5.out
end Go.Proofs.YtcjoohaagdihlaaDoor.Circ
