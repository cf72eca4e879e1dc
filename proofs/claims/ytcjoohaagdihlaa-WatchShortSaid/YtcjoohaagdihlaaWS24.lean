/- Texts behind a row, one behind the other: WatchS3. -/
import Derived.Test.YtcjoohaagdihlaaWS23
import Derived.OwnWalk
import Derived.Deep.LoopGhost
section
/- Run on short clauses. -/
namespace Go.Proofs.Ytcjoohaagdihlaa.Watch
open Go.RowKit Go.Lt Go.Proofs.Ytcjoohaagdihlaa.Lit Go.Proofs.Ytcjoohaagdihlaa.Sorted Go.Proofs.Ytcjoohaagdihlaa.Learn Go.Instr
open Go.Proofs.Ytcjoohaagdihlaa.Kept (Sl Sl.val)
set_option linter.unusedVariables false
set_option linter.unusedSimpArgs false

theorem ids_tr (n : Nat) : ∀ k, k ≤ n → idsP (List.replicate n true) k = (List.range k).map fun i : Nat => (i : Int)
  | 0, _ => rfl
  | k + 1, h => by
    rw [ids_succ, ids_tr n k (by omega), List.getD_eq_getElem?_getD, List.getElem?_replicate_of_lt (by omega), List.range_succ, List.map_append]
    rfl
theorem ids_at {n k : Nat} (h : k < n) : ((List.range n).map fun i : Nat => (i : Int))[k]? = some (k : Int) := by
  rw [List.getElem?_map, List.getElem?_range h]; rfl
section
variable {base lo : Nat} {W W' : World} {p mA mN mS mB q pt gv gm nls : Nat} {rows r2 : List (List Int)} {vals : List Int} {P : List (Sl × List Int)}
/-- a short clause as it lies: what Run's first loop reads -/
theorem ShB.row (h : ShB base lo p mA mN mS mB q pt gv gm rows r2 vals nls P W) {k : Nat} {row : List Int} (hk : rows[k]? = some row) :
    ∃ (al : List (Int × Value)) (b : Nat) (sA : Option Addr) (sc : Nat), W.cell? ⟨p, 2, none⟩ = some (.map (some mA)) ∧ MapS W Lt.encI mA al ∧ (mget al (k : Int)).getD (.pointer none) = .pointer (some ⟨b, 0, none⟩) ∧ W.cell? ⟨b, 0, none⟩ = some (.slice sA row.length sc) ∧ Rd W sA row.length (ivs row) ∧ ShortC 9 row := by
  obtain ⟨T, al, nl, sl, bl, cv, iv, lv, sls, mk, ls, h, hl⟩ := h
  obtain ⟨b, ⟨sA, sn, sc⟩, g1, g2, g3⟩ := h.wt k row hk
  have hln := g3.len
  simp only at hln
  subst hln
  exact ⟨al, b, sA, sc, h.ke.st.box.cell 2, h.ke.st.all, by rw [g1]; rfl, g2.cell 0, g3.1, h.sh row (List.mem_of_getElem? hk)⟩
theorem ShB.boxes (h : ShB base lo p mA mN mS mB q pt gv gm rows r2 vals nls P W) : ∃ (sl : List (Int × Value)), W.cell? ⟨p, 4, none⟩ = some (.map (some mS)) ∧ MapS W Lt.encI mS sl ∧ KeysAre sl (tr rows) := by
  obtain ⟨T, al, nl, sl, bl, cv, iv, lv, sls, mk, ls, h, hl⟩ := h
  exact ⟨sl, h.ke.st.box.cell 4, h.ke.st.short, h.ks⟩
theorem ShB.fresh (h : ShB base lo p mA mN mS mB q pt gv gm rows r2 vals nls P W) : W.cell? ⟨p, 5, none⟩ = some nilv ∧ W.cell? ⟨p, 6, none⟩ = some (.map (some mB)) := by
  obtain ⟨T, al, nl, sl, bl, cv, iv, lv, sls, mk, ls, h, hl⟩ := h
  exact ⟨h.ke.st.box.cell 5, h.ke.st.box.cell 6⟩
theorem shB_ListO (h : ShB base lo p mA mN mS mB q pt gv gm rows r2 vals nls P W) (hn : nls ≤ 1000000) : Calls Try.prog 118 #[.pointer (some ⟨pt, 0, none⟩)] W fun e w' => ∃ (v : Value) (ls : List Int), e = .returned v ∧ w'.ownsRow W.heap.size 3 1 v nls (ivs ls) ∧ Below W.heap.size W w' := by
  obtain ⟨T, al, nl, sl, bl, cv, iv, lv, sls, mk, ls, h, hl⟩ := h
  refine (list_ex h.tm (by omega)).mono ?_
  rintro e w' ⟨v, he, ho, hb⟩
  rw [hl] at ho
  exact ⟨v, ls, he, ho, hb⟩
/-- what Run comes to -/
def RunIs (base lo : Nat) (p mA mN mS mB q pt gv gm : Nat) (rows r2 : List (List Int)) (vals : List Int) (nls : Nat) (P : List (Sl × List Int)) (W : World) (e : Ending) (w' : World) : Prop :=
  ∃ a b c : Int, e = .returned (.tuple #[.int .i64 a, .int .i64 b, .int .i64 c]) ∧ ∃ (vals' : List Int) (nls' : Nat), nls' ≤ nls + rows.length ∧ ShB base lo p mA mN mS mB q pt gv gm rows r2 vals' nls' P w' ∧ Below base W w' ∧ ((runU vals rows = some vals' ∧ c = -1) ∨ (runU vals rows = none ∧ 0 ≤ c))
theorem runU_cons (v : List Int) (x : Int) (t : List Int) (cs : List (List Int)) : runU v ((x :: t) :: cs) = if litV v x = 0 then none else if litV v x = 1 then runU v cs else runU (setV v x) cs := rfl
theorem drop_row {rows : List (List Int)} {k : Nat} {row : List Int} (h : rows[k]? = some row) : rows.drop k = row :: rows.drop (k + 1) := by
  obtain ⟨hk, e⟩ := List.getElem?_eq_some_iff.1 h
  rw [List.drop_eq_getElem_cons hk, e]
set_option maxRecDepth 8000 in
set_option maxHeartbeats 4000000 in
theorem shB_Run (h : ShB base lo p mA mN mS mB q pt gv gm rows r2 vals nls P W) (hn : rows.length ≤ 20) (hls : nls ≤ 100) :
    Calls Try.prog 61 #[.pointer (some ⟨p, 0, none⟩), .pointer (some ⟨pt, 0, none⟩), .int .i64 nls] W (RunIs base lo p mA mN mS mB q pt gv gm rows r2 vals nls P W) := by
  obtain ⟨sl, k4, hsl, hks⟩ := h.boxes
  have HL := hide (shB_Len h)
  have hbm := (Below.refl W.heap.size W).alloc (Nat.le_refl _) (.cells #[.map (some mS)] 108)
  obtain ⟨n, hnr⟩ : ∃ n, rows.length = n := ⟨_, rfl⟩
  have hlen := hks.len hsl.keys
  have hsrt := hks.sorted
  have htl : (tr rows).length = n := by simp [hnr]
  rw [htl] at hlen hsrt
  have hids : idsP (tr rows) n = (List.range n).map fun i : Nat => (i : Int) := by unfold tr; rw [hnr]; exact ids_tr n n (Nat.le_refl _)
  rw [hids] at hlen hsrt
  have hil : ((List.range n).map fun i : Nat => (i : Int)).length = n := by simp
  rw [hil] at hlen
  have HS := hide (sorted_A (Bm := W.heap.size) (w := W.alloc (.cells #[.map (some mS)] 108)) (by simp) ((Blk.new W 108 #[.map (some mS)]).cell 0) (hsl.alloc _) (by omega))
  unfold SortedIs at HS
  rw [hsrt, List.length_map, hlen] at HS
  rw [hnr] at hn
  have hnI : (n : Int) ≤ 20 := by omega
  have hlsI : (nls : Int) ≤ 100 := by omega
  have hmx : max (nls : Int) 0 = nls := by omega
  have hbase := h.base_le
  replace hbm := hide hbm
  replace h := hide h
  replace hnr := hide hnr
  clear hsl hks hlen hsrt htl hids hil
  go_enter Try.func61, Try.ntmps61
  go_wp2_with (first | (go_at_call 62; refine HL.out.mono ?_; rintro e w' ⟨rfl, rfl⟩) | (go_at_call 115; refine (keys_A (some mS) _).mono ?_; rintro e w' ⟨rfl, rfl⟩) | (go_at_call 114; refine HS.out.mono ?_; rintro e w2 ⟨v2, rfl, hown2, hb2⟩; obtain ⟨A2, c2, rfl, _, _, _⟩ := Rd.of_own hown2))
  have hB2 := hide ((h.out.keep hbm.out).protect hb2 (s := ⟨A2, n, c2⟩) hown2)
  have hb02 := hide ((hbm.out.trans (hb2.mono (by simp))).mono hbase)
  clear hown2 hb2 hbm HL HS k4
  obtain ⟨ids, hid⟩ : ∃ ids, ((List.range n).map fun i : Nat => (i : Int)) = ids := ⟨_, rfl⟩
  rw [hid] at hB2
  replace hid := hide hid
  go_loopg [39] n (fun gk i wr => ∃ (k : Nat) (cur : List Int) (nl : Nat), k ≤ n ∧ n - k ≤ gk ∧ i = .int .i64 k ∧ nl ≤ nls + k ∧ Hid (runU vals rows = runU cur (rows.drop k)) ∧ Hid (ShB base lo p mA mN mS mB q pt gv gm rows r2 cur nl ((⟨A2, n, c2⟩, ids) :: P) wr) ∧ Hid (Below base W wr))
  case atStart => exact ⟨0, vals, nls, Nat.zero_le _, Nat.le_refl _, rfl, Nat.le_refl _, hide rfl, hB2, hb02⟩
  case round =>
    obtain ⟨k, cur, nl, hk, hgk, rfl, hnl, hrun, hB, hb⟩ := hrel
    clear hB2 hb02
    have hkI : (k : Int) ≤ 20 := by omega
    by_cases hlt : k < n
    · have hltI : (k : Int) < n := by omega
      obtain ⟨ad, x0, hA2, hlA, hx0, hci⟩ := (hB.out.read List.mem_cons_self).get hlt
      have hxk : x0 = (k : Int) := by
        have := ids_at hlt
        rw [hid.out, hx0] at this
        injection this
      subst hxk
      simp only at hA2
      subst hA2
      have hkr : k < rows.length := by have := hnr.out; omega
      obtain ⟨row, hrow⟩ : ∃ row, rows[k]? = some row := ⟨_, List.getElem?_eq_getElem hkr⟩
      obtain ⟨al, b, sA, sc, k2, hal, hga, hcb, hrd, hsc⟩ := hB.out.row hrow
      have hdr := drop_row hrow
      have HLn := hide (shB_Len hB.out)
      replace hal := hide hal
      clear hx0 hrow hkr
      rcases hsc.is with rfl | ⟨x, rfl, hx2, hx9, hxg⟩
      · have hnone := hide (show runU vals rows = none by rw [hrun.out, hdr]; rfl)
        clear hrd hdr hsc
        go_wp2_with (at_lookup; refine wpList_lookupO (keyLaw_int Try.underlying3) mapAU zero_pw rfl _ _ rfl hal.out.toO k (by rfl) (by rfl) ?_; rw [hga])
        go_quiet (fail)
        obtain ⟨w5, hwe, hde⟩ : ∃ wq, wr.drewN nq = wq ∧ Dr wr wq := ⟨_, rfl, (Dr.refl wr).more nq⟩
        rw [hwe]
        replace hB := hide (hB.out.keep (hde.below _))
        replace hb := hide (hb.out.trans ((hde.below _).mono (Nat.le_trans hbase hb.out.size)))
        clear hwe hde
        go_wp2_with (go_at_call 62; refine (shB_Len hB.out).mono ?_; rintro e w6 ⟨rfl, rfl⟩)
        go_ret3
        have hnn := hnr.out
        exact ⟨_, _, _, rfl, cur, nl, by omega, hB.out.less (fun y hy => List.mem_cons_of_mem _ hy), hb.out, .inr ⟨hnone.out, by omega⟩⟩
      · obtain ⟨ad0, x1, hsA, hlt0, hx1, hcx⟩ := hrd.get (k := 0) (by simp)
        have hxx : x1 = x := by injection hx1 with hx1; exact hx1.symm
        subst hxx
        subst hsA
        have hadd : ad0.add 0 = ad0 := by unfold Addr.add; rw [if_pos rfl]
        rw [hadd] at hcx
        clear hx1 hadd
        have hlk : Hid (MapS wr Lt.encI mA al) := hal
        rcases litV_three cur x1 with hv | hv | hv
        · have hrunN := hide (show runU vals rows = none by rw [hrun.out, hdr, runU_cons]; simp [hv])
          clear hdr hrun
          go_wp2_with (at_lookup; refine wpList_lookupO (keyLaw_int Try.underlying3) mapAU zero_pw rfl _ _ rfl hal.out.toO k (by rfl) (by rfl) ?_; rw [hga])
          refine wp_region_slots [52, 53, 54, 55, 56, 57, 58, 59, 60, 61, 62, 63, 64, 65] (fun D g wz => g 0 = .pointer (some ⟨p, 0, none⟩) ∧ g 1 = .pointer (some ⟨pt, 0, none⟩) ∧ g 12 = .int .i64 k ∧ g 13 = .slice (some ad0) 1 sc ∧ (¬ D 11 → Dr wr wz) ∧ (D 11 → D 10) ∧ (D 11 → D 7) ∧ (D 0 → g 52 = .slice (some ad0) 1 sc) ∧ (D 1 → g 53 = .int .i64 1) ∧ (D 2 → g 54 = .bool false) ∧ (D 3 → g 55 = .bool false) ∧ (D 4 → g 56 = .pointer (some ⟨pt, 0, none⟩)) ∧ (D 5 → g 57 = .slice (some ad0) 1 sc) ∧ (D 6 → g 58 = .pointer (some ad0)) ∧ (D 7 → g 59 = .int .i64 x1) ∧ (D 8 → g 60 = .pointer (some ⟨p, 0, none⟩)) ∧ (D 9 → g 61 = .int .i64 k) ∧ (D 10 → g 62 = .int .i64 (27 + k)) ∧ (D 11 → g 63 = .int .i64 11 ∧ ShB base lo p mA mN mS mB q pt gv gm rows r2 cur nl ((⟨some ad, n, c2⟩, ids) :: P) wz ∧ Below base W wz) ∧ (D 12 → g 64 = .bool true) ∧ (D 13 → g 65 = .bool true)) (by kernel_rfl) (by kernel_rfl) 209 rfl (by kernel_rfl) ?h0 ?hstep ?hdone
          case h0 => exact ⟨rfl, rfl, rfl, rfl, (fun _ => (Dr.refl wr).drew), nt0, nt0, nt0, nt0, nt0, nt0, nt0, nt0, nt0, nt0, nt0, nt0, nt0, nt0, nt0, nt0⟩
          case hstep =>
            intro D g wz i hi' hn hd' hI2
            obtain ⟨r0, r1, r12, r13, dz, c10, c7, f0, f1, f2, f3, f4, f5, f6, f7, f8, f9, f10, f11, f12, f13⟩ := hI2
            have hi' : i < 14 := hi'
            rcases (show i = 0 ∨ i = 1 ∨ i = 2 ∨ i = 3 ∨ i = 4 ∨ i = 5 ∨ i = 6 ∨ i = 7 ∨ i = 8 ∨ i = 9 ∨ i = 10 ∨ i = 11 ∨ i = 12 ∨ i = 13 by omega) with rfl | rfl | rfl | rfl | rfl | rfl | rfl | rfl | rfl | rfl | rfl | rfl | rfl | rfl
            · -- 0
              refine slot_step rfl rfl (fun az hs K hK => ?_)
              have hK : Shut _ := hK
              have e13 := hs.get 13
              rw [r13] at e13
              go_simp
              exact hK.out _ _ ⟨r0, r1, r12, r13, (fun h => dz (fun e => h (Or.inr e))), (fun h => h.elim (fun e => absurd e (by decide)) (fun h => Or.inr (c10 h))), (fun h => h.elim (fun e => absurd e (by decide)) (fun h => Or.inr (c7 h))), fun _ => rfl, kp f1, kp f2, kp f3, kp f4, kp f5, kp f6, kp f7, kp f8, kp f9, kp f10, kp f11, kp f12, kp f13⟩
            · -- 1
              have d0 := f0 (hd' 0 (by kernel_rfl))
              refine slot_step rfl rfl (fun az hs K hK => ?_)
              have hK : Shut _ := hK
              have e52 := hs.get 52
              rw [d0] at e52
              go_simp
              exact hK.out _ _ ⟨r0, r1, r12, r13, (fun h => dz (fun e => h (Or.inr e))), (fun h => h.elim (fun e => absurd e (by decide)) (fun h => Or.inr (c10 h))), (fun h => h.elim (fun e => absurd e (by decide)) (fun h => Or.inr (c7 h))), kp f0, fun _ => rfl, kp f2, kp f3, kp f4, kp f5, kp f6, kp f7, kp f8, kp f9, kp f10, kp f11, kp f12, kp f13⟩
            · -- 2
              have d1 := f1 (hd' 1 (by kernel_rfl))
              refine slot_step rfl rfl (fun az hs K hK => ?_)
              have hK : Shut _ := hK
              have e53 := hs.get 53
              rw [d1] at e53
              go_simp
              exact hK.out _ _ ⟨r0, r1, r12, r13, (fun h => dz (fun e => h (Or.inr e))), (fun h => h.elim (fun e => absurd e (by decide)) (fun h => Or.inr (c10 h))), (fun h => h.elim (fun e => absurd e (by decide)) (fun h => Or.inr (c7 h))), kp f0, kp f1, fun _ => rfl, kp f3, kp f4, kp f5, kp f6, kp f7, kp f8, kp f9, kp f10, kp f11, kp f12, kp f13⟩
            · -- 3
              have d2 := f2 (hd' 2 (by kernel_rfl))
              refine slot_step rfl rfl (fun az hs K hK => ?_)
              have hK : Shut _ := hK
              have e54 := hs.get 54
              rw [d2] at e54
              go_simp
              exact hK.out _ _ ⟨r0, r1, r12, r13, (fun h => dz (fun e => h (Or.inr e))), (fun h => h.elim (fun e => absurd e (by decide)) (fun h => Or.inr (c10 h))), (fun h => h.elim (fun e => absurd e (by decide)) (fun h => Or.inr (c7 h))), kp f0, kp f1, kp f2, fun _ => rfl, kp f4, kp f5, kp f6, kp f7, kp f8, kp f9, kp f10, kp f11, kp f12, kp f13⟩
            · -- 4
              have d3 := f3 (hd' 3 (by kernel_rfl))
              refine slot_step_yes (j := 3) (d := 55) rfl rfl rfl (by decide) (d3) (fun az hs K hK => ?_)
              have hK : Shut _ := hK
              have e55 := hs.get 55
              rw [d3] at e55
              have e1 := hs.get 1
              rw [r1] at e1
              go_simp
              exact hK.out _ _ ⟨r0, r1, r12, r13, (fun h => dz (fun e => h (Or.inr e))), (fun h => h.elim (fun e => absurd e (by decide)) (fun h => Or.inr (c10 h))), (fun h => h.elim (fun e => absurd e (by decide)) (fun h => Or.inr (c7 h))), kp f0, kp f1, kp f2, kp f3, fun _ => rfl, kp f5, kp f6, kp f7, kp f8, kp f9, kp f10, kp f11, kp f12, kp f13⟩
            · -- 5
              have d3 := f3 (hd' 3 (by kernel_rfl))
              refine slot_step_yes (j := 3) (d := 55) rfl rfl rfl (by decide) (d3) (fun az hs K hK => ?_)
              have hK : Shut _ := hK
              have e55 := hs.get 55
              rw [d3] at e55
              have e13 := hs.get 13
              rw [r13] at e13
              go_simp
              exact hK.out _ _ ⟨r0, r1, r12, r13, (fun h => dz (fun e => h (Or.inr e))), (fun h => h.elim (fun e => absurd e (by decide)) (fun h => Or.inr (c10 h))), (fun h => h.elim (fun e => absurd e (by decide)) (fun h => Or.inr (c7 h))), kp f0, kp f1, kp f2, kp f3, kp f4, fun _ => rfl, kp f6, kp f7, kp f8, kp f9, kp f10, kp f11, kp f12, kp f13⟩
            · -- 6
              have d3 := f3 (hd' 3 (by kernel_rfl))
              have d5 := f5 (hd' 5 (by kernel_rfl))
              refine slot_step_yes (j := 3) (d := 55) rfl rfl rfl (by decide) (d3) (fun az hs K hK => ?_)
              have hK : Shut _ := hK
              have e55 := hs.get 55
              rw [d3] at e55
              have e57 := hs.get 57
              rw [d5] at e57
              go_simp
              exact hK.out _ _ ⟨r0, r1, r12, r13, (fun h => dz (fun e => h (Or.inr e))), (fun h => h.elim (fun e => absurd e (by decide)) (fun h => Or.inr (c10 h))), (fun h => h.elim (fun e => absurd e (by decide)) (fun h => Or.inr (c7 h))), kp f0, kp f1, kp f2, kp f3, kp f4, kp f5, fun _ => rfl, kp f7, kp f8, kp f9, kp f10, kp f11, kp f12, kp f13⟩
            · -- 7
              have d3 := f3 (hd' 3 (by kernel_rfl))
              have d6 := f6 (hd' 6 (by kernel_rfl))
              refine slot_step_yes (j := 3) (d := 55) rfl rfl rfl (by decide) (d3) (fun az hs K hK => ?_)
              have hK : Shut _ := hK
              have cz := ((dz (fun e => hn (c7 e))).cell _).trans hcx
              have e55 := hs.get 55
              rw [d3] at e55
              have e58 := hs.get 58
              rw [d6] at e58
              go_simp
              exact hK.out _ _ ⟨r0, r1, r12, r13, (fun h => dz (fun e => h (Or.inr e))), (fun h => h.elim (fun e => absurd e (by decide)) (fun h => Or.inr (c10 h))), (fun h => h.elim (fun e => absurd e (by decide)) (fun h => Or.inr (c7 h))), kp f0, kp f1, kp f2, kp f3, kp f4, kp f5, kp f6, fun _ => rfl, kp f8, kp f9, kp f10, kp f11, kp f12, kp f13⟩
            · -- 8
              have d3 := f3 (hd' 3 (by kernel_rfl))
              refine slot_step_yes (j := 3) (d := 55) rfl rfl rfl (by decide) (d3) (fun az hs K hK => ?_)
              have hK : Shut _ := hK
              have e55 := hs.get 55
              rw [d3] at e55
              have e0 := hs.get 0
              rw [r0] at e0
              go_simp
              exact hK.out _ _ ⟨r0, r1, r12, r13, (fun h => dz (fun e => h (Or.inr e))), (fun h => h.elim (fun e => absurd e (by decide)) (fun h => Or.inr (c10 h))), (fun h => h.elim (fun e => absurd e (by decide)) (fun h => Or.inr (c7 h))), kp f0, kp f1, kp f2, kp f3, kp f4, kp f5, kp f6, kp f7, fun _ => rfl, kp f9, kp f10, kp f11, kp f12, kp f13⟩
            · -- 9
              have d3 := f3 (hd' 3 (by kernel_rfl))
              refine slot_step_yes (j := 3) (d := 55) rfl rfl rfl (by decide) (d3) (fun az hs K hK => ?_)
              have hK : Shut _ := hK
              have e55 := hs.get 55
              rw [d3] at e55
              have e12 := hs.get 12
              rw [r12] at e12
              go_simp
              exact hK.out _ _ ⟨r0, r1, r12, r13, (fun h => dz (fun e => h (Or.inr e))), (fun h => h.elim (fun e => absurd e (by decide)) (fun h => Or.inr (c10 h))), (fun h => h.elim (fun e => absurd e (by decide)) (fun h => Or.inr (c7 h))), kp f0, kp f1, kp f2, kp f3, kp f4, kp f5, kp f6, kp f7, kp f8, fun _ => rfl, kp f10, kp f11, kp f12, kp f13⟩
            · -- 10
              have d3 := f3 (hd' 3 (by kernel_rfl))
              have d8 := f8 (hd' 8 (by kernel_rfl))
              have d9 := f9 (hd' 9 (by kernel_rfl))
              refine slot_step_yes (j := 3) (d := 55) rfl rfl rfl (by decide) (d3) (fun az hs K hK => ?_)
              have hK : Shut _ := hK
              have hdz := dz (fun e => hn (c10 e))
              have hBz := hB.out.keep (hdz.below _)
              have e55 := hs.get 55
              rw [d3] at e55
              have e60 := hs.get 60
              rw [d8] at e60
              have e61 := hs.get 61
              rw [d9] at e61
              go_wp2_with (go_at_call 116; refine (shB_why hBz k (by omega)).mono ?_; rintro e wy ⟨rfl, rfl⟩)
              exact ⟨r0, r1, r12, r13, (fun h => dz (fun e => h (Or.inr e))), (fun h => h.elim (fun e => absurd e (by decide)) (fun h => Or.inr (c10 h))), (fun h => h.elim (fun e => absurd e (by decide)) (fun h => Or.inr (c7 h))), kp f0, kp f1, kp f2, kp f3, kp f4, kp f5, kp f6, kp f7, kp f8, kp f9, fun _ => rfl, kp f11, kp f12, kp f13⟩
            · -- 11
              have d3 := f3 (hd' 3 (by kernel_rfl))
              have d4 := f4 (hd' 4 (by kernel_rfl))
              have d7 := f7 (hd' 7 (by kernel_rfl))
              have d10 := f10 (hd' 10 (by kernel_rfl))
              refine slot_step_yes (j := 3) (d := 55) rfl rfl rfl (by decide) (d3) (fun az hs K hK => ?_)
              have hK : Shut _ := hK
              have hdz := dz hn
              have hBz := hB.out.keep (hdz.below _)
              have hbz := hb.out.trans ((hdz.below _).mono (Nat.le_trans hbase hb.out.size))
              have e62 := hs.get 62
              rw [d10] at e62
              have e55 := hs.get 55
              rw [d3] at e55
              have e56 := hs.get 56
              rw [d4] at e56
              have e59 := hs.get 59
              rw [d7] at e59
              go_wp2_with (go_at_call 109; refine (shB_SetNo hBz hv (by omega) (by omega) (by decide) (27 + k)).mono ?_; rintro e wy ⟨rfl, rfl⟩)
              exact ⟨r0, r1, r12, r13, (fun h => (h (by simp)).elim), (fun _ => Or.inr (hd' 10 (by kernel_rfl))), (fun _ => Or.inr (hd' 7 (by kernel_rfl))), kp f0, kp f1, kp f2, kp f3, kp f4, kp f5, kp f6, kp f7, kp f8, kp f9, kp f10, fun _ => ⟨rfl, hBz, hbz⟩, kp f12, kp f13⟩
            · -- 12
              have d3 := f3 (hd' 3 (by kernel_rfl))
              have d11 := f11 (hd' 11 (by kernel_rfl))
              refine slot_step_yes (j := 3) (d := 55) rfl rfl rfl (by decide) (d3) (fun az hs K hK => ?_)
              have hK : Shut _ := hK
              have d11 := d11.1
              have e63 := hs.get 63
              rw [d11] at e63
              have e55 := hs.get 55
              rw [d3] at e55
              go_simp
              exact hK.out _ _ ⟨r0, r1, r12, r13, (fun h => dz (fun e => h (Or.inr e))), (fun h => h.elim (fun e => absurd e (by decide)) (fun h => Or.inr (c10 h))), (fun h => h.elim (fun e => absurd e (by decide)) (fun h => Or.inr (c7 h))), kp f0, kp f1, kp f2, kp f3, kp f4, kp f5, kp f6, kp f7, kp f8, kp f9, kp f10, kp f11, fun _ => rfl, kp f13⟩
            · -- 13
              have d3 := f3 (hd' 3 (by kernel_rfl))
              have d12 := f12 (hd' 12 (by kernel_rfl))
              refine slot_step rfl rfl (fun az hs K hK => ?_)
              have hK : Shut _ := hK
              have e55 := hs.get 55
              rw [d3] at e55
              have e64 := hs.get 64
              rw [d12] at e64
              go_simp
              exact hK.out _ _ ⟨r0, r1, r12, r13, (fun h => dz (fun e => h (Or.inr e))), (fun h => h.elim (fun e => absurd e (by decide)) (fun h => Or.inr (c10 h))), (fun h => h.elim (fun e => absurd e (by decide)) (fun h => Or.inr (c7 h))), kp f0, kp f1, kp f2, kp f3, kp f4, kp f5, kp f6, kp f7, kp f8, kp f9, kp f10, kp f11, kp f12, fun _ => rfl⟩
          case hdone =>
            rintro D g wz hD ⟨r0, r1, r12, r13, dz, c10, c7, f0, f1, f2, f3, f4, f5, f6, f7, f8, f9, f10, f11, f12, f13⟩
            simp only [setAll, List.foldl_cons, List.foldl_nil, List.setIfInBounds_toArray, List.set_cons_succ, List.set_cons_zero]
            obtain ⟨_, hB9, hb9⟩ := f11 (hD 11)
            have e13 := f13 (hD 13)
            rw [e13]
            clear f0 f1 f2 f3 f4 f5 f6 f7 f8 f9 f10 f11 f12 f13 hD r0 r1 r12 r13 dz c10 c7 e13
            obtain ⟨w5, hw5⟩ : ∃ w5, w5 = wz := ⟨_, rfl⟩
            subst hw5
            replace hB9 := hide hB9
            replace hb9 := hide hb9
            clear hB hb
            go_wp2_with (go_at_call 62; refine (shB_Len hB9.out).mono ?_; rintro e w6 ⟨rfl, rfl⟩)
            go_ret3
            have hnn := hnr.out
            exact ⟨_, _, _, rfl, cur, nl, by omega, hB9.out.less (fun y hy => List.mem_cons_of_mem _ hy), hb9.out, .inr ⟨hrunN.out, by omega⟩⟩
        · have hrunN := hide (show runU vals rows = runU cur (rows.drop (k + 1)) by rw [hrun.out, hdr, runU_cons]; simp [hv])
          clear hdr hrun
          go_wp2_with (at_lookup; refine wpList_lookupO (keyLaw_int Try.underlying3) mapAU zero_pw rfl _ _ rfl hal.out.toO k (by rfl) (by rfl) ?_; rw [hga])
          refine wp_region_slots [52, 53, 54, 55, 56, 57, 58, 59, 60, 61, 62, 63, 64, 65] (fun D g wz => g 0 = .pointer (some ⟨p, 0, none⟩) ∧ g 1 = .pointer (some ⟨pt, 0, none⟩) ∧ g 12 = .int .i64 k ∧ g 13 = .slice (some ad0) 1 sc ∧ (¬ D 11 → Dr wr wz) ∧ (D 11 → D 10) ∧ (D 11 → D 7) ∧ (D 0 → g 52 = .slice (some ad0) 1 sc) ∧ (D 1 → g 53 = .int .i64 1) ∧ (D 2 → g 54 = .bool false) ∧ (D 3 → g 55 = .bool false) ∧ (D 4 → g 56 = .pointer (some ⟨pt, 0, none⟩)) ∧ (D 5 → g 57 = .slice (some ad0) 1 sc) ∧ (D 6 → g 58 = .pointer (some ad0)) ∧ (D 7 → g 59 = .int .i64 x1) ∧ (D 8 → g 60 = .pointer (some ⟨p, 0, none⟩)) ∧ (D 9 → g 61 = .int .i64 k) ∧ (D 10 → g 62 = .int .i64 (27 + k)) ∧ (D 11 → g 63 = .int .i64 7 ∧ ShB base lo p mA mN mS mB q pt gv gm rows r2 cur nl ((⟨some ad, n, c2⟩, ids) :: P) wz ∧ Below base W wz) ∧ (D 12 → g 64 = .bool false) ∧ (D 13 → g 65 = .bool false)) (by kernel_rfl) (by kernel_rfl) 209 rfl (by kernel_rfl) ?h0 ?hstep ?hdone
          case h0 => exact ⟨rfl, rfl, rfl, rfl, (fun _ => (Dr.refl wr).drew), nt0, nt0, nt0, nt0, nt0, nt0, nt0, nt0, nt0, nt0, nt0, nt0, nt0, nt0, nt0, nt0⟩
          case hstep =>
            intro D g wz i hi' hn hd' hI2
            obtain ⟨r0, r1, r12, r13, dz, c10, c7, f0, f1, f2, f3, f4, f5, f6, f7, f8, f9, f10, f11, f12, f13⟩ := hI2
            have hi' : i < 14 := hi'
            rcases (show i = 0 ∨ i = 1 ∨ i = 2 ∨ i = 3 ∨ i = 4 ∨ i = 5 ∨ i = 6 ∨ i = 7 ∨ i = 8 ∨ i = 9 ∨ i = 10 ∨ i = 11 ∨ i = 12 ∨ i = 13 by omega) with rfl | rfl | rfl | rfl | rfl | rfl | rfl | rfl | rfl | rfl | rfl | rfl | rfl | rfl
            · -- 0
              refine slot_step rfl rfl (fun az hs K hK => ?_)
              have hK : Shut _ := hK
              have e13 := hs.get 13
              rw [r13] at e13
              go_simp
              exact hK.out _ _ ⟨r0, r1, r12, r13, (fun h => dz (fun e => h (Or.inr e))), (fun h => h.elim (fun e => absurd e (by decide)) (fun h => Or.inr (c10 h))), (fun h => h.elim (fun e => absurd e (by decide)) (fun h => Or.inr (c7 h))), fun _ => rfl, kp f1, kp f2, kp f3, kp f4, kp f5, kp f6, kp f7, kp f8, kp f9, kp f10, kp f11, kp f12, kp f13⟩
            · -- 1
              have d0 := f0 (hd' 0 (by kernel_rfl))
              refine slot_step rfl rfl (fun az hs K hK => ?_)
              have hK : Shut _ := hK
              have e52 := hs.get 52
              rw [d0] at e52
              go_simp
              exact hK.out _ _ ⟨r0, r1, r12, r13, (fun h => dz (fun e => h (Or.inr e))), (fun h => h.elim (fun e => absurd e (by decide)) (fun h => Or.inr (c10 h))), (fun h => h.elim (fun e => absurd e (by decide)) (fun h => Or.inr (c7 h))), kp f0, fun _ => rfl, kp f2, kp f3, kp f4, kp f5, kp f6, kp f7, kp f8, kp f9, kp f10, kp f11, kp f12, kp f13⟩
            · -- 2
              have d1 := f1 (hd' 1 (by kernel_rfl))
              refine slot_step rfl rfl (fun az hs K hK => ?_)
              have hK : Shut _ := hK
              have e53 := hs.get 53
              rw [d1] at e53
              go_simp
              exact hK.out _ _ ⟨r0, r1, r12, r13, (fun h => dz (fun e => h (Or.inr e))), (fun h => h.elim (fun e => absurd e (by decide)) (fun h => Or.inr (c10 h))), (fun h => h.elim (fun e => absurd e (by decide)) (fun h => Or.inr (c7 h))), kp f0, kp f1, fun _ => rfl, kp f3, kp f4, kp f5, kp f6, kp f7, kp f8, kp f9, kp f10, kp f11, kp f12, kp f13⟩
            · -- 3
              have d2 := f2 (hd' 2 (by kernel_rfl))
              refine slot_step rfl rfl (fun az hs K hK => ?_)
              have hK : Shut _ := hK
              have e54 := hs.get 54
              rw [d2] at e54
              go_simp
              exact hK.out _ _ ⟨r0, r1, r12, r13, (fun h => dz (fun e => h (Or.inr e))), (fun h => h.elim (fun e => absurd e (by decide)) (fun h => Or.inr (c10 h))), (fun h => h.elim (fun e => absurd e (by decide)) (fun h => Or.inr (c7 h))), kp f0, kp f1, kp f2, fun _ => rfl, kp f4, kp f5, kp f6, kp f7, kp f8, kp f9, kp f10, kp f11, kp f12, kp f13⟩
            · -- 4
              have d3 := f3 (hd' 3 (by kernel_rfl))
              refine slot_step_yes (j := 3) (d := 55) rfl rfl rfl (by decide) (d3) (fun az hs K hK => ?_)
              have hK : Shut _ := hK
              have e55 := hs.get 55
              rw [d3] at e55
              have e1 := hs.get 1
              rw [r1] at e1
              go_simp
              exact hK.out _ _ ⟨r0, r1, r12, r13, (fun h => dz (fun e => h (Or.inr e))), (fun h => h.elim (fun e => absurd e (by decide)) (fun h => Or.inr (c10 h))), (fun h => h.elim (fun e => absurd e (by decide)) (fun h => Or.inr (c7 h))), kp f0, kp f1, kp f2, kp f3, fun _ => rfl, kp f5, kp f6, kp f7, kp f8, kp f9, kp f10, kp f11, kp f12, kp f13⟩
            · -- 5
              have d3 := f3 (hd' 3 (by kernel_rfl))
              refine slot_step_yes (j := 3) (d := 55) rfl rfl rfl (by decide) (d3) (fun az hs K hK => ?_)
              have hK : Shut _ := hK
              have e55 := hs.get 55
              rw [d3] at e55
              have e13 := hs.get 13
              rw [r13] at e13
              go_simp
              exact hK.out _ _ ⟨r0, r1, r12, r13, (fun h => dz (fun e => h (Or.inr e))), (fun h => h.elim (fun e => absurd e (by decide)) (fun h => Or.inr (c10 h))), (fun h => h.elim (fun e => absurd e (by decide)) (fun h => Or.inr (c7 h))), kp f0, kp f1, kp f2, kp f3, kp f4, fun _ => rfl, kp f6, kp f7, kp f8, kp f9, kp f10, kp f11, kp f12, kp f13⟩
            · -- 6
              have d3 := f3 (hd' 3 (by kernel_rfl))
              have d5 := f5 (hd' 5 (by kernel_rfl))
              refine slot_step_yes (j := 3) (d := 55) rfl rfl rfl (by decide) (d3) (fun az hs K hK => ?_)
              have hK : Shut _ := hK
              have e55 := hs.get 55
              rw [d3] at e55
              have e57 := hs.get 57
              rw [d5] at e57
              go_simp
              exact hK.out _ _ ⟨r0, r1, r12, r13, (fun h => dz (fun e => h (Or.inr e))), (fun h => h.elim (fun e => absurd e (by decide)) (fun h => Or.inr (c10 h))), (fun h => h.elim (fun e => absurd e (by decide)) (fun h => Or.inr (c7 h))), kp f0, kp f1, kp f2, kp f3, kp f4, kp f5, fun _ => rfl, kp f7, kp f8, kp f9, kp f10, kp f11, kp f12, kp f13⟩
            · -- 7
              have d3 := f3 (hd' 3 (by kernel_rfl))
              have d6 := f6 (hd' 6 (by kernel_rfl))
              refine slot_step_yes (j := 3) (d := 55) rfl rfl rfl (by decide) (d3) (fun az hs K hK => ?_)
              have hK : Shut _ := hK
              have cz := ((dz (fun e => hn (c7 e))).cell _).trans hcx
              have e55 := hs.get 55
              rw [d3] at e55
              have e58 := hs.get 58
              rw [d6] at e58
              go_simp
              exact hK.out _ _ ⟨r0, r1, r12, r13, (fun h => dz (fun e => h (Or.inr e))), (fun h => h.elim (fun e => absurd e (by decide)) (fun h => Or.inr (c10 h))), (fun h => h.elim (fun e => absurd e (by decide)) (fun h => Or.inr (c7 h))), kp f0, kp f1, kp f2, kp f3, kp f4, kp f5, kp f6, fun _ => rfl, kp f8, kp f9, kp f10, kp f11, kp f12, kp f13⟩
            · -- 8
              have d3 := f3 (hd' 3 (by kernel_rfl))
              refine slot_step_yes (j := 3) (d := 55) rfl rfl rfl (by decide) (d3) (fun az hs K hK => ?_)
              have hK : Shut _ := hK
              have e55 := hs.get 55
              rw [d3] at e55
              have e0 := hs.get 0
              rw [r0] at e0
              go_simp
              exact hK.out _ _ ⟨r0, r1, r12, r13, (fun h => dz (fun e => h (Or.inr e))), (fun h => h.elim (fun e => absurd e (by decide)) (fun h => Or.inr (c10 h))), (fun h => h.elim (fun e => absurd e (by decide)) (fun h => Or.inr (c7 h))), kp f0, kp f1, kp f2, kp f3, kp f4, kp f5, kp f6, kp f7, fun _ => rfl, kp f9, kp f10, kp f11, kp f12, kp f13⟩
            · -- 9
              have d3 := f3 (hd' 3 (by kernel_rfl))
              refine slot_step_yes (j := 3) (d := 55) rfl rfl rfl (by decide) (d3) (fun az hs K hK => ?_)
              have hK : Shut _ := hK
              have e55 := hs.get 55
              rw [d3] at e55
              have e12 := hs.get 12
              rw [r12] at e12
              go_simp
              exact hK.out _ _ ⟨r0, r1, r12, r13, (fun h => dz (fun e => h (Or.inr e))), (fun h => h.elim (fun e => absurd e (by decide)) (fun h => Or.inr (c10 h))), (fun h => h.elim (fun e => absurd e (by decide)) (fun h => Or.inr (c7 h))), kp f0, kp f1, kp f2, kp f3, kp f4, kp f5, kp f6, kp f7, kp f8, fun _ => rfl, kp f10, kp f11, kp f12, kp f13⟩
            · -- 10
              have d3 := f3 (hd' 3 (by kernel_rfl))
              have d8 := f8 (hd' 8 (by kernel_rfl))
              have d9 := f9 (hd' 9 (by kernel_rfl))
              refine slot_step_yes (j := 3) (d := 55) rfl rfl rfl (by decide) (d3) (fun az hs K hK => ?_)
              have hK : Shut _ := hK
              have hdz := dz (fun e => hn (c10 e))
              have hBz := hB.out.keep (hdz.below _)
              have e55 := hs.get 55
              rw [d3] at e55
              have e60 := hs.get 60
              rw [d8] at e60
              have e61 := hs.get 61
              rw [d9] at e61
              go_wp2_with (go_at_call 116; refine (shB_why hBz k (by omega)).mono ?_; rintro e wy ⟨rfl, rfl⟩)
              exact ⟨r0, r1, r12, r13, (fun h => dz (fun e => h (Or.inr e))), (fun h => h.elim (fun e => absurd e (by decide)) (fun h => Or.inr (c10 h))), (fun h => h.elim (fun e => absurd e (by decide)) (fun h => Or.inr (c7 h))), kp f0, kp f1, kp f2, kp f3, kp f4, kp f5, kp f6, kp f7, kp f8, kp f9, fun _ => rfl, kp f11, kp f12, kp f13⟩
            · -- 11
              have d3 := f3 (hd' 3 (by kernel_rfl))
              have d4 := f4 (hd' 4 (by kernel_rfl))
              have d7 := f7 (hd' 7 (by kernel_rfl))
              have d10 := f10 (hd' 10 (by kernel_rfl))
              refine slot_step_yes (j := 3) (d := 55) rfl rfl rfl (by decide) (d3) (fun az hs K hK => ?_)
              have hK : Shut _ := hK
              have hdz := dz hn
              have hBz := hB.out.keep (hdz.below _)
              have hbz := hb.out.trans ((hdz.below _).mono (Nat.le_trans hbase hb.out.size))
              have e62 := hs.get 62
              rw [d10] at e62
              have e55 := hs.get 55
              rw [d3] at e55
              have e56 := hs.get 56
              rw [d4] at e56
              have e59 := hs.get 59
              rw [d7] at e59
              go_wp2_with (go_at_call 109; refine (shB_SetNo hBz hv (by omega) (by omega) (by decide) (27 + k)).mono ?_; rintro e wy ⟨rfl, rfl⟩)
              exact ⟨r0, r1, r12, r13, (fun h => (h (by simp)).elim), (fun _ => Or.inr (hd' 10 (by kernel_rfl))), (fun _ => Or.inr (hd' 7 (by kernel_rfl))), kp f0, kp f1, kp f2, kp f3, kp f4, kp f5, kp f6, kp f7, kp f8, kp f9, kp f10, fun _ => ⟨rfl, hBz, hbz⟩, kp f12, kp f13⟩
            · -- 12
              have d3 := f3 (hd' 3 (by kernel_rfl))
              have d11 := f11 (hd' 11 (by kernel_rfl))
              refine slot_step_yes (j := 3) (d := 55) rfl rfl rfl (by decide) (d3) (fun az hs K hK => ?_)
              have hK : Shut _ := hK
              have d11 := d11.1
              have e63 := hs.get 63
              rw [d11] at e63
              have e55 := hs.get 55
              rw [d3] at e55
              go_simp
              exact hK.out _ _ ⟨r0, r1, r12, r13, (fun h => dz (fun e => h (Or.inr e))), (fun h => h.elim (fun e => absurd e (by decide)) (fun h => Or.inr (c10 h))), (fun h => h.elim (fun e => absurd e (by decide)) (fun h => Or.inr (c7 h))), kp f0, kp f1, kp f2, kp f3, kp f4, kp f5, kp f6, kp f7, kp f8, kp f9, kp f10, kp f11, fun _ => rfl, kp f13⟩
            · -- 13
              have d3 := f3 (hd' 3 (by kernel_rfl))
              have d12 := f12 (hd' 12 (by kernel_rfl))
              refine slot_step rfl rfl (fun az hs K hK => ?_)
              have hK : Shut _ := hK
              have e55 := hs.get 55
              rw [d3] at e55
              have e64 := hs.get 64
              rw [d12] at e64
              go_simp
              exact hK.out _ _ ⟨r0, r1, r12, r13, (fun h => dz (fun e => h (Or.inr e))), (fun h => h.elim (fun e => absurd e (by decide)) (fun h => Or.inr (c10 h))), (fun h => h.elim (fun e => absurd e (by decide)) (fun h => Or.inr (c7 h))), kp f0, kp f1, kp f2, kp f3, kp f4, kp f5, kp f6, kp f7, kp f8, kp f9, kp f10, kp f11, kp f12, fun _ => rfl⟩
          case hdone =>
            rintro D g wz hD ⟨r0, r1, r12, r13, dz, c10, c7, f0, f1, f2, f3, f4, f5, f6, f7, f8, f9, f10, f11, f12, f13⟩
            simp only [setAll, List.foldl_cons, List.foldl_nil, List.setIfInBounds_toArray, List.set_cons_succ, List.set_cons_zero]
            obtain ⟨_, hB9, hb9⟩ := f11 (hD 11)
            have e13 := f13 (hD 13)
            rw [e13]
            clear f0 f1 f2 f3 f4 f5 f6 f7 f8 f9 f10 f11 f12 f13 hD r0 r1 r12 r13 dz c10 c7 e13
            obtain ⟨w5, hw5⟩ : ∃ w5, w5 = wz := ⟨_, rfl⟩
            subst hw5
            replace hB9 := hide hB9
            replace hb9 := hide hb9
            clear hB hb
            go_wp2
            go_roundg (n - (k + 1))
            case measure => omega
            case rel => exact ⟨k + 1, cur, nl, hlt, Nat.le_refl _, by go_num, by omega, hrunN, hB9, hb9⟩
        · have hrunN := hide (show runU vals rows = runU (setV cur x1) (rows.drop (k + 1)) by rw [hrun.out, hdr, runU_cons]; simp [hv])
          clear hdr hrun
          go_wp2_with (at_lookup; refine wpList_lookupO (keyLaw_int Try.underlying3) mapAU zero_pw rfl _ _ rfl hal.out.toO k (by rfl) (by rfl) ?_; rw [hga])
          refine wp_region_slots [52, 53, 54, 55, 56, 57, 58, 59, 60, 61, 62, 63, 64, 65] (fun D g wz => g 0 = .pointer (some ⟨p, 0, none⟩) ∧ g 1 = .pointer (some ⟨pt, 0, none⟩) ∧ g 12 = .int .i64 k ∧ g 13 = .slice (some ad0) 1 sc ∧ (¬ D 11 → Dr wr wz) ∧ (D 11 → D 10) ∧ (D 11 → D 7) ∧ (D 0 → g 52 = .slice (some ad0) 1 sc) ∧ (D 1 → g 53 = .int .i64 1) ∧ (D 2 → g 54 = .bool false) ∧ (D 3 → g 55 = .bool false) ∧ (D 4 → g 56 = .pointer (some ⟨pt, 0, none⟩)) ∧ (D 5 → g 57 = .slice (some ad0) 1 sc) ∧ (D 6 → g 58 = .pointer (some ad0)) ∧ (D 7 → g 59 = .int .i64 x1) ∧ (D 8 → g 60 = .pointer (some ⟨p, 0, none⟩)) ∧ (D 9 → g 61 = .int .i64 k) ∧ (D 10 → g 62 = .int .i64 (27 + k)) ∧ (D 11 → g 63 = .int .i64 0 ∧ ShB base lo p mA mN mS mB q pt gv gm rows r2 (setV cur x1) (nl + 1) ((⟨some ad, n, c2⟩, ids) :: P) wz ∧ Below base W wz) ∧ (D 12 → g 64 = .bool false) ∧ (D 13 → g 65 = .bool false)) (by kernel_rfl) (by kernel_rfl) 209 rfl (by kernel_rfl) ?h0 ?hstep ?hdone
          case h0 => exact ⟨rfl, rfl, rfl, rfl, (fun _ => (Dr.refl wr).drew), nt0, nt0, nt0, nt0, nt0, nt0, nt0, nt0, nt0, nt0, nt0, nt0, nt0, nt0, nt0, nt0⟩
          case hstep =>
            intro D g wz i hi' hn hd' hI2
            obtain ⟨r0, r1, r12, r13, dz, c10, c7, f0, f1, f2, f3, f4, f5, f6, f7, f8, f9, f10, f11, f12, f13⟩ := hI2
            have hi' : i < 14 := hi'
            rcases (show i = 0 ∨ i = 1 ∨ i = 2 ∨ i = 3 ∨ i = 4 ∨ i = 5 ∨ i = 6 ∨ i = 7 ∨ i = 8 ∨ i = 9 ∨ i = 10 ∨ i = 11 ∨ i = 12 ∨ i = 13 by omega) with rfl | rfl | rfl | rfl | rfl | rfl | rfl | rfl | rfl | rfl | rfl | rfl | rfl | rfl
            · -- 0
              refine slot_step rfl rfl (fun az hs K hK => ?_)
              have hK : Shut _ := hK
              have e13 := hs.get 13
              rw [r13] at e13
              go_simp
              exact hK.out _ _ ⟨r0, r1, r12, r13, (fun h => dz (fun e => h (Or.inr e))), (fun h => h.elim (fun e => absurd e (by decide)) (fun h => Or.inr (c10 h))), (fun h => h.elim (fun e => absurd e (by decide)) (fun h => Or.inr (c7 h))), fun _ => rfl, kp f1, kp f2, kp f3, kp f4, kp f5, kp f6, kp f7, kp f8, kp f9, kp f10, kp f11, kp f12, kp f13⟩
            · -- 1
              have d0 := f0 (hd' 0 (by kernel_rfl))
              refine slot_step rfl rfl (fun az hs K hK => ?_)
              have hK : Shut _ := hK
              have e52 := hs.get 52
              rw [d0] at e52
              go_simp
              exact hK.out _ _ ⟨r0, r1, r12, r13, (fun h => dz (fun e => h (Or.inr e))), (fun h => h.elim (fun e => absurd e (by decide)) (fun h => Or.inr (c10 h))), (fun h => h.elim (fun e => absurd e (by decide)) (fun h => Or.inr (c7 h))), kp f0, fun _ => rfl, kp f2, kp f3, kp f4, kp f5, kp f6, kp f7, kp f8, kp f9, kp f10, kp f11, kp f12, kp f13⟩
            · -- 2
              have d1 := f1 (hd' 1 (by kernel_rfl))
              refine slot_step rfl rfl (fun az hs K hK => ?_)
              have hK : Shut _ := hK
              have e53 := hs.get 53
              rw [d1] at e53
              go_simp
              exact hK.out _ _ ⟨r0, r1, r12, r13, (fun h => dz (fun e => h (Or.inr e))), (fun h => h.elim (fun e => absurd e (by decide)) (fun h => Or.inr (c10 h))), (fun h => h.elim (fun e => absurd e (by decide)) (fun h => Or.inr (c7 h))), kp f0, kp f1, fun _ => rfl, kp f3, kp f4, kp f5, kp f6, kp f7, kp f8, kp f9, kp f10, kp f11, kp f12, kp f13⟩
            · -- 3
              have d2 := f2 (hd' 2 (by kernel_rfl))
              refine slot_step rfl rfl (fun az hs K hK => ?_)
              have hK : Shut _ := hK
              have e54 := hs.get 54
              rw [d2] at e54
              go_simp
              exact hK.out _ _ ⟨r0, r1, r12, r13, (fun h => dz (fun e => h (Or.inr e))), (fun h => h.elim (fun e => absurd e (by decide)) (fun h => Or.inr (c10 h))), (fun h => h.elim (fun e => absurd e (by decide)) (fun h => Or.inr (c7 h))), kp f0, kp f1, kp f2, fun _ => rfl, kp f4, kp f5, kp f6, kp f7, kp f8, kp f9, kp f10, kp f11, kp f12, kp f13⟩
            · -- 4
              have d3 := f3 (hd' 3 (by kernel_rfl))
              refine slot_step_yes (j := 3) (d := 55) rfl rfl rfl (by decide) (d3) (fun az hs K hK => ?_)
              have hK : Shut _ := hK
              have e55 := hs.get 55
              rw [d3] at e55
              have e1 := hs.get 1
              rw [r1] at e1
              go_simp
              exact hK.out _ _ ⟨r0, r1, r12, r13, (fun h => dz (fun e => h (Or.inr e))), (fun h => h.elim (fun e => absurd e (by decide)) (fun h => Or.inr (c10 h))), (fun h => h.elim (fun e => absurd e (by decide)) (fun h => Or.inr (c7 h))), kp f0, kp f1, kp f2, kp f3, fun _ => rfl, kp f5, kp f6, kp f7, kp f8, kp f9, kp f10, kp f11, kp f12, kp f13⟩
            · -- 5
              have d3 := f3 (hd' 3 (by kernel_rfl))
              refine slot_step_yes (j := 3) (d := 55) rfl rfl rfl (by decide) (d3) (fun az hs K hK => ?_)
              have hK : Shut _ := hK
              have e55 := hs.get 55
              rw [d3] at e55
              have e13 := hs.get 13
              rw [r13] at e13
              go_simp
              exact hK.out _ _ ⟨r0, r1, r12, r13, (fun h => dz (fun e => h (Or.inr e))), (fun h => h.elim (fun e => absurd e (by decide)) (fun h => Or.inr (c10 h))), (fun h => h.elim (fun e => absurd e (by decide)) (fun h => Or.inr (c7 h))), kp f0, kp f1, kp f2, kp f3, kp f4, fun _ => rfl, kp f6, kp f7, kp f8, kp f9, kp f10, kp f11, kp f12, kp f13⟩
            · -- 6
              have d3 := f3 (hd' 3 (by kernel_rfl))
              have d5 := f5 (hd' 5 (by kernel_rfl))
              refine slot_step_yes (j := 3) (d := 55) rfl rfl rfl (by decide) (d3) (fun az hs K hK => ?_)
              have hK : Shut _ := hK
              have e55 := hs.get 55
              rw [d3] at e55
              have e57 := hs.get 57
              rw [d5] at e57
              go_simp
              exact hK.out _ _ ⟨r0, r1, r12, r13, (fun h => dz (fun e => h (Or.inr e))), (fun h => h.elim (fun e => absurd e (by decide)) (fun h => Or.inr (c10 h))), (fun h => h.elim (fun e => absurd e (by decide)) (fun h => Or.inr (c7 h))), kp f0, kp f1, kp f2, kp f3, kp f4, kp f5, fun _ => rfl, kp f7, kp f8, kp f9, kp f10, kp f11, kp f12, kp f13⟩
            · -- 7
              have d3 := f3 (hd' 3 (by kernel_rfl))
              have d6 := f6 (hd' 6 (by kernel_rfl))
              refine slot_step_yes (j := 3) (d := 55) rfl rfl rfl (by decide) (d3) (fun az hs K hK => ?_)
              have hK : Shut _ := hK
              have cz := ((dz (fun e => hn (c7 e))).cell _).trans hcx
              have e55 := hs.get 55
              rw [d3] at e55
              have e58 := hs.get 58
              rw [d6] at e58
              go_simp
              exact hK.out _ _ ⟨r0, r1, r12, r13, (fun h => dz (fun e => h (Or.inr e))), (fun h => h.elim (fun e => absurd e (by decide)) (fun h => Or.inr (c10 h))), (fun h => h.elim (fun e => absurd e (by decide)) (fun h => Or.inr (c7 h))), kp f0, kp f1, kp f2, kp f3, kp f4, kp f5, kp f6, fun _ => rfl, kp f8, kp f9, kp f10, kp f11, kp f12, kp f13⟩
            · -- 8
              have d3 := f3 (hd' 3 (by kernel_rfl))
              refine slot_step_yes (j := 3) (d := 55) rfl rfl rfl (by decide) (d3) (fun az hs K hK => ?_)
              have hK : Shut _ := hK
              have e55 := hs.get 55
              rw [d3] at e55
              have e0 := hs.get 0
              rw [r0] at e0
              go_simp
              exact hK.out _ _ ⟨r0, r1, r12, r13, (fun h => dz (fun e => h (Or.inr e))), (fun h => h.elim (fun e => absurd e (by decide)) (fun h => Or.inr (c10 h))), (fun h => h.elim (fun e => absurd e (by decide)) (fun h => Or.inr (c7 h))), kp f0, kp f1, kp f2, kp f3, kp f4, kp f5, kp f6, kp f7, fun _ => rfl, kp f9, kp f10, kp f11, kp f12, kp f13⟩
            · -- 9
              have d3 := f3 (hd' 3 (by kernel_rfl))
              refine slot_step_yes (j := 3) (d := 55) rfl rfl rfl (by decide) (d3) (fun az hs K hK => ?_)
              have hK : Shut _ := hK
              have e55 := hs.get 55
              rw [d3] at e55
              have e12 := hs.get 12
              rw [r12] at e12
              go_simp
              exact hK.out _ _ ⟨r0, r1, r12, r13, (fun h => dz (fun e => h (Or.inr e))), (fun h => h.elim (fun e => absurd e (by decide)) (fun h => Or.inr (c10 h))), (fun h => h.elim (fun e => absurd e (by decide)) (fun h => Or.inr (c7 h))), kp f0, kp f1, kp f2, kp f3, kp f4, kp f5, kp f6, kp f7, kp f8, fun _ => rfl, kp f10, kp f11, kp f12, kp f13⟩
            · -- 10
              have d3 := f3 (hd' 3 (by kernel_rfl))
              have d8 := f8 (hd' 8 (by kernel_rfl))
              have d9 := f9 (hd' 9 (by kernel_rfl))
              refine slot_step_yes (j := 3) (d := 55) rfl rfl rfl (by decide) (d3) (fun az hs K hK => ?_)
              have hK : Shut _ := hK
              have hdz := dz (fun e => hn (c10 e))
              have hBz := hB.out.keep (hdz.below _)
              have e55 := hs.get 55
              rw [d3] at e55
              have e60 := hs.get 60
              rw [d8] at e60
              have e61 := hs.get 61
              rw [d9] at e61
              go_wp2_with (go_at_call 116; refine (shB_why hBz k (by omega)).mono ?_; rintro e wy ⟨rfl, rfl⟩)
              exact ⟨r0, r1, r12, r13, (fun h => dz (fun e => h (Or.inr e))), (fun h => h.elim (fun e => absurd e (by decide)) (fun h => Or.inr (c10 h))), (fun h => h.elim (fun e => absurd e (by decide)) (fun h => Or.inr (c7 h))), kp f0, kp f1, kp f2, kp f3, kp f4, kp f5, kp f6, kp f7, kp f8, kp f9, fun _ => rfl, kp f11, kp f12, kp f13⟩
            · -- 11
              have d3 := f3 (hd' 3 (by kernel_rfl))
              have d4 := f4 (hd' 4 (by kernel_rfl))
              have d7 := f7 (hd' 7 (by kernel_rfl))
              have d10 := f10 (hd' 10 (by kernel_rfl))
              refine slot_step_yes (j := 3) (d := 55) rfl rfl rfl (by decide) (d3) (fun az hs K hK => ?_)
              have hK : Shut _ := hK
              have hdz := dz hn
              have hBz := hB.out.keep (hdz.below _)
              have hbz := hb.out.trans ((hdz.below _).mono (Nat.le_trans hbase hb.out.size))
              have e62 := hs.get 62
              rw [d10] at e62
              have e55 := hs.get 55
              rw [d3] at e55
              have e56 := hs.get 56
              rw [d4] at e56
              have e59 := hs.get 59
              rw [d7] at e59
              go_wp2_with (go_at_call 109; refine (shB_Set hBz (by omega) hv hxg (by omega) (27 + k)).mono ?_; rintro e wy ⟨rfl, hB9, hb9⟩)
              exact ⟨r0, r1, r12, r13, (fun h => (h (by simp)).elim), (fun _ => Or.inr (hd' 10 (by kernel_rfl))), (fun _ => Or.inr (hd' 7 (by kernel_rfl))), kp f0, kp f1, kp f2, kp f3, kp f4, kp f5, kp f6, kp f7, kp f8, kp f9, kp f10, fun _ => ⟨rfl, hB9, hbz.trans hb9⟩, kp f12, kp f13⟩
            · -- 12
              have d3 := f3 (hd' 3 (by kernel_rfl))
              have d11 := f11 (hd' 11 (by kernel_rfl))
              refine slot_step_yes (j := 3) (d := 55) rfl rfl rfl (by decide) (d3) (fun az hs K hK => ?_)
              have hK : Shut _ := hK
              have d11 := d11.1
              have e63 := hs.get 63
              rw [d11] at e63
              have e55 := hs.get 55
              rw [d3] at e55
              go_simp
              exact hK.out _ _ ⟨r0, r1, r12, r13, (fun h => dz (fun e => h (Or.inr e))), (fun h => h.elim (fun e => absurd e (by decide)) (fun h => Or.inr (c10 h))), (fun h => h.elim (fun e => absurd e (by decide)) (fun h => Or.inr (c7 h))), kp f0, kp f1, kp f2, kp f3, kp f4, kp f5, kp f6, kp f7, kp f8, kp f9, kp f10, kp f11, fun _ => rfl, kp f13⟩
            · -- 13
              have d3 := f3 (hd' 3 (by kernel_rfl))
              have d12 := f12 (hd' 12 (by kernel_rfl))
              refine slot_step rfl rfl (fun az hs K hK => ?_)
              have hK : Shut _ := hK
              have e55 := hs.get 55
              rw [d3] at e55
              have e64 := hs.get 64
              rw [d12] at e64
              go_simp
              exact hK.out _ _ ⟨r0, r1, r12, r13, (fun h => dz (fun e => h (Or.inr e))), (fun h => h.elim (fun e => absurd e (by decide)) (fun h => Or.inr (c10 h))), (fun h => h.elim (fun e => absurd e (by decide)) (fun h => Or.inr (c7 h))), kp f0, kp f1, kp f2, kp f3, kp f4, kp f5, kp f6, kp f7, kp f8, kp f9, kp f10, kp f11, kp f12, fun _ => rfl⟩
          case hdone =>
            rintro D g wz hD ⟨r0, r1, r12, r13, dz, c10, c7, f0, f1, f2, f3, f4, f5, f6, f7, f8, f9, f10, f11, f12, f13⟩
            simp only [setAll, List.foldl_cons, List.foldl_nil, List.setIfInBounds_toArray, List.set_cons_succ, List.set_cons_zero]
            obtain ⟨_, hB9, hb9⟩ := f11 (hD 11)
            have e13 := f13 (hD 13)
            rw [e13]
            clear f0 f1 f2 f3 f4 f5 f6 f7 f8 f9 f10 f11 f12 f13 hD r0 r1 r12 r13 dz c10 c7 e13
            obtain ⟨w5, hw5⟩ : ∃ w5, w5 = wz := ⟨_, rfl⟩
            subst hw5
            replace hB9 := hide hB9
            replace hb9 := hide hb9
            clear hB hb
            go_wp2
            go_roundg (n - (k + 1))
            case measure => omega
            case rel => exact ⟨k + 1, (setV cur x1), (nl + 1), hlt, Nat.le_refl _, by go_num, by omega, hrunN, hB9, hb9⟩
    · have hkn : n = k := by omega
      subst hkn
      have hdone := hide (show runU vals rows = some cur by rw [hrun.out, List.drop_eq_nil_of_le (by have := hnr.out; omega)]; rfl)
      obtain ⟨w3, hw3⟩ : ∃ w3, w3 = wr := ⟨_, rfl⟩
      subst hw3
      obtain ⟨k5, k6⟩ := hB.out.fresh
      clear hrun
      have hnl1 : nl ≤ 1000000 := by omega
      have hnlI : (nl : Int) ≤ 1000 := by omega
      go_wp2
      go_loopw [14] (fun i wr => wr = w3) (fun _ _ => 0)
      case atStart => exact rfl
      case round =>
        subst hrel
        go_wp2_with fail
        refine (shB_ListO hB.out hnl1).mono ?_
        rintro e w4 ⟨v, ls3, rfl, hown, hb4⟩
        obtain ⟨A3, c3, rfl, _, _, _⟩ := Rd.of_own hown
        have hB4 := hide (hB.out.protect hb4 (s := ⟨A3, nl, c3⟩) hown)
        have hb04 := hide (hb.out.trans (hb4.mono (Nat.le_trans hbase hb.out.size)))
        clear hown hb4 hB hb k5 k6
        go_wp2
        go_loopg [10, 15] (nl - nls) (fun gk i s15 wr => ∃ j : Nat, nl - j ≤ gk ∧ j ≤ 1000 ∧ i = .int .i64 j ∧ s15 = .slice A3 nl c3 ∧ Hid (ShB base lo p mA mN mS mB q pt gv gm rows r2 cur nl ((⟨A3, nl, c3⟩, ls3) :: (⟨A2, n, c2⟩, ids) :: P) wr) ∧ Hid (Below base W wr))
        case atStart => exact ⟨nls, Nat.le_refl _, by omega, rfl, rfl, hB4, hb04⟩
        case round =>
          obtain ⟨j, hjg, hj1, rfl, rfl, hB, hb⟩ := hrel
          clear hB4 hb04
          have hjI : (j : Int) ≤ 1000 := by omega
          have HLn := hide (shB_Len hB.out)
          by_cases hjl : j < nl
          · have hjlI : (j : Int) < nl := by omega
            obtain ⟨ad, y0, hA3, hlA, hy0, hci⟩ := (hB.out.read List.mem_cons_self).get hjl
            simp only at hA3
            subst hA3
            obtain ⟨y, hy⟩ : ∃ y, bits .xor .i64 y0 1 = y := ⟨_, rfl⟩
            obtain ⟨bl, hmb, hgb, hput⟩ := shB_put hB.out y
            obtain ⟨k5, k6⟩ := hB.out.fresh
            replace hmb := hide hmb
            replace hput := hide hput
            clear hy0
            go_wp2_with (first | (go_at_call 62; refine HLn.out.mono ?_; rintro e w6 ⟨rfl, rfl⟩) | (at_lookup; refine wpList_lookupO (keyLaw_int Try.underlying3) mapNU zero_sl rfl _ _ rfl hmb.out.toO y (by rfl) (by rfl) ?_; rw [hgb]) | (at_mapUpdate; refine wpList_updateS (keyLaw_int Try.underlying3) mapNU rfl _ _ _ rfl hmb.out y nilv (by rfl) (by rfl) (by rfl) ?_; intro w9 hm9 hg9 hz9; have hB9 := hide (hput.out w9 hm9 hg9); clear hm9 hg9 hz9))
            go_loopw [144] (fun i wr => i = .int .i64 0 ∧ wr = w9) (fun _ _ => 0)
            case atStart => exact ⟨rfl, rfl⟩
            case round =>
              obtain ⟨rfl, hw9⟩ := hrel
              subst hw9
              have hb9 := hide (hb.out.trans hB9.out.2)
              have hB10 := hide hB9.out.1
              clear hB hb hB9 hput hmb
              go_wp2
              go_roundg (nl - (j + 1))
              case measure => omega
              case rel => exact ⟨j + 1, Nat.le_refl _, by omega, by go_num, rfl, hB10, hb9⟩
          · have hjlI : ¬ (j : Int) < nl := by omega
            go_wp2_with (go_at_call 62; refine HLn.out.mono ?_; rintro e w6 ⟨rfl, rfl⟩)
            go_ret3
            have hnn := hnr.out
            exact ⟨_, _, _, rfl, cur, nl, by omega, hB.out.less (fun y hy => List.mem_cons_of_mem _ (List.mem_cons_of_mem _ hy)), hb.out, .inl ⟨hdone.out, rfl⟩⟩
end
end Go.Proofs.Ytcjoohaagdihlaa.Watch
end
