/- What a circuit that is told to be good is; a small one. -/
import Derived.Test.YtcjoohaagdihlaaDoorCirc4
namespace Go.Proofs.YtcjoohaagdihlaaDoor.Circ
open Go.RowKit Go.Lt Go.Proofs.YtcjoohaagdihlaaDoor.Lit Go.Proofs.YtcjoohaagdihlaaDoor.CubeHas Go.Proofs.YtcjoohaagdihlaaDoor.CubeStart
set_option linter.unusedVariables false
set_option linter.unusedSimpArgs false

def CheckIs (c : Ci) (w : World) (e : Ending) (w' : World) : Prop := ∃ r : Int, e = .returned (.int .i64 r) ∧ Below w.heap.size w w' ∧ (r = 0 → GoodC c)
theorem check_no {c : Ci} {w w' : World} {r : Int} (hr : r ≠ 0) (h : Below w.heap.size w w') : CheckIs c w (.returned (.int .i64 r)) w' := ⟨r, rfl, h, fun h0 => absurd h0 hr⟩
def OwnTo (c : Ci) (k : Nat) : Prop := ∀ x ∈ (ownL c).take k, 2 ≤ x ∧ x ≤ 2 * c.max
def UsedTo (c : Ci) (k : Nat) : Prop := ∀ x ∈ (usedL c).take k, 0 ≤ x ∧ x ≤ 2 * c.max + 1
def ResTo (c : Ci) (k : Nat) : Prop := ∀ x ∈ c.lat.take k, x.c = 0 ∨ x.c = 1 ∨ x.c = x.a
theorem to_succ {α : Type} {p : α → Prop} {l : List α} {k : Nat} {x : α} (h : ∀ y ∈ l.take k, p y) (hx : l[k]? = some x) (hp : p x) : ∀ y ∈ l.take (k + 1), p y := by
  intro y hy
  rw [List.take_add_one, hx, List.mem_append] at hy
  rcases hy with hy | hy
  · exact h y hy
  · simp at hy; subst hy; exact hp
theorem ownL_len {v : Cv} {c : Ci} {w : World} (hi : CiIs w v c) (hf : FewOk 30 v) : (ownL c).length ≤ 90 := by
  have h1 := hi.ins.len
  have h2 := hi.lat.1
  have h3 := hi.gat.1
  have g1 := hf.ins
  have g2 := hf.lat
  have g3 := hf.gat
  unfold ownL
  simp only [List.length_append, List.length_map]
  omega
theorem flat2_len (l : List T3) : (l.flatMap fun g => [g.b, g.c]).length = 2 * l.length := by
  induction l with
  | nil => rfl
  | cons a l ih => rw [List.flatMap_cons, List.length_append, ih]; simp; omega
theorem usedL_len {v : Cv} {c : Ci} {w : World} (hi : CiIs w v c) (hf : FewOk 30 v) : (usedL c).length ≤ 200 := by
  have h1 := hi.outs.len
  have h2 := hi.lat.1
  have h3 := hi.gat.1
  have h4 := hi.bads.len
  have h5 := hi.cons.len
  have g1 := hf.outs
  have g2 := hf.lat
  have g3 := hf.gat
  have g4 := hf.bads
  have g5 := hf.cons
  unfold usedL
  simp only [List.length_append, List.length_map, flat2_len]
  omega
theorem rng_of {c : Ci} (hm : c.max ≤ 300) (ho : ∀ x ∈ ownL c, 2 ≤ x ∧ x ≤ 2 * c.max) (hu : ∀ x ∈ usedL c, 0 ≤ x ∧ x ≤ 2 * c.max + 1) : Rng c := by
  intro x hx
  have h1 := ho x.a (by unfold ownL; rw [List.mem_append]; exact .inr (List.mem_map.2 ⟨x, hx, rfl⟩))
  have h2 := hu x.b (by unfold usedL; rw [List.mem_append]; exact .inr (List.mem_flatMap.2 ⟨x, hx, by simp⟩))
  have h3 := hu x.c (by unfold usedL; rw [List.mem_append]; exact .inr (List.mem_flatMap.2 ⟨x, hx, by simp⟩))
  exact ⟨⟨by omega, by omega⟩, ⟨by omega, by omega⟩, by omega, by omega⟩
set_option maxRecDepth 8000 in
set_option maxHeartbeats 8000000 in
theorem ref_Check (v : Cv) (c : Ci) (w : World) (hf : FewOk 30 v) (hmax : c.max ≤ 300) (hi : CiIs w v c) :
    Calls Tryd.prog 83 #[.agg (cells9 c.max v)] w (CheckIs c w) := by
  have hb1 := (Below.refl w.heap.size w).alloc (Nat.le_refl _) (.cells (cells9 c.max v) 27)
  have q1 := Blk.new w 27 (cells9 c.max v)
  have hi1 := hi.below hb1 (Nat.le_refl _)
  obtain ⟨W1, hW1⟩ : ∃ W1, w.alloc (.cells (cells9 c.max v) 27) = W1 := ⟨_, rfl⟩
  rw [hW1] at hb1 q1 hi1
  have hlt1 : w.heap.size < W1.heap.size := q1.lt
  have hb1 := hide hb1
  have hL1 := hide (ownL_len hi hf)
  have hL2 := hide (usedL_len hi hf)
  have hn2 := hf.lat
  have hn6 := hf.gat
  clear hi
  have hf := hide hf
  have s0 : W1.cell? ⟨w.heap.size, 0, none⟩ = some (.int .i64 c.max) := q1.cell 0
  have s1 : W1.cell? ⟨w.heap.size, 1, none⟩ = some (.slice v.ins.A v.ins.n v.ins.c) := q1.cell 1
  have s2 : W1.cell? ⟨w.heap.size, 2, none⟩ = some (.slice v.lat.A v.lat.n v.lat.c) := q1.cell 2
  have s3 : W1.cell? ⟨w.heap.size, 3, none⟩ = some (.slice v.outs.A v.outs.n v.outs.c) := q1.cell 3
  have s4 : W1.cell? ⟨w.heap.size, 4, none⟩ = some (.slice v.bads.A v.bads.n v.bads.c) := q1.cell 4
  have s5 : W1.cell? ⟨w.heap.size, 5, none⟩ = some (.slice v.cons.A v.cons.n v.cons.c) := q1.cell 5
  have s6 : W1.cell? ⟨w.heap.size, 6, none⟩ = some (.slice v.gat.A v.gat.n v.gat.c) := q1.cell 6
  have s7 : W1.cell? ⟨w.heap.size, 7, none⟩ = some (.slice v.sym.A v.sym.n v.sym.c) := q1.cell 7
  have s8 : W1.cell? ⟨w.heap.size, 8, none⟩ = some (.string v.com) := q1.cell 8
  by_cases hneg : c.max < 0
  · have d0 : decide (c.max < 0) = true := by simpa using hneg
    go_enter Tryd.func83, Tryd.ntmps83
    go_wp2
    go_ret
    exact check_no (by decide) hb1.out
  have d0 : decide (c.max < 0) = false := by simpa using hneg
  have d1 : decide (16777216 < c.max) = false := by rw [decide_eq_false_iff_not]; omega
  go_enter Tryd.func83, Tryd.ntmps83
  go_wp2
  clear d0 d1
  refine wp_region_held_drew (S := fun W' => W'.cell? ⟨w.heap.size, 0, none⟩ = some (.int .i64 c.max) ∧ W'.cell? ⟨w.heap.size, 1, none⟩ = some (.slice v.ins.A v.ins.n v.ins.c) ∧ W'.cell? ⟨w.heap.size, 2, none⟩ = some (.slice v.lat.A v.lat.n v.lat.c) ∧ W'.cell? ⟨w.heap.size, 3, none⟩ = some (.slice v.outs.A v.outs.n v.outs.c) ∧ W'.cell? ⟨w.heap.size, 4, none⟩ = some (.slice v.bads.A v.bads.n v.bads.c) ∧ W'.cell? ⟨w.heap.size, 5, none⟩ = some (.slice v.cons.A v.cons.n v.cons.c) ∧ W'.cell? ⟨w.heap.size, 6, none⟩ = some (.slice v.gat.A v.gat.n v.gat.c) ∧ W'.cell? ⟨w.heap.size, 7, none⟩ = some (.slice v.sym.A v.sym.n v.sym.c) ∧ W'.cell? ⟨w.heap.size, 8, none⟩ = some (.string v.com)) (by kernel_rfl) ⟨s0, s1, s2, s3, s4, s5, s6, s7, s8⟩ (fun hHeld => ?_)
  refine wpAnyH_take (i := 0) (v := ?_) rfl (by kernel_rfl) (by kernel_rfl) (by kernel_rfl) (fun _ _ _ h => h) (Or.inl ⟨by kernel_rfl, ?_⟩) (by assumption) ?_
  rotate_left
  · intro wz hSw; (try dsimp only at hSw); go_simp; (try with_reducible rfl)
  try simp only [Act.put, List.getElem_toArray, List.getElem_cons_succ, List.getElem_cons_zero, List.setIfInBounds_toArray, List.set_cons_zero, List.set_cons_succ]
  refine wpAnyH_take (i := 2) (v := ?_) rfl (by kernel_rfl) (by kernel_rfl) (by kernel_rfl) (fun _ _ _ h => h) (Or.inl ⟨by kernel_rfl, ?_⟩) (by assumption) ?_
  rotate_left
  · intro wz hSw; (try dsimp only at hSw); go_simp; (try with_reducible rfl)
  try simp only [Act.put, List.getElem_toArray, List.getElem_cons_succ, List.getElem_cons_zero, List.setIfInBounds_toArray, List.set_cons_zero, List.set_cons_succ]
  refine wpAnyH_ready (rs := [1]) (by kernel_rfl) (by simp) ?_
  refine AllReadyH.cons rfl (fun K hK => ?_) AllReadyH.nil
  go_simp
  have hid := hi1.below (Dr.below (Dr.refl W1).drew W1.heap.size) (Nat.le_refl _)
  go_wp2_with (go_at_call 126; refine (ref_Owned v c _ hf.out hid).mono ?_; rintro e w2 ⟨A1, n1, k1, rfl, hk1, hk1m, hR1, hb2⟩)
  have s0' := keepCell hb2 (w := W1.drew) s0
  have s1' := keepCell hb2 (w := W1.drew) s1
  have s2' := keepCell hb2 (w := W1.drew) s2
  have s3' := keepCell hb2 (w := W1.drew) s3
  have s4' := keepCell hb2 (w := W1.drew) s4
  have s5' := keepCell hb2 (w := W1.drew) s5
  have s6' := keepCell hb2 (w := W1.drew) s6
  have s7' := keepCell hb2 (w := W1.drew) s7
  have s8' := keepCell hb2 (w := W1.drew) s8
  have hb2 := hide ((Dr.below (Dr.refl W1).drew W1.heap.size).trans hb2)
  refine hK.out _ _ ⟨s0', s1', s2', s3', s4', s5', s6', s7', s8'⟩ (fun hHeld => ?_)
  clear hK K
  try simp only [Act.put, List.getElem_toArray, List.getElem_cons_succ, List.getElem_cons_zero, List.setIfInBounds_toArray, List.set_cons_zero, List.set_cons_succ]
  clear s0 s1 s2 s3 s4 s5 s6 s7 s8
  refine wpAnyH_ready (rs := [3]) (by kernel_rfl) (by simp) ?_
  refine AllReadyH.cons rfl (fun K hK => ?_) AllReadyH.nil
  go_simp
  go_wp2_with (go_at_call 127; refine (ref_Used v c _ hf.out (hi1.below hb2.out (Nat.le_refl _))).mono ?_; rintro e w3 ⟨A2, n2, k2, rfl, _, _, hR2, hb3⟩)
  have s0 := keepCell hb3 s0'
  have s1 := keepCell hb3 s1'
  have s2 := keepCell hb3 s2'
  have s3 := keepCell hb3 s3'
  have s4 := keepCell hb3 s4'
  have s5 := keepCell hb3 s5'
  have s6 := keepCell hb3 s6'
  have s7 := keepCell hb3 s7'
  have s8 := keepCell hb3 s8'
  have hR1 := hide (hR1.below hb3 (Nat.le_refl _))
  have hR2 := hide hR2
  have hb3 := hide (hb2.out.trans (hb3.mono hb2.out.size))
  refine hK.out _ _ ⟨s0, s1, s2, s3, s4, s5, s6, s7, s8⟩ (fun hHeld => ?_)
  clear hK K
  try simp only [Act.put, List.getElem_toArray, List.getElem_cons_succ, List.getElem_cons_zero, List.setIfInBounds_toArray, List.set_cons_zero, List.set_cons_succ]
  clear hid hb2 s0' s1' s2' s3' s4' s5' s6' s7' s8'
  refine wpAnyH_take (i := 4) (v := ?_) rfl (by kernel_rfl) (by kernel_rfl) (by kernel_rfl) (fun _ _ _ h => h) (Or.inl ⟨by kernel_rfl, ?_⟩) (by assumption) ?_
  rotate_left
  · intro wz hSw; (try dsimp only at hSw); go_simp; (try with_reducible rfl)
  try simp only [Act.put, List.getElem_toArray, List.getElem_cons_succ, List.getElem_cons_zero, List.setIfInBounds_toArray, List.set_cons_zero, List.set_cons_succ]
  refine wpAnyH_take (i := 5) (v := ?_) rfl (by kernel_rfl) (by kernel_rfl) (by kernel_rfl) (fun _ _ _ h => h) (Or.inl ⟨by kernel_rfl, ?_⟩) (by assumption) ?_
  rotate_left
  · intro wz hSw; (try dsimp only at hSw); go_simp; (try with_reducible rfl)
  try simp only [Act.put, List.getElem_toArray, List.getElem_cons_succ, List.getElem_cons_zero, List.setIfInBounds_toArray, List.set_cons_zero, List.set_cons_succ]
  refine wpAnyH_done (by kernel_rfl) ?_ _
  have hn1 := hide hR1.out.len
  have hnu := hide hR2.out.len
  have hN1 : (n1 : Int) ≤ 90 := by have := hL1.out; have := hn1.out; omega
  have hN2 : (n2 : Int) ≤ 200 := by have := hL2.out; have := hnu.out; omega
  have q3 := hide (q1.below hb3.out hlt1)
  have hbW := hide (hb1.out.trans (hb3.out.mono hb1.out.size))
  have hi3 := hide (hi1.below hb3.out (Nat.le_refl _))
  have hW3 := hide (show w.heap.size ≤ w3.heap.size from Nat.le_trans hb1.out.size hb3.out.size)
  clear s0 s1 s2 s3 s4 s5 s6 s7 s8 hL1 hL2 hHeld q1 hi1
  go_wp2
  go_loopw [5] (fun i wr => ∃ k : Nat, k ≤ n1 ∧ i = .int .i64 k ∧ Dr w3 wr ∧ Hid (OwnTo c k)) (fun i _ => n1 - (intOf i).toNat)
  case atStart => exact ⟨0, Nat.zero_le _, rfl, Dr.refl _, hide (fun x hx => by simp at hx)⟩
  case round =>
    obtain ⟨k, hk, rfl, hd, hT⟩ := hrel
    have hkI : (k : Int) ≤ 90 := by omega
    by_cases hlt : k < n1
    · have hltI : (k : Int) < n1 := by omega
      obtain ⟨ad, x, rfl, hB, hx, hc⟩ := (hR1.out.below (hd.below w3.heap.size) (Nat.le_refl _)).get hlt
      have cM : wr.cell? ⟨w.heap.size, 0, none⟩ = some (.int .i64 c.max) := (q3.out.dr hd).cell 0
      have HT := hide (fun h => to_succ (p := fun x => 2 ≤ x ∧ x ≤ 2 * c.max) hT.out hx h)
      clear hx
      have hbad := hide (fun m => check_no (c := c) (w := w) (w' := wr.drewN m) (r := 5) (by decide) (hbW.out.trans ((hd.more m).below _)))
      by_cases h0 : x < 2
      · have d0 : decide (x < 2) = true := by simpa using h0
        clear h0
        go_wp2
        go_quiet (fail)
        go_wp2
        go_ret
        exact hbad.out _
      have d0 : decide (x < 2) = false := by simpa using h0
      by_cases h1 : x % 2 = 1
      · have d1 : (x % 2 == 1) = true := by simpa using h1
        have d1b : x.tmod 2 = 1 := by rw [Int.tmod_eq_emod_of_nonneg (by omega)]; exact h1
        clear h0
        go_wp2
        go_quiet (fail)
        go_wp2
        go_ret
        exact hbad.out _
      have d1 : (x % 2 == 1) = false := by simpa using h1
      have d1b : (x.tmod 2 == 1) = false := by rw [Int.tmod_eq_emod_of_nonneg (by omega)]; exact d1
      by_cases h2 : 2 * c.max < x
      · have d2 : decide (2 * c.max < x) = true := by simpa using h2
        clear h0 h1 h2
        go_wp2
        go_quiet (fail)
        go_wp2
        go_ret
        exact hbad.out _
      have d2 : decide (2 * c.max < x) = false := by simpa using h2
      have HT := hide (HT.out ⟨by omega, by omega⟩)
      clear h0 h1 h2
      go_wp2
      go_quiet (fail)
      go_wp2
      go_roundw
      case rel => exact ⟨k + 1, hlt, by go_num, hd.more _, HT⟩
      case measure => simp [intOf]; omega
    have hkn : n1 = k := by omega
    subst hkn
    have hOwn := hide (show ∀ x ∈ ownL c, 2 ≤ x ∧ x ≤ 2 * c.max by have := hT.out; unfold OwnTo at this; rwa [List.take_of_length_le (by rw [hn1.out]; exact Nat.le_refl _)] at this)
    obtain ⟨wo, hwo⟩ : ∃ wo, wo = wr := ⟨_, rfl⟩
    subst hwo
    have hd1 := hide hd
    clear hT hd
    go_wp2
    go_loopw [6] (fun i wr => ∃ k : Nat, k ≤ n2 ∧ i = .int .i64 k ∧ Dr w3 wr ∧ Hid (UsedTo c k)) (fun i _ => n2 - (intOf i).toNat)
    case atStart => exact ⟨0, Nat.zero_le _, rfl, hd1.out, hide (fun x hx => by simp at hx)⟩
    case round =>
      obtain ⟨k, hk, rfl, hd, hT⟩ := hrel
      have hkI : (k : Int) ≤ 200 := by omega
      by_cases hlt : k < n2
      · have hltI : (k : Int) < n2 := by omega
        obtain ⟨ad, x, rfl, hB, hx, hc⟩ := (hR2.out.below (hd.below w3.heap.size) (Nat.le_refl _)).get hlt
        have cM : wr.cell? ⟨w.heap.size, 0, none⟩ = some (.int .i64 c.max) := (q3.out.dr hd).cell 0
        have HT := hide (fun h => to_succ (p := fun x => 0 ≤ x ∧ x ≤ 2 * c.max + 1) hT.out hx h)
        clear hx
        have hbad := hide (fun m => check_no (c := c) (w := w) (w' := wr.drewN m) (r := 5) (by decide) (hbW.out.trans ((hd.more m).below _)))
        by_cases h0 : x < 0
        · have d0 : decide (x < 0) = true := by simpa using h0
          clear h0
          go_wp2
          go_quiet (fail)
          go_wp2
          go_ret
          exact hbad.out _
        have d0 : decide (x < 0) = false := by simpa using h0
        by_cases h2 : 2 * c.max + 1 < x
        · have d2 : decide (2 * c.max + 1 < x) = true := by simpa using h2
          clear h0 h2
          go_wp2
          go_quiet (fail)
          go_wp2
          go_ret
          exact hbad.out _
        have d2 : decide (2 * c.max + 1 < x) = false := by simpa using h2
        have HT := hide (HT.out ⟨by omega, by omega⟩)
        clear h0 h2
        go_wp2
        go_quiet (fail)
        go_wp2
        go_roundw
        case rel => exact ⟨k + 1, hlt, by go_num, hd.more _, HT⟩
        case measure => simp [intOf]; omega
      have hkn2 : n2 = k := by omega
      subst hkn2
      have hUsed := hide (show ∀ x ∈ usedL c, 0 ≤ x ∧ x ≤ 2 * c.max + 1 by have := hT.out; unfold UsedTo at this; rwa [List.take_of_length_le (by rw [hnu.out]; exact Nat.le_refl _)] at this)
      obtain ⟨wo2, hwo⟩ : ∃ wo2, wo2 = wr := ⟨_, rfl⟩
      subst hwo
      have hd2 := hide hd
      have cL0 : wo2.cell? ⟨w.heap.size, 2, none⟩ = some (.slice v.lat.A v.lat.n v.lat.c) := (q3.out.dr hd).cell 2
      clear hT hd
      go_wp2
      go_loopw [7] (fun i wr => ∃ k : Nat, k ≤ v.lat.n ∧ i = .int .i64 k ∧ Dr w3 wr ∧ Hid (ResTo c k)) (fun i _ => v.lat.n - (intOf i).toNat)
      case atStart => exact ⟨0, Nat.zero_le _, rfl, hd2.out, hide (fun x hx => by simp at hx)⟩
      case round =>
        obtain ⟨k3, hk3, rfl, hd, hT⟩ := hrel
        have hkI : (k3 : Int) ≤ 30 := by omega
        have cL : wr.cell? ⟨w.heap.size, 2, none⟩ = some (.slice v.lat.A v.lat.n v.lat.c) := (q3.out.dr hd).cell 2
        by_cases hlt : k3 < v.lat.n
        · have hltI : (k3 : Int) < v.lat.n := by omega
          obtain ⟨ad, x, hA, hB, hx, c0, c1, c2⟩ := (hi3.out.lat.below (hd.below w3.heap.size) (Nat.le_refl _)).get hlt
          rw [hA] at cL
          have HT := hide (fun h => to_succ (p := fun x : T3 => x.c = 0 ∨ x.c = 1 ∨ x.c = x.a) hT.out hx h)
          clear hx c1
          obtain ⟨xa, xb, xc⟩ := x
          simp only at c0 c2 HT
          have hbad := hide (fun m => check_no (c := c) (w := w) (w' := wr.drewN m) (r := 5) (by decide) (hbW.out.trans ((hd.more m).below _)))
          by_cases h0 : xc = 0
          · subst h0
            have HT := hide (HT.out (.inl rfl))
            go_wp2
            go_roundw
            case rel => exact ⟨k3 + 1, hlt, by go_num, hd, HT⟩
            case measure => simp [intOf]; omega
          have e0 : (xc != 0) = true := by simpa using h0
          by_cases h1 : xc = 1
          · subst h1
            have HT := hide (HT.out (.inr (.inl rfl)))
            go_wp2
            go_roundw
            case rel => exact ⟨k3 + 1, hlt, by go_num, hd, HT⟩
            case measure => simp [intOf]; omega
          have e1 : (xc != 1) = true := by simpa using h1
          by_cases h2 : xc = xa
          · have e2 : (xc != xa) = false := by simpa using h2
            have HT := hide (HT.out (.inr (.inr h2)))
            clear h2
            go_wp2
            go_roundw
            case rel => exact ⟨k3 + 1, hlt, by go_num, hd, HT⟩
            case measure => simp [intOf]; omega
          have e2 : (xc != xa) = true := by simpa using h2
          have hbad := hide (hbad.out 0)
          clear h0 h1 h2
          go_wp2
          go_ret
          exact hbad.out
        have hkn3 : k3 = v.lat.n := by omega
        have hkn3' : ¬ (k3 : Int) < v.lat.n := by omega
        have hRes := hide (show ∀ l ∈ c.lat, l.c = 0 ∨ l.c = 1 ∨ l.c = l.a by have := hT.out; unfold ResTo at this; rwa [List.take_of_length_le (by rw [hi3.out.lat.1, hkn3]; exact Nat.le_refl _)] at this)
        obtain ⟨wo3, hwo⟩ : ∃ wo3, wo3 = wr := ⟨_, rfl⟩
        subst hwo
        have hd3 := hide hd
        clear hT hd
        go_wp2
        go_loopw [9] (fun i wr => ∃ k4 : Nat, k4 ≤ n1 ∧ i = .int .i64 k4 ∧ Dr w3 wr) (fun i _ => n1 - (intOf i).toNat)
        case atStart => exact ⟨0, Nat.zero_le _, rfl, hd3.out⟩
        case round =>
          obtain ⟨k4, hk4, rfl, hd⟩ := hrel
          have hkI4 : (k4 : Int) ≤ 90 := by omega
          by_cases hlt : k4 < n1
          · have hltI : (k4 : Int) < n1 := by omega
            have hr1 := hR1.out.below (hd.below w3.heap.size) (Nat.le_refl _)
            obtain ⟨ad, x, rfl, hB, hx, hc⟩ := hr1.get hlt
            clear hx
            have hbad := hide (fun m => check_no (c := c) (w := w) (w' := wr.drewN m) (r := 7) (by decide) (hbW.out.trans ((hd.more m).below _)))
            have hT := hide (hr1.take_ (Nat.le_of_lt hlt))
            unfold ivs at hT
            rw [← List.map_take] at hT
            have hkc : k4 ≤ k1 := by omega
            have hkcI : (k4 : Int) ≤ k1 := by omega
            have hkm : k1 ≤ 9223372036854775807 := hk1m
            obtain ⟨b, hb⟩ : ∃ b, hasB ((ownL c).take k4) x = b := ⟨_, rfl⟩
            have hH := hide (fun m => ref_Has (some ad) k4 k1 ((ownL c).take k4) x (wr.drewN m) (by omega) (Dr.rd ((Dr.refl wr).more m) hT.out))
            rw [hb] at hH
            clear hb
            cases b
            · go_wp2
              go_quiet ((go_at_call 79; exact quiet_eq (hH.out _)))
              go_wp2
              go_roundw
              case rel => exact ⟨k4 + 1, hlt, by go_num, hd.more _⟩
              case measure => simp [intOf]; omega
            · go_wp2
              go_quiet ((go_at_call 79; exact quiet_eq (hH.out _)))
              go_wp2
              go_ret
              exact hbad.out _
          have hkn4 : k4 = n1 := by omega
          have hkn4' : ¬ (k4 : Int) < n1 := by omega
          obtain ⟨wo4, hwo⟩ : ∃ wo4, wo4 = wr := ⟨_, rfl⟩
          subst hwo
          have hd4 := hide hd
          clear hd
          go_wp2
          go_loopw [10] (fun i wr => ∃ k5 : Nat, k5 ≤ n2 ∧ i = .int .i64 k5 ∧ Dr w3 wr) (fun i _ => n2 - (intOf i).toNat)
          case atStart => exact ⟨0, Nat.zero_le _, rfl, hd4.out⟩
          case round =>
            obtain ⟨k5, hk5, rfl, hd⟩ := hrel
            have hkI5 : (k5 : Int) ≤ 200 := by omega
            by_cases hlt : k5 < n2
            · have hltI : (k5 : Int) < n2 := by omega
              obtain ⟨ad, x, rfl, hB, hx, hc⟩ := (hR2.out.below (hd.below w3.heap.size) (Nat.le_refl _)).get hlt
              have hx0 := hUsed.out x (List.mem_of_getElem? hx)
              clear hx
              obtain ⟨hx0, hx1⟩ := hx0
              have hbad := hide (fun m => check_no (c := c) (w := w) (w' := wr.drewN m) (r := 9) (by decide) (hbW.out.trans ((hd.more m).below _)))
              have hr1 := hide (hR1.out.below (hd.below w3.heap.size) (Nat.le_refl _))
              by_cases h1 : 1 < x
              · have d1 : decide (1 < x) = true := by simpa using h1
                obtain ⟨y, hy⟩ : ∃ y, x - x % 2 = y := ⟨_, rfl⟩
                have hyw : IntKind.i64.wrap (x - x % 2) = y := by rw [hy]; exact IntWalk.i64_in _ (by omega)
                obtain ⟨b, hb⟩ : ∃ b, hasB (ownL c) y = b := ⟨_, rfl⟩
                have hH := hide (fun m => ref_Has A1 n1 k1 (ownL c) y (wr.drewN m) (by omega) (Dr.rd ((Dr.refl wr).more m) hr1.out))
                rw [hb] at hH
                clear hb
                cases b
                · go_wp2
                  go_quiet ((go_at_call 79; exact quiet_eq (hH.out _)))
                  go_wp2
                  go_ret
                  exact hbad.out _
                · go_wp2
                  go_quiet ((go_at_call 79; exact quiet_eq (hH.out _)))
                  go_wp2
                  go_roundw
                  case rel => exact ⟨k5 + 1, hlt, by go_num, hd.more _⟩
                  case measure => simp [intOf]; omega
              · have d1 : decide (1 < x) = false := by simpa using h1
                go_wp2
                go_quiet (fail)
                go_wp2
                go_roundw
                case rel => exact ⟨k5 + 1, hlt, by go_num, hd.more _⟩
                case measure => simp [intOf]; omega
            have hkn5 : k5 = n2 := by omega
            have hkn5' : ¬ (k5 : Int) < n2 := by omega
            have q5 := hide (q3.out.dr hd)
            have s0 : wr.cell? ⟨w.heap.size, 0, none⟩ = some (.int .i64 c.max) := q5.out.cell 0
            have s1 : wr.cell? ⟨w.heap.size, 1, none⟩ = some (.slice v.ins.A v.ins.n v.ins.c) := q5.out.cell 1
            have s2 : wr.cell? ⟨w.heap.size, 2, none⟩ = some (.slice v.lat.A v.lat.n v.lat.c) := q5.out.cell 2
            have s3 : wr.cell? ⟨w.heap.size, 3, none⟩ = some (.slice v.outs.A v.outs.n v.outs.c) := q5.out.cell 3
            have s4 : wr.cell? ⟨w.heap.size, 4, none⟩ = some (.slice v.bads.A v.bads.n v.bads.c) := q5.out.cell 4
            have s5 : wr.cell? ⟨w.heap.size, 5, none⟩ = some (.slice v.cons.A v.cons.n v.cons.c) := q5.out.cell 5
            have s6 : wr.cell? ⟨w.heap.size, 6, none⟩ = some (.slice v.gat.A v.gat.n v.gat.c) := q5.out.cell 6
            have s7 : wr.cell? ⟨w.heap.size, 7, none⟩ = some (.slice v.sym.A v.sym.n v.sym.c) := q5.out.cell 7
            have s8 : wr.cell? ⟨w.heap.size, 8, none⟩ = some (.string v.com) := q5.out.cell 8
            go_wp2
            refine wp_region_held_drew (S := fun W' => W'.cell? ⟨w.heap.size, 0, none⟩ = some (.int .i64 c.max) ∧ W'.cell? ⟨w.heap.size, 1, none⟩ = some (.slice v.ins.A v.ins.n v.ins.c) ∧ W'.cell? ⟨w.heap.size, 2, none⟩ = some (.slice v.lat.A v.lat.n v.lat.c) ∧ W'.cell? ⟨w.heap.size, 3, none⟩ = some (.slice v.outs.A v.outs.n v.outs.c) ∧ W'.cell? ⟨w.heap.size, 4, none⟩ = some (.slice v.bads.A v.bads.n v.bads.c) ∧ W'.cell? ⟨w.heap.size, 5, none⟩ = some (.slice v.cons.A v.cons.n v.cons.c) ∧ W'.cell? ⟨w.heap.size, 6, none⟩ = some (.slice v.gat.A v.gat.n v.gat.c) ∧ W'.cell? ⟨w.heap.size, 7, none⟩ = some (.slice v.sym.A v.sym.n v.sym.c) ∧ W'.cell? ⟨w.heap.size, 8, none⟩ = some (.string v.com)) (by kernel_rfl) ⟨s0, s1, s2, s3, s4, s5, s6, s7, s8⟩ (fun hHeld => ?_)
            refine wpAnyH_take (i := 0) (v := ?_) rfl (by kernel_rfl) (by kernel_rfl) (by kernel_rfl) (fun _ _ _ h => h) (Or.inl ⟨by kernel_rfl, ?_⟩) (by assumption) ?_
            rotate_left
            · intro wz hSw; (try dsimp only at hSw); go_simp; (try with_reducible rfl)
            try simp only [Act.put, List.getElem_toArray, List.getElem_cons_succ, List.getElem_cons_zero, List.setIfInBounds_toArray, List.set_cons_zero, List.set_cons_succ]
            refine wpAnyH_take (i := 3) (v := ?_) rfl (by kernel_rfl) (by kernel_rfl) (by kernel_rfl) (fun _ _ _ h => h) (Or.inl ⟨by kernel_rfl, ?_⟩) (by assumption) ?_
            rotate_left
            · intro wz hSw; (try dsimp only at hSw); go_simp; (try with_reducible rfl)
            try simp only [Act.put, List.getElem_toArray, List.getElem_cons_succ, List.getElem_cons_zero, List.setIfInBounds_toArray, List.set_cons_zero, List.set_cons_succ]
            refine wpAnyH_take (i := 4) (v := ?_) rfl (by kernel_rfl) (by kernel_rfl) (by kernel_rfl) (fun _ _ _ h => h) (Or.inl ⟨by kernel_rfl, ?_⟩) (by assumption) ?_
            rotate_left
            · intro wz hSw; (try dsimp only at hSw); go_simp; (try with_reducible rfl)
            try simp only [Act.put, List.getElem_toArray, List.getElem_cons_succ, List.getElem_cons_zero, List.setIfInBounds_toArray, List.set_cons_zero, List.set_cons_succ]
            refine wpAnyH_take (i := 5) (v := ?_) rfl (by kernel_rfl) (by kernel_rfl) (by kernel_rfl) (fun _ _ _ h => h) (Or.inl ⟨by kernel_rfl, ?_⟩) (by assumption) ?_
            rotate_left
            · intro wz hSw; (try dsimp only at hSw); go_simp; (try with_reducible rfl)
            try simp only [Act.put, List.getElem_toArray, List.getElem_cons_succ, List.getElem_cons_zero, List.setIfInBounds_toArray, List.set_cons_zero, List.set_cons_succ]
            refine wpAnyH_ready (rs := [1]) (by kernel_rfl) (by simp) ?_
            refine AllReadyH.cons rfl (fun K hK => ?_) AllReadyH.nil
            go_simp
            have hid := hi3.out.below ((hd.more 1).below w3.heap.size) (Nat.le_refl _)
            go_wp2_with (go_at_call 128; refine (ref_Order v c _ (by omega) (rng_of hmax hOwn.out hUsed.out) hid).mono ?_; rintro e w6 ⟨A3, n3, k3', xs, rfl, hn3, _, _, hb6⟩)
            have s0' := keepCell hb6 (w := wr.drewN 1) s0
            have s1' := keepCell hb6 (w := wr.drewN 1) s1
            have s2' := keepCell hb6 (w := wr.drewN 1) s2
            have s3' := keepCell hb6 (w := wr.drewN 1) s3
            have s4' := keepCell hb6 (w := wr.drewN 1) s4
            have s5' := keepCell hb6 (w := wr.drewN 1) s5
            have s6' := keepCell hb6 (w := wr.drewN 1) s6
            have s7' := keepCell hb6 (w := wr.drewN 1) s7
            have s8' := keepCell hb6 (w := wr.drewN 1) s8
            have hb6 := hide (hbW.out.trans (((hd.more 1).below w.heap.size).trans (hb6.mono (Nat.le_trans hW3.out ((hd.more 1).below w3.heap.size).size))))
            refine hK.out _ _ ⟨s0', s1', s2', s3', s4', s5', s6', s7', s8'⟩ (fun hHeld => ?_)
            clear hK K
            try simp only [Act.put, List.getElem_toArray, List.getElem_cons_succ, List.getElem_cons_zero, List.setIfInBounds_toArray, List.set_cons_zero, List.set_cons_succ]
            refine wpAnyH_take (i := 2) (v := ?_) rfl (by kernel_rfl) (by kernel_rfl) (by kernel_rfl) (fun _ _ _ h => h) (Or.inl ⟨by kernel_rfl, ?_⟩) (by assumption) ?_
            rotate_left
            · intro wz hSw; (try dsimp only at hSw); go_simp; (try with_reducible rfl)
            try simp only [Act.put, List.getElem_toArray, List.getElem_cons_succ, List.getElem_cons_zero, List.setIfInBounds_toArray, List.set_cons_zero, List.set_cons_succ]
            refine wpAnyH_take (i := 6) (v := ?_) rfl (by kernel_rfl) (by kernel_rfl) (by kernel_rfl) (fun _ _ _ h => h) (Or.inl ⟨by kernel_rfl, ?_⟩) (by assumption) ?_
            rotate_left
            · intro wz hSw; (try dsimp only at hSw); go_simp; (try with_reducible rfl)
            try simp only [Act.put, List.getElem_toArray, List.getElem_cons_succ, List.getElem_cons_zero, List.setIfInBounds_toArray, List.set_cons_zero, List.set_cons_succ]
            refine wpAnyH_done (by kernel_rfl) ?_ _
            have hbad := hide (check_no (c := c) (r := 8) (by decide) hb6.out)
            have hgood := hide (show CheckIs c w (.returned (.int .i64 0)) w6 from ⟨0, rfl, hb6.out, fun _ => ⟨by omega, hOwn.out, hUsed.out, hRes.out⟩⟩)
            by_cases h3 : n3 < v.gat.n
            · have d3 : (n3 : Int) < v.gat.n := by omega
              go_wp2
              go_ret
              exact hbad.out
            · have d3 : ¬ (n3 : Int) < v.gat.n := by omega
              go_wp2
              go_ret
              exact hgood.out
def SmallIs (v : Cv) (c : Ci) (w : World) (e : Ending) (w' : World) : Prop := ∃ b : Bool, e = .returned (.bool b) ∧ Below w.heap.size w w' ∧ (b = true → FewOk 30 v ∧ c.max ≤ 300 ∧ GoodC c)
set_option maxHeartbeats 4000000 in
theorem law_Small (v : Cv) (c : Ci) (w : World) (hi : CiIs w v c) :
    Calls Tryd.prog 14 #[.agg (cells9 c.max v), .int .i64 30] w (SmallIs v c w) := by
  have hb1 := (Below.refl w.heap.size w).alloc (Nat.le_refl _) (.cells (cells9 c.max v) 27)
  have q1 := Blk.new w 27 (cells9 c.max v)
  have hi1 := hi.below hb1 (Nat.le_refl _)
  obtain ⟨W1, hW1⟩ : ∃ W1, w.alloc (.cells (cells9 c.max v) 27) = W1 := ⟨_, rfl⟩
  rw [hW1] at hb1 q1 hi1
  have hlt1 : w.heap.size < W1.heap.size := q1.lt
  have hb1 := hide hb1
  have s0 : W1.cell? ⟨w.heap.size, 0, none⟩ = some (.int .i64 c.max) := q1.cell 0
  have s1 : W1.cell? ⟨w.heap.size, 1, none⟩ = some (.slice v.ins.A v.ins.n v.ins.c) := q1.cell 1
  have s2 : W1.cell? ⟨w.heap.size, 2, none⟩ = some (.slice v.lat.A v.lat.n v.lat.c) := q1.cell 2
  have s3 : W1.cell? ⟨w.heap.size, 3, none⟩ = some (.slice v.outs.A v.outs.n v.outs.c) := q1.cell 3
  have s4 : W1.cell? ⟨w.heap.size, 4, none⟩ = some (.slice v.bads.A v.bads.n v.bads.c) := q1.cell 4
  have s5 : W1.cell? ⟨w.heap.size, 5, none⟩ = some (.slice v.cons.A v.cons.n v.cons.c) := q1.cell 5
  have s6 : W1.cell? ⟨w.heap.size, 6, none⟩ = some (.slice v.gat.A v.gat.n v.gat.c) := q1.cell 6
  have s7 : W1.cell? ⟨w.heap.size, 7, none⟩ = some (.slice v.sym.A v.sym.n v.sym.c) := q1.cell 7
  have s8 : W1.cell? ⟨w.heap.size, 8, none⟩ = some (.string v.com) := q1.cell 8
  go_enter Tryd.func14, Tryd.ntmps14
  go_wp2_with fail
  refine (law_Few c.max 30 v W1).mono ?_
  rintro e w2 ⟨b, rfl, hb2, hF⟩
  have s0' := keepCell hb2 s0
  have s1' := keepCell hb2 s1
  have s2' := keepCell hb2 s2
  have s3' := keepCell hb2 s3
  have s4' := keepCell hb2 s4
  have s5' := keepCell hb2 s5
  have s6' := keepCell hb2 s6
  have s7' := keepCell hb2 s7
  have s8' := keepCell hb2 s8
  have hbw := hide (hb1.out.trans (hb2.mono hb1.out.size))
  clear s0 s1 s2 s3 s4 s5 s6 s7 s8
  cases b
  · clear hF
    go_wp2
    go_ret
    exact ⟨false, rfl, hbw.out, fun h => by cases h⟩
  have hF2 : Hid (FewOk 30 v) := hF rfl
  clear hF
  by_cases hm : c.max ≤ 300
  case neg =>
    have d1 : decide (c.max ≤ 300) = false := by simpa using hm
    clear hm
    go_wp2
    go_ret
    exact ⟨false, rfl, hbw.out, fun h => by cases h⟩
  have d1 : decide (c.max ≤ 300) = true := by simpa using hm
  have hC := hide (ref_Check v c w2 hF2.out hm (hi1.below hb2 (Nat.le_refl _)))
  have hm := hide hm
  go_wp2_with fail
  refine hC.out.mono ?_
  rintro e w3 ⟨r, rfl, hb3, hG⟩
  have hb3 := hide (hbw.out.trans (hb3.mono hbw.out.size))
  by_cases h0 : r = 0
  · have hG2 : Hid (GoodC c) := hG h0
    clear hG
    subst h0
    go_wp2
    go_ret
    exact ⟨true, rfl, hb3.out, fun _ => ⟨hF2.out, hm.out, hG2.out⟩⟩
  · have e0 : (r == 0) = false := by simpa using h0
    clear hG
    go_wp2
    go_ret
    exact ⟨false, rfl, hb3.out, fun h => by cases h⟩
end Go.Proofs.YtcjoohaagdihlaaDoor.Circ
