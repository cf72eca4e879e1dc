/- The law on the texts of faults: of a short text. -/
import Derived.Test.YtcjoohaagdihlaaDoorFaultTexts0
namespace Go.Proofs.YtcjoohaagdihlaaDoor.Fault
open Go.RowKit Go.Lt Go.Proofs.YtcjoohaagdihlaaDoor.Lit Go.Proofs.YtcjoohaagdihlaaDoor.Dec Go.Instr
set_option linter.unusedVariables false
set_option linter.unusedSimpArgs false

set_option maxRecDepth 4000 in
set_option maxHeartbeats 8000000 in
theorem ftexts_small (f : Ft) (s : ByteArray) (w : World) (hp : Pows w) (hx : MaxL w) (hd : Bd f) (hbig : ¬ 100 < s.size) :
    Calls Tryd.prog 12 #[.agg #[.int .i64 f.v, .int .i64 f.p, .bool f.o], .string s] w fun e w' => e = .returned (.bool true) ∧ Below w.heap.size w w' := by
  obtain ⟨X, hX⟩ : ∃ X : ByteArray, X = ⟨(textF f).toArray⟩ := ⟨_, rfl⟩
  have hXl : X.data.toList = textF f := by rw [hX]
  have hXs : X.size ≤ 1000 := by rw [← size_list, hXl]; have := textF_len hd; omega
  have TF := hide (fun W hW => ftextX hX hd W hW)
  have TR := hide (fun W => rtextF hX hd W)
  obtain ⟨⟨gx, kx⟩, hy⟩ := readS_ex X.data.toList
  have RX := hide (fun W hW hM => fread_to (fun x h => readS_one h hy) hXs W hW hM)
  have hok := hide (show OkF f → gx = f ∧ kx = 0 from fun h => by
    have h1 := text_back h
    rw [← hXl] at h1
    have := readS_one hy h1
    injection this with h2 h3
    exact ⟨h2, h3⟩)
  have hcs := hide (show (gx = f ∧ kx = 0 ∧ decide (f.v < 0) = false ∧ (True → decide (999999999 < f.v) = false) ∧ decide (f.p < 0) = false ∧ decide (2 < f.p) = false) ∨ decide (f.v < 0) = true ∨ (decide (f.v < 0) = false ∧ (True → decide (999999999 < f.v) = true)) ∨ (decide (f.v < 0) = false ∧ (True → decide (999999999 < f.v) = false) ∧ decide (f.p < 0) = true) ∨ (decide (f.v < 0) = false ∧ (True → decide (999999999 < f.v) = false) ∧ decide (f.p < 0) = false ∧ decide (2 < f.p) = true) by
    simp only [decide_eq_true_iff, decide_eq_false_iff_not, true_implies]
    by_cases h1 : f.v < 0
    · exact .inr (.inl h1)
    · by_cases h2 : 999999999 < f.v
      · exact .inr (.inr (.inl ⟨h1, h2⟩))
      · by_cases h3 : f.p < 0
        · exact .inr (.inr (.inr (.inl ⟨h1, h2, h3⟩)))
        · by_cases h4 : 2 < f.p
          · exact .inr (.inr (.inr (.inr ⟨h1, h2, h3, h4⟩)))
          · obtain ⟨e1, e2⟩ := hok.out ⟨by omega, by omega, by omega⟩
            exact .inl ⟨e1, e2, h1, h2, h3, h4⟩)
  clear hd hok hX hXl hXs hy
  have q0 := Blk.new w 54 #[.int .i64 f.v, .int .i64 f.p, .bool f.o]
  have ba := (Below.refl w.heap.size w).alloc (Nat.le_refl _) (.cells #[.int .i64 f.v, .int .i64 f.p, .bool f.o] 54)
  obtain ⟨s', hs'⟩ : ∃ s', s = s' := ⟨_, rfl⟩
  subst hs'
  have hsz : s.size ≤ 100 := by omega
  have hbI : ¬ (100 : Int) < s.size := by omega
  obtain ⟨⟨g, k⟩, hgk⟩ := readS_ex s.data.toList
  have R1 := hide (fun W hW hM => fread_to (fun x h => readS_one h hgk) (by omega) W hW hM)
  have R2 := hide (fun W => rread_to (fun x h => readS_one h hgk) (by omega) W)
  have hk := hide (show k = 0 ∨ k = 2 by rcases hgk with ⟨h, _⟩ | ⟨h, _⟩; exact .inl h; exact .inr h)
  have hgb := readS_bd hgk
  have TG0 := hide (show k = 0 → ∀ W, Pows W → Calls Tryd.prog 74 #[.agg #[.int .i64 g.v, .int .i64 g.p, .bool g.o]] W fun e w' => e = .returned (.string s) ∧ Below W.heap.size W w' from fun h => by
    refine ftextX ?_ hgb
    rcases hgk with ⟨_, _, h3⟩ | ⟨h1, _⟩
    · simp only at h3; rw [h3, mk_list]
    · simp only at h1; omega)
  clear hgk hgb hsz
  go_enter Tryd.func12, Tryd.ntmps12
  go_wp2_with fail
  refine (R1.out _ (hp.below ba) (hx.below ba)).mono ?_
  rintro e w1 ⟨rfl, hb1⟩
  have q1 := q0.below hb1 q0.lt
  have b1 := ba.trans (hb1.mono ba.size)
  have b1a := b1.alloc b1.size (.cells #[.int .i64 g.v, .int .i64 g.p, .bool g.o] 54)
  have q2 := Blk.new w1 54 #[.int .i64 g.v, .int .i64 g.p, .bool g.o]
  clear hb1 R1
  go_wp2_with fail
  refine (R2.out _).mono ?_
  rintro e w2 ⟨rfl, hb2⟩
  have b2 := b1a.trans (hb2.mono b1a.size)
  have HF := hide (show Bx w f g w1.heap.size w2.heap.size (w2.alloc (.cells #[.int .i64 g.v, .int .i64 g.p, .bool g.o] 54)) from
    ⟨((q1.alloc _).below hb2 (q1.alloc _).lt).alloc _, (q2.below hb2 q2.lt).alloc _, Blk.new _ _ _, b2.alloc b2.size _, hp.below (b2.alloc b2.size _), hx.below (b2.alloc b2.size _)⟩)
  clear hb2 R2 q0 q1 q2 ba b1 b1a b2
  have cf0 : (w2.alloc (.cells #[.int .i64 g.v, .int .i64 g.p, .bool g.o] 54)).cell? ⟨w.heap.size, 0, none⟩ = some (.int .i64 f.v) := HF.out.fb.cell 0
  have cf1 : (w2.alloc (.cells #[.int .i64 g.v, .int .i64 g.p, .bool g.o] 54)).cell? ⟨w.heap.size, 1, none⟩ = some (.int .i64 f.p) := HF.out.fb.cell 1
  have cf2 : (w2.alloc (.cells #[.int .i64 g.v, .int .i64 g.p, .bool g.o] 54)).cell? ⟨w.heap.size, 2, none⟩ = some (.bool f.o) := HF.out.fb.cell 2
  have cg0 : (w2.alloc (.cells #[.int .i64 g.v, .int .i64 g.p, .bool g.o] 54)).cell? ⟨w1.heap.size, 0, none⟩ = some (.int .i64 g.v) := HF.out.gb.cell 0
  have cg1 : (w2.alloc (.cells #[.int .i64 g.v, .int .i64 g.p, .bool g.o] 54)).cell? ⟨w1.heap.size, 1, none⟩ = some (.int .i64 g.p) := HF.out.gb.cell 1
  have cg2 : (w2.alloc (.cells #[.int .i64 g.v, .int .i64 g.p, .bool g.o] 54)).cell? ⟨w1.heap.size, 2, none⟩ = some (.bool g.o) := HF.out.gb.cell 2
  have ch0 : (w2.alloc (.cells #[.int .i64 g.v, .int .i64 g.p, .bool g.o] 54)).cell? ⟨w2.heap.size, 0, none⟩ = some (.int .i64 g.v) := HF.out.hb.cell 0
  have ch1 : (w2.alloc (.cells #[.int .i64 g.v, .int .i64 g.p, .bool g.o] 54)).cell? ⟨w2.heap.size, 1, none⟩ = some (.int .i64 g.p) := HF.out.hb.cell 1
  have ch2 : (w2.alloc (.cells #[.int .i64 g.v, .int .i64 g.p, .bool g.o] 54)).cell? ⟨w2.heap.size, 2, none⟩ = some (.bool g.o) := HF.out.hb.cell 2
  have HF := hide (show Bx w f g w1.heap.size w2.heap.size (w2.alloc (.cells #[.int .i64 g.v, .int .i64 g.p, .bool g.o] 54)).drew from HF.out.step (Dr.below ⟨1, rfl⟩ _))
  rcases hk.out with rfl | rfl
  · have TG := hide (TG0.out rfl)
    clear TG0
    go_wp2
    apply via (Bx w f g w1.heap.size w2.heap.size)
    case h1 =>
      intro key
      refine wp_region_held_drew (S := fun W' => W'.cell? ⟨w.heap.size, 0, none⟩ = some (.int .i64 f.v) ∧ W'.cell? ⟨w.heap.size, 1, none⟩ = some (.int .i64 f.p) ∧ W'.cell? ⟨w.heap.size, 2, none⟩ = some (.bool f.o) ∧ W'.cell? ⟨w1.heap.size, 0, none⟩ = some (.int .i64 g.v) ∧ W'.cell? ⟨w1.heap.size, 1, none⟩ = some (.int .i64 g.p) ∧ W'.cell? ⟨w1.heap.size, 2, none⟩ = some (.bool g.o) ∧ W'.cell? ⟨w2.heap.size, 0, none⟩ = some (.int .i64 g.v) ∧ W'.cell? ⟨w2.heap.size, 1, none⟩ = some (.int .i64 g.p) ∧ W'.cell? ⟨w2.heap.size, 2, none⟩ = some (.bool g.o)) (by kernel_rfl) (⟨HF.out.fb.cell 0, HF.out.fb.cell 1, HF.out.fb.cell 2, HF.out.gb.cell 0, HF.out.gb.cell 1, HF.out.gb.cell 2, HF.out.hb.cell 0, HF.out.hb.cell 1, HF.out.hb.cell 2⟩) (fun hHeld => ?_)
      refine wpAnyH_take (i := 0) (v := ?_) rfl (by kernel_rfl) (by kernel_rfl) (by kernel_rfl) (fun _ _ _ h => h) (Or.inl ⟨by kernel_rfl, ?_⟩) (by assumption) ?_
      rotate_left
      · intro wz hSw; (try dsimp only at hSw); go_simp; (try with_reducible rfl)
      try simp only [Act.put, List.getElem_toArray, List.getElem_cons_succ, List.getElem_cons_zero, List.setIfInBounds_toArray, List.set_cons_zero, List.set_cons_succ]
      refine wpAnyH_take (i := 1) (v := ?_) rfl (by kernel_rfl) (by kernel_rfl) (by kernel_rfl) (fun _ _ _ h => h) (Or.inl ⟨by kernel_rfl, ?_⟩) (by assumption) ?_
      rotate_left
      · intro wz hSw; (try dsimp only at hSw); go_simp; (try with_reducible rfl)
      try simp only [Act.put, List.getElem_toArray, List.getElem_cons_succ, List.getElem_cons_zero, List.setIfInBounds_toArray, List.set_cons_zero, List.set_cons_succ]
      refine wpAnyH_take (i := 2) (v := ?_) rfl (by kernel_rfl) (by kernel_rfl) (by kernel_rfl) (fun _ _ _ h => h) (Or.inl ⟨by kernel_rfl, ?_⟩) (by assumption) ?_
      rotate_left
      · intro wz hSw; (try dsimp only at hSw); go_simp; (try with_reducible rfl)
      try simp only [Act.put, List.getElem_toArray, List.getElem_cons_succ, List.getElem_cons_zero, List.setIfInBounds_toArray, List.set_cons_zero, List.set_cons_succ]
      refine wpAnyH_take (i := 3) (v := ?_) rfl (by kernel_rfl) (by kernel_rfl) (by kernel_rfl) (fun _ _ _ h => h) (Or.inl ⟨by kernel_rfl, ?_⟩) (by assumption) ?_
      rotate_left
      · intro wz hSw; (try dsimp only at hSw); go_simp; (try with_reducible rfl)
      try simp only [Act.put, List.getElem_toArray, List.getElem_cons_succ, List.getElem_cons_zero, List.setIfInBounds_toArray, List.set_cons_zero, List.set_cons_succ]
      refine wpAnyH_take (i := 4) (v := ?_) rfl (by kernel_rfl) (by kernel_rfl) (by kernel_rfl) (fun _ _ _ h => h) (Or.inl ⟨by kernel_rfl, ?_⟩) (by assumption) ?_
      rotate_left
      · intro wz hSw; (try dsimp only at hSw); go_simp; (try with_reducible rfl)
      try simp only [Act.put, List.getElem_toArray, List.getElem_cons_succ, List.getElem_cons_zero, List.setIfInBounds_toArray, List.set_cons_zero, List.set_cons_succ]
      refine wpAnyH_take (i := 5) (v := ?_) rfl (by kernel_rfl) (by kernel_rfl) (by kernel_rfl) (fun _ _ _ h => h) (Or.inl ⟨by kernel_rfl, ?_⟩) (by assumption) ?_
      rotate_left
      · intro wz hSw; (try dsimp only at hSw); go_simp; (try with_reducible rfl)
      try simp only [Act.put, List.getElem_toArray, List.getElem_cons_succ, List.getElem_cons_zero, List.setIfInBounds_toArray, List.set_cons_zero, List.set_cons_succ]
      refine wpAnyH_take (i := 6) (v := ?_) rfl (by kernel_rfl) (by kernel_rfl) (by kernel_rfl) (fun _ _ _ h => h) (Or.inl ⟨by kernel_rfl, ?_⟩) (by assumption) ?_
      rotate_left
      · intro wz hSw; (try dsimp only at hSw); go_simp; (try with_reducible rfl)
      try simp only [Act.put, List.getElem_toArray, List.getElem_cons_succ, List.getElem_cons_zero, List.setIfInBounds_toArray, List.set_cons_zero, List.set_cons_succ]
      refine wpAnyH_take (i := 7) (v := ?_) rfl (by kernel_rfl) (by kernel_rfl) (by kernel_rfl) (fun _ _ _ h => h) (Or.inl ⟨by kernel_rfl, ?_⟩) (by assumption) ?_
      rotate_left
      · intro wz hSw; (try dsimp only at hSw); go_simp; (try with_reducible rfl)
      try simp only [Act.put, List.getElem_toArray, List.getElem_cons_succ, List.getElem_cons_zero, List.setIfInBounds_toArray, List.set_cons_zero, List.set_cons_succ]
      refine wpAnyH_take (i := 8) (v := ?_) rfl (by kernel_rfl) (by kernel_rfl) (by kernel_rfl) (fun _ _ _ h => h) (Or.inl ⟨by kernel_rfl, ?_⟩) (by assumption) ?_
      rotate_left
      · intro wz hSw; (try dsimp only at hSw); go_simp; (try with_reducible rfl)
      try simp only [Act.put, List.getElem_toArray, List.getElem_cons_succ, List.getElem_cons_zero, List.setIfInBounds_toArray, List.set_cons_zero, List.set_cons_succ]
      refine wpAnyH_take (i := 9) (v := ?_) rfl (by kernel_rfl) (by kernel_rfl) (by kernel_rfl) (fun _ _ _ h => h) (Or.inl ⟨by kernel_rfl, ?_⟩) (by assumption) ?_
      rotate_left
      · intro wz hSw; (try dsimp only at hSw); go_simp; (try with_reducible rfl)
      try simp only [Act.put, List.getElem_toArray, List.getElem_cons_succ, List.getElem_cons_zero, List.setIfInBounds_toArray, List.set_cons_zero, List.set_cons_succ]
      refine wpAnyH_take (i := 11) (v := ?_) rfl (by kernel_rfl) (by kernel_rfl) (by kernel_rfl) (fun _ _ _ h => h) (Or.inl ⟨by kernel_rfl, ?_⟩) (by assumption) ?_
      rotate_left
      · intro wz hSw; (try dsimp only at hSw); go_simp; (try with_reducible rfl)
      try simp only [Act.put, List.getElem_toArray, List.getElem_cons_succ, List.getElem_cons_zero, List.setIfInBounds_toArray, List.set_cons_zero, List.set_cons_succ]
      refine wpAnyH_ready (rs := [10]) (by kernel_rfl) (by simp) ?_
      refine AllReadyH.cons rfl (fun K hK => ?_) AllReadyH.nil
      go_simp
      go_wp2_with (go_at_call 74; (with_reducible refine (TF.out _ HF.out.pw).mono ?_); rintro e w4 ⟨rfl, hb4⟩; have HF := hide (HF.out.step hb4); clear hb4)
      refine hK.out _ _ (⟨HF.out.fb.cell 0, HF.out.fb.cell 1, HF.out.fb.cell 2, HF.out.gb.cell 0, HF.out.gb.cell 1, HF.out.gb.cell 2, HF.out.hb.cell 0, HF.out.hb.cell 1, HF.out.hb.cell 2⟩) (fun hHeld => ?_)
      clear hK K
      refine wpAnyH_ready (rs := [12]) (by kernel_rfl) (by simp) ?_
      refine AllReadyH.cons rfl (fun K hK => ?_) AllReadyH.nil
      go_simp
      go_wp2_with (go_at_call 75; (with_reducible refine (TR.out _).mono ?_); rintro e w4 ⟨rfl, hb4⟩; have HF := hide (HF.out.step hb4); clear hb4)
      refine hK.out _ _ (⟨HF.out.fb.cell 0, HF.out.fb.cell 1, HF.out.fb.cell 2, HF.out.gb.cell 0, HF.out.gb.cell 1, HF.out.gb.cell 2, HF.out.hb.cell 0, HF.out.hb.cell 1, HF.out.hb.cell 2⟩) (fun hHeld => ?_)
      clear hK K
      refine wpAnyH_take (i := 13) (v := ?_) rfl (by kernel_rfl) (by kernel_rfl) (by kernel_rfl) (fun _ _ _ h => h) (Or.inl ⟨by kernel_rfl, ?_⟩) (by assumption) ?_
      rotate_left
      · intro wz hSw; (try dsimp only at hSw); go_simp; (try with_reducible rfl)
      try simp only [Act.put, List.getElem_toArray, List.getElem_cons_succ, List.getElem_cons_zero, List.setIfInBounds_toArray, List.set_cons_zero, List.set_cons_succ]
      refine wpAnyH_take (i := 14) (v := ?_) rfl (by kernel_rfl) (by kernel_rfl) (by kernel_rfl) (fun _ _ _ h => h) (Or.inl ⟨by kernel_rfl, ?_⟩) (by assumption) ?_
      rotate_left
      · intro wz hSw; (try dsimp only at hSw); go_simp; (try with_reducible rfl)
      try simp only [Act.put, List.getElem_toArray, List.getElem_cons_succ, List.getElem_cons_zero, List.setIfInBounds_toArray, List.set_cons_zero, List.set_cons_succ]
      refine wpAnyH_take (i := 15) (v := ?_) rfl (by kernel_rfl) (by kernel_rfl) (by kernel_rfl) (fun _ _ _ h => h) (Or.inl ⟨by kernel_rfl, ?_⟩) (by assumption) ?_
      rotate_left
      · intro wz hSw; (try dsimp only at hSw); go_simp; (try with_reducible rfl)
      try simp only [Act.put, List.getElem_toArray, List.getElem_cons_succ, List.getElem_cons_zero, List.setIfInBounds_toArray, List.set_cons_zero, List.set_cons_succ]
      refine wpAnyH_take (i := 16) (v := ?_) rfl (by kernel_rfl) (by kernel_rfl) (by kernel_rfl) (fun _ _ _ h => h) (Or.inl ⟨by kernel_rfl, ?_⟩) (by assumption) ?_
      rotate_left
      · intro wz hSw; (try dsimp only at hSw); go_simp; (try with_reducible rfl)
      try simp only [Act.put, List.getElem_toArray, List.getElem_cons_succ, List.getElem_cons_zero, List.setIfInBounds_toArray, List.set_cons_zero, List.set_cons_succ]
      refine wpAnyH_take (i := 17) (v := ?_) rfl (by kernel_rfl) (by kernel_rfl) (by kernel_rfl) (fun _ _ _ h => h) (Or.inl ⟨by kernel_rfl, ?_⟩) (by assumption) ?_
      rotate_left
      · intro wz hSw; (try dsimp only at hSw); go_simp; (try with_reducible rfl)
      try simp only [Act.put, List.getElem_toArray, List.getElem_cons_succ, List.getElem_cons_zero, List.setIfInBounds_toArray, List.set_cons_zero, List.set_cons_succ]
      refine wpAnyH_take (i := 18) (v := ?_) rfl (by kernel_rfl) (by kernel_rfl) (by kernel_rfl) (fun _ _ _ h => h) (Or.inl ⟨by kernel_rfl, ?_⟩) (by assumption) ?_
      rotate_left
      · intro wz hSw; (try dsimp only at hSw); go_simp; (try with_reducible rfl)
      try simp only [Act.put, List.getElem_toArray, List.getElem_cons_succ, List.getElem_cons_zero, List.setIfInBounds_toArray, List.set_cons_zero, List.set_cons_succ]
      refine wpAnyH_take (i := 19) (v := ?_) rfl (by kernel_rfl) (by kernel_rfl) (by kernel_rfl) (fun _ _ _ h => h) (Or.inl ⟨by kernel_rfl, ?_⟩) (by assumption) ?_
      rotate_left
      · intro wz hSw; (try dsimp only at hSw); go_simp; (try with_reducible rfl)
      try simp only [Act.put, List.getElem_toArray, List.getElem_cons_succ, List.getElem_cons_zero, List.setIfInBounds_toArray, List.set_cons_zero, List.set_cons_succ]
      refine wpAnyH_take (i := 21) (v := ?_) rfl (by kernel_rfl) (by kernel_rfl) (by kernel_rfl) (fun _ _ _ h => h) (Or.inl ⟨by kernel_rfl, ?_⟩) (by assumption) ?_
      rotate_left
      · intro wz hSw; (try dsimp only at hSw); go_simp; (try with_reducible rfl)
      try simp only [Act.put, List.getElem_toArray, List.getElem_cons_succ, List.getElem_cons_zero, List.setIfInBounds_toArray, List.set_cons_zero, List.set_cons_succ]
      refine wpAnyH_ready (rs := [20]) (by kernel_rfl) (by simp) ?_
      refine AllReadyH.cons rfl (fun K hK => ?_) AllReadyH.nil
      go_simp
      go_wp2_with (go_at_call 74; (with_reducible refine (TG.out _ HF.out.pw).mono ?_); rintro e w4 ⟨rfl, hb4⟩; have HF := hide (HF.out.step hb4); clear hb4)
      refine hK.out _ _ (⟨HF.out.fb.cell 0, HF.out.fb.cell 1, HF.out.fb.cell 2, HF.out.gb.cell 0, HF.out.gb.cell 1, HF.out.gb.cell 2, HF.out.hb.cell 0, HF.out.hb.cell 1, HF.out.hb.cell 2⟩) (fun hHeld => ?_)
      clear hK K
      refine wpAnyH_take (i := 22) (v := ?_) rfl (by kernel_rfl) (by kernel_rfl) (by kernel_rfl) (fun _ _ _ h => h) (Or.inl ⟨by kernel_rfl, ?_⟩) (by assumption) ?_
      rotate_left
      · intro wz hSw; (try dsimp only at hSw); go_simp; (try with_reducible rfl)
      try simp only [Act.put, List.getElem_toArray, List.getElem_cons_succ, List.getElem_cons_zero, List.setIfInBounds_toArray, List.set_cons_zero, List.set_cons_succ]
      refine wpAnyH_take (i := 23) (v := ?_) rfl (by kernel_rfl) (by kernel_rfl) (by kernel_rfl) (fun _ _ _ h => h) (Or.inl ⟨by kernel_rfl, ?_⟩) (by assumption) ?_
      rotate_left
      · intro wz hSw; (try dsimp only at hSw); go_simp; (try with_reducible rfl)
      try simp only [Act.put, List.getElem_toArray, List.getElem_cons_succ, List.getElem_cons_zero, List.setIfInBounds_toArray, List.set_cons_zero, List.set_cons_succ]
      refine wpAnyH_take (i := 24) (v := ?_) rfl (by kernel_rfl) (by kernel_rfl) (by kernel_rfl) (fun _ _ _ h => h) (Or.inl ⟨by kernel_rfl, ?_⟩) (by assumption) ?_
      rotate_left
      · intro wz hSw; (try dsimp only at hSw); go_simp; (try with_reducible rfl)
      try simp only [Act.put, List.getElem_toArray, List.getElem_cons_succ, List.getElem_cons_zero, List.setIfInBounds_toArray, List.set_cons_zero, List.set_cons_succ]
      refine wpAnyH_done (by kernel_rfl) ?_ _
      exact key _ HF.out
    case h2 =>
      intro w4 HF
      have HF := hide HF
      have k0 : w4.cell? ⟨w.heap.size, 0, none⟩ = some (.int .i64 f.v) := HF.out.fb.cell 0
      have k1 : w4.cell? ⟨w.heap.size, 1, none⟩ = some (.int .i64 f.p) := HF.out.fb.cell 1
      have k2 : w4.cell? ⟨w.heap.size, 2, none⟩ = some (.bool f.o) := HF.out.fb.cell 2
      go_wp2_with fail
      refine (TF.out _ HF.out.pw).mono ?_
      rintro e w5 ⟨rfl, hb5⟩
      have HF := hide (HF.out.step hb5)
      clear hb5 k0 k1 k2
      go_wp2_with fail
      refine (RX.out _ HF.out.pw HF.out.mx).mono ?_
      rintro e w6 ⟨rfl, hb6⟩
      have HF := hide (HF.out.step hb6)
      clear hb6 RX TF TR
      have HF7 := hide (HF.out.step ((Below.refl w6.heap.size w6).alloc (Nat.le_refl _) (.cells #[.int .i64 gx.v, .int .i64 gx.p, .bool gx.o] 54)))
      have k0 : (w6.alloc (.cells #[.int .i64 gx.v, .int .i64 gx.p, .bool gx.o] 54)).cell? ⟨w.heap.size, 0, none⟩ = some (.int .i64 f.v) := HF7.out.fb.cell 0
      have k1 : (w6.alloc (.cells #[.int .i64 gx.v, .int .i64 gx.p, .bool gx.o] 54)).cell? ⟨w.heap.size, 1, none⟩ = some (.int .i64 f.p) := HF7.out.fb.cell 1
      have k2 : (w6.alloc (.cells #[.int .i64 gx.v, .int .i64 gx.p, .bool gx.o] 54)).cell? ⟨w.heap.size, 2, none⟩ = some (.bool f.o) := HF7.out.fb.cell 2
      have r0 : (w6.alloc (.cells #[.int .i64 gx.v, .int .i64 gx.p, .bool gx.o] 54)).cell? ⟨w6.heap.size, 0, none⟩ = some (.int .i64 gx.v) := (Blk.new w6 _ _).cell 0
      have r1 : (w6.alloc (.cells #[.int .i64 gx.v, .int .i64 gx.p, .bool gx.o] 54)).cell? ⟨w6.heap.size, 1, none⟩ = some (.int .i64 gx.p) := (Blk.new w6 _ _).cell 1
      have r2 : (w6.alloc (.cells #[.int .i64 gx.v, .int .i64 gx.p, .bool gx.o] 54)).cell? ⟨w6.heap.size, 2, none⟩ = some (.bool gx.o) := (Blk.new w6 _ _).cell 2
      rcases hcs.out with ⟨rfl, rfl, d1, d2, d3, d4⟩ | d1 | ⟨d1, d2⟩ | ⟨d1, d2, d3⟩ | ⟨d1, d2, d3, d4⟩
      all_goals
        go_wp2_with fail
        refine (lives _ HF7.out.pw).mono ?_
        rintro e w8 ⟨rfl, hb8⟩
        have HB := hide (HF7.out.bel.trans (hb8.mono HF7.out.bel.size))
        clear hb8
        go_wp2
        go_ret
        exact ⟨rfl, HB.out⟩
  · clear TG0
    go_wp2
    apply via (Bx w f g w1.heap.size w2.heap.size)
    case h1 =>
      intro key
      refine wp_region_held_drew (S := fun W' => W'.cell? ⟨w.heap.size, 0, none⟩ = some (.int .i64 f.v) ∧ W'.cell? ⟨w.heap.size, 1, none⟩ = some (.int .i64 f.p) ∧ W'.cell? ⟨w.heap.size, 2, none⟩ = some (.bool f.o) ∧ W'.cell? ⟨w1.heap.size, 0, none⟩ = some (.int .i64 g.v) ∧ W'.cell? ⟨w1.heap.size, 1, none⟩ = some (.int .i64 g.p) ∧ W'.cell? ⟨w1.heap.size, 2, none⟩ = some (.bool g.o) ∧ W'.cell? ⟨w2.heap.size, 0, none⟩ = some (.int .i64 g.v) ∧ W'.cell? ⟨w2.heap.size, 1, none⟩ = some (.int .i64 g.p) ∧ W'.cell? ⟨w2.heap.size, 2, none⟩ = some (.bool g.o)) (by kernel_rfl) (⟨HF.out.fb.cell 0, HF.out.fb.cell 1, HF.out.fb.cell 2, HF.out.gb.cell 0, HF.out.gb.cell 1, HF.out.gb.cell 2, HF.out.hb.cell 0, HF.out.hb.cell 1, HF.out.hb.cell 2⟩) (fun hHeld => ?_)
      refine wpAnyH_take (i := 0) (v := ?_) rfl (by kernel_rfl) (by kernel_rfl) (by kernel_rfl) (fun _ _ _ h => h) (Or.inl ⟨by kernel_rfl, ?_⟩) (by assumption) ?_
      rotate_left
      · intro wz hSw; (try dsimp only at hSw); go_simp; (try with_reducible rfl)
      try simp only [Act.put, List.getElem_toArray, List.getElem_cons_succ, List.getElem_cons_zero, List.setIfInBounds_toArray, List.set_cons_zero, List.set_cons_succ]
      refine wpAnyH_take (i := 1) (v := ?_) rfl (by kernel_rfl) (by kernel_rfl) (by kernel_rfl) (fun _ _ _ h => h) (Or.inl ⟨by kernel_rfl, ?_⟩) (by assumption) ?_
      rotate_left
      · intro wz hSw; (try dsimp only at hSw); go_simp; (try with_reducible rfl)
      try simp only [Act.put, List.getElem_toArray, List.getElem_cons_succ, List.getElem_cons_zero, List.setIfInBounds_toArray, List.set_cons_zero, List.set_cons_succ]
      refine wpAnyH_take (i := 2) (v := ?_) rfl (by kernel_rfl) (by kernel_rfl) (by kernel_rfl) (fun _ _ _ h => h) (Or.inl ⟨by kernel_rfl, ?_⟩) (by assumption) ?_
      rotate_left
      · intro wz hSw; (try dsimp only at hSw); go_simp; (try with_reducible rfl)
      try simp only [Act.put, List.getElem_toArray, List.getElem_cons_succ, List.getElem_cons_zero, List.setIfInBounds_toArray, List.set_cons_zero, List.set_cons_succ]
      refine wpAnyH_take (i := 3) (v := ?_) rfl (by kernel_rfl) (by kernel_rfl) (by kernel_rfl) (fun _ _ _ h => h) (Or.inl ⟨by kernel_rfl, ?_⟩) (by assumption) ?_
      rotate_left
      · intro wz hSw; (try dsimp only at hSw); go_simp; (try with_reducible rfl)
      try simp only [Act.put, List.getElem_toArray, List.getElem_cons_succ, List.getElem_cons_zero, List.setIfInBounds_toArray, List.set_cons_zero, List.set_cons_succ]
      refine wpAnyH_take (i := 4) (v := ?_) rfl (by kernel_rfl) (by kernel_rfl) (by kernel_rfl) (fun _ _ _ h => h) (Or.inl ⟨by kernel_rfl, ?_⟩) (by assumption) ?_
      rotate_left
      · intro wz hSw; (try dsimp only at hSw); go_simp; (try with_reducible rfl)
      try simp only [Act.put, List.getElem_toArray, List.getElem_cons_succ, List.getElem_cons_zero, List.setIfInBounds_toArray, List.set_cons_zero, List.set_cons_succ]
      refine wpAnyH_take (i := 5) (v := ?_) rfl (by kernel_rfl) (by kernel_rfl) (by kernel_rfl) (fun _ _ _ h => h) (Or.inl ⟨by kernel_rfl, ?_⟩) (by assumption) ?_
      rotate_left
      · intro wz hSw; (try dsimp only at hSw); go_simp; (try with_reducible rfl)
      try simp only [Act.put, List.getElem_toArray, List.getElem_cons_succ, List.getElem_cons_zero, List.setIfInBounds_toArray, List.set_cons_zero, List.set_cons_succ]
      refine wpAnyH_take (i := 6) (v := ?_) rfl (by kernel_rfl) (by kernel_rfl) (by kernel_rfl) (fun _ _ _ h => h) (Or.inl ⟨by kernel_rfl, ?_⟩) (by assumption) ?_
      rotate_left
      · intro wz hSw; (try dsimp only at hSw); go_simp; (try with_reducible rfl)
      try simp only [Act.put, List.getElem_toArray, List.getElem_cons_succ, List.getElem_cons_zero, List.setIfInBounds_toArray, List.set_cons_zero, List.set_cons_succ]
      refine wpAnyH_take (i := 7) (v := ?_) rfl (by kernel_rfl) (by kernel_rfl) (by kernel_rfl) (fun _ _ _ h => h) (Or.inl ⟨by kernel_rfl, ?_⟩) (by assumption) ?_
      rotate_left
      · intro wz hSw; (try dsimp only at hSw); go_simp; (try with_reducible rfl)
      try simp only [Act.put, List.getElem_toArray, List.getElem_cons_succ, List.getElem_cons_zero, List.setIfInBounds_toArray, List.set_cons_zero, List.set_cons_succ]
      refine wpAnyH_take (i := 8) (v := ?_) rfl (by kernel_rfl) (by kernel_rfl) (by kernel_rfl) (fun _ _ _ h => h) (Or.inl ⟨by kernel_rfl, ?_⟩) (by assumption) ?_
      rotate_left
      · intro wz hSw; (try dsimp only at hSw); go_simp; (try with_reducible rfl)
      try simp only [Act.put, List.getElem_toArray, List.getElem_cons_succ, List.getElem_cons_zero, List.setIfInBounds_toArray, List.set_cons_zero, List.set_cons_succ]
      refine wpAnyH_take (i := 9) (v := ?_) rfl (by kernel_rfl) (by kernel_rfl) (by kernel_rfl) (fun _ _ _ h => h) (Or.inl ⟨by kernel_rfl, ?_⟩) (by assumption) ?_
      rotate_left
      · intro wz hSw; (try dsimp only at hSw); go_simp; (try with_reducible rfl)
      try simp only [Act.put, List.getElem_toArray, List.getElem_cons_succ, List.getElem_cons_zero, List.setIfInBounds_toArray, List.set_cons_zero, List.set_cons_succ]
      refine wpAnyH_take (i := 11) (v := ?_) rfl (by kernel_rfl) (by kernel_rfl) (by kernel_rfl) (fun _ _ _ h => h) (Or.inl ⟨by kernel_rfl, ?_⟩) (by assumption) ?_
      rotate_left
      · intro wz hSw; (try dsimp only at hSw); go_simp; (try with_reducible rfl)
      try simp only [Act.put, List.getElem_toArray, List.getElem_cons_succ, List.getElem_cons_zero, List.setIfInBounds_toArray, List.set_cons_zero, List.set_cons_succ]
      refine wpAnyH_ready (rs := [10]) (by kernel_rfl) (by simp) ?_
      refine AllReadyH.cons rfl (fun K hK => ?_) AllReadyH.nil
      go_simp
      go_wp2_with (go_at_call 74; (with_reducible refine (TF.out _ HF.out.pw).mono ?_); rintro e w4 ⟨rfl, hb4⟩; have HF := hide (HF.out.step hb4); clear hb4)
      refine hK.out _ _ (⟨HF.out.fb.cell 0, HF.out.fb.cell 1, HF.out.fb.cell 2, HF.out.gb.cell 0, HF.out.gb.cell 1, HF.out.gb.cell 2, HF.out.hb.cell 0, HF.out.hb.cell 1, HF.out.hb.cell 2⟩) (fun hHeld => ?_)
      clear hK K
      refine wpAnyH_ready (rs := [12]) (by kernel_rfl) (by simp) ?_
      refine AllReadyH.cons rfl (fun K hK => ?_) AllReadyH.nil
      go_simp
      go_wp2_with (go_at_call 75; (with_reducible refine (TR.out _).mono ?_); rintro e w4 ⟨rfl, hb4⟩; have HF := hide (HF.out.step hb4); clear hb4)
      refine hK.out _ _ (⟨HF.out.fb.cell 0, HF.out.fb.cell 1, HF.out.fb.cell 2, HF.out.gb.cell 0, HF.out.gb.cell 1, HF.out.gb.cell 2, HF.out.hb.cell 0, HF.out.hb.cell 1, HF.out.hb.cell 2⟩) (fun hHeld => ?_)
      clear hK K
      refine wpAnyH_take (i := 13) (v := ?_) rfl (by kernel_rfl) (by kernel_rfl) (by kernel_rfl) (fun _ _ _ h => h) (Or.inl ⟨by kernel_rfl, ?_⟩) (by assumption) ?_
      rotate_left
      · intro wz hSw; (try dsimp only at hSw); go_simp; (try with_reducible rfl)
      try simp only [Act.put, List.getElem_toArray, List.getElem_cons_succ, List.getElem_cons_zero, List.setIfInBounds_toArray, List.set_cons_zero, List.set_cons_succ]
      refine wpAnyH_take (i := 14) (v := ?_) rfl (by kernel_rfl) (by kernel_rfl) (by kernel_rfl) (fun _ _ _ h => h) (Or.inl ⟨by kernel_rfl, ?_⟩) (by assumption) ?_
      rotate_left
      · intro wz hSw; (try dsimp only at hSw); go_simp; (try with_reducible rfl)
      try simp only [Act.put, List.getElem_toArray, List.getElem_cons_succ, List.getElem_cons_zero, List.setIfInBounds_toArray, List.set_cons_zero, List.set_cons_succ]
      refine wpAnyH_take (i := 15) (v := ?_) rfl (by kernel_rfl) (by kernel_rfl) (by kernel_rfl) (fun _ _ _ h => h) (Or.inl ⟨by kernel_rfl, ?_⟩) (by assumption) ?_
      rotate_left
      · intro wz hSw; (try dsimp only at hSw); go_simp; (try with_reducible rfl)
      try simp only [Act.put, List.getElem_toArray, List.getElem_cons_succ, List.getElem_cons_zero, List.setIfInBounds_toArray, List.set_cons_zero, List.set_cons_succ]
      refine wpAnyH_take (i := 16) (v := ?_) rfl (by kernel_rfl) (by kernel_rfl) (by kernel_rfl) (fun _ _ _ h => h) (Or.inl ⟨by kernel_rfl, ?_⟩) (by assumption) ?_
      rotate_left
      · intro wz hSw; (try dsimp only at hSw); go_simp; (try with_reducible rfl)
      try simp only [Act.put, List.getElem_toArray, List.getElem_cons_succ, List.getElem_cons_zero, List.setIfInBounds_toArray, List.set_cons_zero, List.set_cons_succ]
      refine wpAnyH_take (i := 17) (v := ?_) rfl (by kernel_rfl) (by kernel_rfl) (by kernel_rfl) (fun _ _ _ h => h) (Or.inl ⟨by kernel_rfl, ?_⟩) (by assumption) ?_
      rotate_left
      · intro wz hSw; (try dsimp only at hSw); go_simp; (try with_reducible rfl)
      try simp only [Act.put, List.getElem_toArray, List.getElem_cons_succ, List.getElem_cons_zero, List.setIfInBounds_toArray, List.set_cons_zero, List.set_cons_succ]
      refine wpAnyH_take (i := 18) (v := ?_) rfl (by kernel_rfl) (by kernel_rfl) (by kernel_rfl) (fun _ _ _ h => h) (Or.inl ⟨by kernel_rfl, ?_⟩) (by assumption) ?_
      rotate_left
      · intro wz hSw; (try dsimp only at hSw); go_simp; (try with_reducible rfl)
      try simp only [Act.put, List.getElem_toArray, List.getElem_cons_succ, List.getElem_cons_zero, List.setIfInBounds_toArray, List.set_cons_zero, List.set_cons_succ]
      refine wpAnyH_take (i := 19) rfl (by kernel_rfl) (by kernel_rfl) (by kernel_rfl) (fun _ _ _ h => h) (Or.inr ⟨by kernel_rfl, rfl⟩) (by assumption) ?_
      try simp only [Act.put, List.getElem_toArray, List.getElem_cons_succ, List.getElem_cons_zero, List.setIfInBounds_toArray, List.set_cons_zero, List.set_cons_succ]
      refine wpAnyH_take (i := 20) rfl (by kernel_rfl) (by kernel_rfl) (by kernel_rfl) (fun _ _ _ h => h) (Or.inr ⟨by kernel_rfl, rfl⟩) (by assumption) ?_
      try simp only [Act.put, List.getElem_toArray, List.getElem_cons_succ, List.getElem_cons_zero, List.setIfInBounds_toArray, List.set_cons_zero, List.set_cons_succ]
      refine wpAnyH_take (i := 21) rfl (by kernel_rfl) (by kernel_rfl) (by kernel_rfl) (fun _ _ _ h => h) (Or.inr ⟨by kernel_rfl, rfl⟩) (by assumption) ?_
      try simp only [Act.put, List.getElem_toArray, List.getElem_cons_succ, List.getElem_cons_zero, List.setIfInBounds_toArray, List.set_cons_zero, List.set_cons_succ]
      refine wpAnyH_take (i := 22) rfl (by kernel_rfl) (by kernel_rfl) (by kernel_rfl) (fun _ _ _ h => h) (Or.inr ⟨by kernel_rfl, rfl⟩) (by assumption) ?_
      try simp only [Act.put, List.getElem_toArray, List.getElem_cons_succ, List.getElem_cons_zero, List.setIfInBounds_toArray, List.set_cons_zero, List.set_cons_succ]
      refine wpAnyH_take (i := 23) (v := ?_) rfl (by kernel_rfl) (by kernel_rfl) (by kernel_rfl) (fun _ _ _ h => h) (Or.inl ⟨by kernel_rfl, ?_⟩) (by assumption) ?_
      rotate_left
      · intro wz hSw; (try dsimp only at hSw); go_simp; (try with_reducible rfl)
      try simp only [Act.put, List.getElem_toArray, List.getElem_cons_succ, List.getElem_cons_zero, List.setIfInBounds_toArray, List.set_cons_zero, List.set_cons_succ]
      refine wpAnyH_take (i := 24) (v := ?_) rfl (by kernel_rfl) (by kernel_rfl) (by kernel_rfl) (fun _ _ _ h => h) (Or.inl ⟨by kernel_rfl, ?_⟩) (by assumption) ?_
      rotate_left
      · intro wz hSw; (try dsimp only at hSw); go_simp; (try with_reducible rfl)
      try simp only [Act.put, List.getElem_toArray, List.getElem_cons_succ, List.getElem_cons_zero, List.setIfInBounds_toArray, List.set_cons_zero, List.set_cons_succ]
      refine wpAnyH_done (by kernel_rfl) ?_ _
      exact key _ HF.out
    case h2 =>
      intro w4 HF
      have HF := hide HF
      have k0 : w4.cell? ⟨w.heap.size, 0, none⟩ = some (.int .i64 f.v) := HF.out.fb.cell 0
      have k1 : w4.cell? ⟨w.heap.size, 1, none⟩ = some (.int .i64 f.p) := HF.out.fb.cell 1
      have k2 : w4.cell? ⟨w.heap.size, 2, none⟩ = some (.bool f.o) := HF.out.fb.cell 2
      go_wp2_with fail
      refine (TF.out _ HF.out.pw).mono ?_
      rintro e w5 ⟨rfl, hb5⟩
      have HF := hide (HF.out.step hb5)
      clear hb5 k0 k1 k2
      go_wp2_with fail
      refine (RX.out _ HF.out.pw HF.out.mx).mono ?_
      rintro e w6 ⟨rfl, hb6⟩
      have HF := hide (HF.out.step hb6)
      clear hb6 RX TF TR
      have HF7 := hide (HF.out.step ((Below.refl w6.heap.size w6).alloc (Nat.le_refl _) (.cells #[.int .i64 gx.v, .int .i64 gx.p, .bool gx.o] 54)))
      have k0 : (w6.alloc (.cells #[.int .i64 gx.v, .int .i64 gx.p, .bool gx.o] 54)).cell? ⟨w.heap.size, 0, none⟩ = some (.int .i64 f.v) := HF7.out.fb.cell 0
      have k1 : (w6.alloc (.cells #[.int .i64 gx.v, .int .i64 gx.p, .bool gx.o] 54)).cell? ⟨w.heap.size, 1, none⟩ = some (.int .i64 f.p) := HF7.out.fb.cell 1
      have k2 : (w6.alloc (.cells #[.int .i64 gx.v, .int .i64 gx.p, .bool gx.o] 54)).cell? ⟨w.heap.size, 2, none⟩ = some (.bool f.o) := HF7.out.fb.cell 2
      have r0 : (w6.alloc (.cells #[.int .i64 gx.v, .int .i64 gx.p, .bool gx.o] 54)).cell? ⟨w6.heap.size, 0, none⟩ = some (.int .i64 gx.v) := (Blk.new w6 _ _).cell 0
      have r1 : (w6.alloc (.cells #[.int .i64 gx.v, .int .i64 gx.p, .bool gx.o] 54)).cell? ⟨w6.heap.size, 1, none⟩ = some (.int .i64 gx.p) := (Blk.new w6 _ _).cell 1
      have r2 : (w6.alloc (.cells #[.int .i64 gx.v, .int .i64 gx.p, .bool gx.o] 54)).cell? ⟨w6.heap.size, 2, none⟩ = some (.bool gx.o) := (Blk.new w6 _ _).cell 2
      rcases hcs.out with ⟨rfl, rfl, d1, d2, d3, d4⟩ | d1 | ⟨d1, d2⟩ | ⟨d1, d2, d3⟩ | ⟨d1, d2, d3, d4⟩
      all_goals
        go_wp2_with fail
        refine (lives _ HF7.out.pw).mono ?_
        rintro e w8 ⟨rfl, hb8⟩
        have HB := hide (HF7.out.bel.trans (hb8.mono HF7.out.bel.size))
        clear hb8
        go_wp2
        go_ret
        exact ⟨rfl, HB.out⟩
end Go.Proofs.YtcjoohaagdihlaaDoor.Fault
