/- The contract of the document's Inject. -/
import Derived.Test.YtcjoohaagdihlaaDoorFaultInj1
import Derived.Deep.RegionHeld
import Derived.Deep.RegionLaw
import Derived.Deep.AppendLies
namespace Go.Proofs.YtcjoohaagdihlaaDoor.Fault
open Go.RowKit Go.Lt Go.Proofs.YtcjoohaagdihlaaDoor.Lit Go.Instr
set_option linter.unusedVariables false
set_option linter.unusedSimpArgs false

theorem via {G : Prop} (F : World → Prop) (P : World → Prop) (h1 : (∀ w5, F w5 → P w5) → G) (h2 : ∀ w5, F w5 → P w5) : G := h1 h2
theorem ivs_app (a b : List Int) : ivs (a ++ b) = ivs a ++ ivs b := by unfold ivs; rw [List.map_append]
theorem own_own_ne {w : World} {b1 b2 e1 e2 s1 s2 n1 n2 : Nat} {v1 v2 : Value} {xs1 xs2 : List Value} (h1 : w.ownsRow b1 e1 s1 v1 n1 xs1) (h2 : w.ownsRow b2 e2 s2 v2 n2 xs2) (hne : e1 ≠ e2) : v1.ownBlock = none ∨ v1.ownBlock ≠ v2.ownBlock := by
  rcases h1.2 with ⟨rfl, _⟩ | ⟨g1, c1, cur1, rfl, _, hg1, _⟩
  · exact .inl rfl
  · right
    rcases h2.2 with ⟨rfl, _⟩ | ⟨g2, c2, cur2, rfl, _, hg2, _⟩
    · simp [Value.ownBlock]
    · intro he
      have : g1 = g2 := by simpa [Value.ownBlock] using he
      subst this
      rw [hg1] at hg2
      injection hg2 with hg2
      injection hg2 with _ he _
      exact hne he
theorem news1 (w : World) (e : TypeId) (y : Value) : ∀ j u, [y][j]? = some u → (w.alloc (.cells #[y] e)).cell? ((⟨w.heap.size, 0, none⟩ : Addr).add j) = some u := by
  intro j u hu
  rw [add_lit3, World.cell?_alloc_new]
  simpa using hu
set_option maxRecDepth 8000 in
set_option maxHeartbeats 8000000 in
theorem ref_Inject (A C : Option Addr) (n m c cc : Nat) (l : List Nd) (outs : List Int) (f : Ft) (w : World) (hn : n ≤ 1000) (hm : m ≤ 1000) (hg : GoodNet l) (ho : GoodOuts l outs) (hr : RdN w A n l) (hro : Rd w C m (ivs outs)) :
    Calls Tryd.prog 40 #[.slice A n c, .slice C m cc, .agg #[.int .i64 f.v, .int .i64 f.p, .bool f.o]] w (InjIs l outs f w) := by
  have hnI : (n : Int) ≤ 1000 := by omega
  have hmI : (m : Int) ≤ 1000 := by omega
  have hl := hide hr.1
  have hlo := hide hro.len
  have HG := hide hg
  have HO := hide ho
  obtain ⟨G, hG⟩ : ∃ G, goodF l f = G := ⟨_, rfl⟩
  have HGd := hide (fun W hW => goodR_is (A := A) (n := n) (c := c) hG (by omega) W hW)
  have hGh := hide hG
  have HPin := hide (show G = true → f.p = 0 ∨ f.p = 1 ∨ f.p = 2 from fun h => by
    obtain ⟨_, _, h3⟩ := goodF_of (hGh.out.trans h)
    omega)
  have HX := hide (fun k x (h : l[k]? = some x) => show (injN l f).take (k + 1) = (injN l f).take k ++ [if G = true then injNd f k x else x] by rw [injN_get h, hGh.out])
  have HY := hide (fun k y (h : outs[k]? = some y) => show (injO l outs f).take (k + 1) = (injO l outs f).take k ++ [if G = true ∧ f.p = 0 then stuckL y f else y] by rw [injO_get h, hGh.out])
  have HS := hide (fun (y r : Int) (h : stuckL y f = r) h0 h1 W => stuck_to h h0 h1 W)
  obtain ⟨L, hL⟩ : ∃ L, injN l f = L := ⟨_, rfl⟩
  obtain ⟨M, hM⟩ : ∃ M, injO l outs f = M := ⟨_, rfl⟩
  have hLl := hide (show L.length = n by rw [← hL, injN_len]; exact hl.out)
  have hMl := hide (show M.length = m by rw [← hM, injO_len]; exact hlo.out)
  have HE := hide (fun v1 v2 w' (h1 : w'.ownsRow w.heap.size 111 2 v1 n (encN L)) (h2 : w'.ownsRow w.heap.size 3 1 v2 m (ivs M)) (hb : Below w.heap.size w w') => show InjIs l outs f w (.returned (.tuple #[v1, v2])) w' from by
    subst hL hM; exact ⟨v1, v2, rfl, by rw [hl.out]; exact h1, by rw [hlo.out]; exact h2, hb⟩)
  rw [hL] at HX
  rw [hM] at HY
  have HNm := hide (show ∀ k x, (if G = true then injNd f k x else x) = if G = true then injNd f k x else x from fun _ _ => rfl)
  clear hG hL hM hn hm hg ho hGh
  obtain ⟨v, p, o⟩ := f
  simp only at HPin
  have HI := hide (fun k x => show injNd ⟨v, p, o⟩ k x = if p = 0 then (if 0 ≤ x.A then ⟨stuckL x.A ⟨v, p, o⟩, stuckL x.B ⟨v, p, o⟩⟩ else x) else if v = (k : Int) + 1 then (if p = 1 then ⟨atB o, x.B⟩ else if p = 2 then ⟨x.A, atB o⟩ else x) else x from rfl)
  obtain ⟨ao, hao⟩ : ∃ ao, atB o = ao := ⟨_, rfl⟩
  have HAt := hide (fun W => ref_at o W)
  rw [hao] at HI HAt
  clear hao
  have bf := (Below.refl w.heap.size w).alloc (Nat.le_refl _) (.cells #[.int .i64 v, .int .i64 p, .bool o] 54)
  have b1 := bf.alloc bf.size (.cells #[] 111)
  have b2 := b1.alloc b1.size (.cells #[] 3)
  have q0 := Blk.new w 54 #[.int .i64 v, .int .i64 p, .bool o]
  have q1 := Blk.new (w.alloc (.cells #[.int .i64 v, .int .i64 p, .bool o] 54)) 111 #[]
  have q2 := Blk.new ((w.alloc (.cells #[.int .i64 v, .int .i64 p, .bool o] 54)).alloc (.cells #[] 111)) 3 #[]
  have hq0 := hide ((q0.alloc (.cells #[] 111)).alloc (.cells #[] 3))
  have hq1 := hide (q1.alloc (.cells #[] 3))
  have hB2 := hide b2
  go_enter Tryd.func40, Tryd.ntmps40
  go_wp2_with fail
  refine (HGd.out _ (hr.below b2 (Nat.le_refl _))).mono ?_
  rintro e w2 ⟨rfl, hb⟩
  have hq0 := hide (hq0.out.below hb hq0.out.lt)
  have hq1 := hide (hq1.out.below hb hq1.out.lt)
  have hq2 := hide (q2.below hb q2.lt)
  have hB := hide (hB2.out.trans (hb.mono hB2.out.size))
  simp only [World.size_alloc] at hq1 hq2
  clear hB2 bf b1 b2 hb q0 q1 q2 HGd
  go_wp2
  go_loopw [8, 11] (fun u i wr => ∃ k : Nat, k ≤ n ∧ i = .int .i64 k ∧ wr.ownsRow w.heap.size 111 2 u k (encN (L.take k)) ∧ Blk wr w.heap.size 54 #[.int .i64 v, .int .i64 p, .bool o] ∧ Blk wr (w.heap.size + 1 + 1) 3 #[] ∧ Below w.heap.size w wr) (fun _ i _ => n - (intOf i).toNat)
  case atStart => exact ⟨0, Nat.zero_le _, rfl, made_from hq1.out (by omega), hq0.out, hq2.out, hB.out⟩
  case round =>
    obtain ⟨k, hk, rfl, hown, hf, hrb, hb⟩ := hrel
    have hkI : (k : Int) ≤ 1000 := by omega
    clear hq0 hq1 hq2 hB
    obtain ⟨V, cV, rfl, _, _, _⟩ := RdN.of_own hown
    by_cases hlt : k < n
    · obtain ⟨ad, x, rfl, hBl, hx, hc, hc2, _, _⟩ := (hr.below hb (Nat.le_refl _)).get hlt
      have HT := hide (HX.out k x hx)
      rw [HI.out] at HT
      have HOk := hide (fun h => HG.out k x hx h)
      have HF := hide (Frm.new (f := ⟨v, p, o⟩) hown hf hrb hb x)
      have HFN := hide (fun x => Frm.new (f := ⟨v, p, o⟩) hown hf hrb hb x)
      obtain ⟨a, b⟩ := x
      simp only at hc hc2 HT HOk HF
      clear hown hf hrb hb hx
      have kx0 : (wr.alloc (.cells #[.int .i64 a, .int .i64 b] 111)).cell? ⟨wr.heap.size, 0, none⟩ = some (.int .i64 a) := HF.out.xb.cell 0
      have kx1 : (wr.alloc (.cells #[.int .i64 a, .int .i64 b] 111)).cell? ⟨wr.heap.size, 1, none⟩ = some (.int .i64 b) := HF.out.xb.cell 1
      have kf0 : (wr.alloc (.cells #[.int .i64 a, .int .i64 b] 111)).cell? ⟨w.heap.size, 0, none⟩ = some (.int .i64 v) := HF.out.fb.cell 0
      have kf1 : (wr.alloc (.cells #[.int .i64 a, .int .i64 b] 111)).cell? ⟨w.heap.size, 1, none⟩ = some (.int .i64 p) := HF.out.fb.cell 1
      have kf2 : (wr.alloc (.cells #[.int .i64 a, .int .i64 b] 111)).cell? ⟨w.heap.size, 2, none⟩ = some (.bool o) := HF.out.fb.cell 2
      have kz0 := HF.out.xb.frozen 0
      have kz1 := HF.out.xb.frozen 1
      cases G
      · have HN := hide (show L.take (k + 1) = L.take k ++ [⟨a, b⟩] by rw [HT.out, if_neg (by simp)])
        clear HT HOk HPin
        go_wp2_with (at_builtin; refine wpList_pushG rfl _ _ _ rfl Tryd.underlying49 info_n rfl (by decide) rfl (by first | rfl | simp [go_sem]) HF.out.own HF.out.bel (Nat.le_refl _) rfl (by simp [Value.oneCell']) (by unfold maxLen; omega) (by omega) ?_; intro v6 w6 hown6 hb6 hgr6)
        go_roundw
        case rel => exact ⟨k + 1, hlt, by go_num, by rw [HN.out, encN_app]; exact hown6, (HF.out.fb.alloc _).grown hgr6 (own_blk_ne HF.out.own HF.out.fb (by decide)), (HF.out.rb.alloc _).grown hgr6 (own_blk_ne HF.out.own HF.out.rb (by decide)), hb6⟩
        case measure => simp [intOf]; omega
      · have hpp := HPin.out rfl
        clear HPin
        obtain ⟨B, hB⟩ : ∃ B, (v == (k : Int) + 1) = B := ⟨_, rfl⟩
        rcases hpp with rfl | rfl | rfl
        · by_cases ha : 0 ≤ a
          · have d1 : decide (0 ≤ a) = true := by rw [decide_eq_true_iff]; exact ha
            obtain ⟨g1, g2, g3⟩ := HOk.out ha
            try simp only at g1 g2 g3
            obtain ⟨a', ha'⟩ : ∃ a', stuckL a ⟨v, 0, o⟩ = a' := ⟨_, rfl⟩
            obtain ⟨b', hb'⟩ : ∃ b', stuckL b ⟨v, 0, o⟩ = b' := ⟨_, rfl⟩
            have HN := hide (show L.take (k + 1) = L.take k ++ [⟨a', b'⟩] by rw [HT.out, if_pos rfl, if_pos rfl, if_pos ha, ha', hb'])
            have HSA := hide (HS.out a a' ha' ha (by omega))
            have HSB := hide (HS.out b b' hb' g2 (by omega))
            clear HT HOk ha ha' hb' g1 g2 g3 HS
            have HF := hide (HF.out.dr (W' := (wr.alloc (.cells #[.int .i64 a, .int .i64 b] 111)).drew) ⟨1, rfl⟩)
            go_wp2
            apply via (Frm w ⟨v, 0, o⟩ wr.heap.size ⟨a', b'⟩ (.slice V k cV) k (encN (L.take k)) (w.heap.size + 1 + 1))
            case h1 =>
              intro key
              refine wp_region_held_drew (S := fun W' => W'.cell? ⟨w.heap.size, 0, none⟩ = some (.int .i64 v) ∧ W'.cell? ⟨w.heap.size, 1, none⟩ = some (.int .i64 0) ∧ W'.cell? ⟨w.heap.size, 2, none⟩ = some (.bool o)) (by kernel_rfl) ⟨HF.out.fb.cell 0, HF.out.fb.cell 1, HF.out.fb.cell 2⟩ (fun hHeld => ?_)
              refine wpAnyH_take (i := 0) (v := ?_) rfl (by kernel_rfl) (by kernel_rfl) (by kernel_rfl) (fun _ _ _ h => h) (Or.inl ⟨by kernel_rfl, ?_⟩) (by assumption) ?_
              rotate_left
              · intro wz hSw; (try dsimp only at hSw); go_simp; (try with_reducible rfl)
              try simp only [Act.put, List.getElem_toArray, List.getElem_cons_succ, List.getElem_cons_zero, List.setIfInBounds_toArray, List.set_cons_zero, List.set_cons_succ]
              refine wpAnyH_take (i := 2) (v := ?_) rfl (by kernel_rfl) (by kernel_rfl) (by kernel_rfl) (fun _ _ _ h => h) (Or.inl ⟨by kernel_rfl, ?_⟩) (by assumption) ?_
              rotate_left
              · intro wz hSw; (try dsimp only at hSw); go_simp; (try with_reducible rfl)
              try simp only [Act.put, List.getElem_toArray, List.getElem_cons_succ, List.getElem_cons_zero, List.setIfInBounds_toArray, List.set_cons_zero, List.set_cons_succ]
              refine wpAnyH_take (i := 4) (v := ?_) rfl (by kernel_rfl) (by kernel_rfl) (by kernel_rfl) (fun _ _ _ h => h) (Or.inl ⟨by kernel_rfl, ?_⟩) (by assumption) ?_
              rotate_left
              · intro wz hSw; (try dsimp only at hSw); go_simp; (try with_reducible rfl)
              try simp only [Act.put, List.getElem_toArray, List.getElem_cons_succ, List.getElem_cons_zero, List.setIfInBounds_toArray, List.set_cons_zero, List.set_cons_succ]
              refine wpAnyH_take (i := 6) (v := ?_) rfl (by kernel_rfl) (by kernel_rfl) (by kernel_rfl) (fun _ _ _ h => h) (Or.inl ⟨by kernel_rfl, ?_⟩) (by assumption) ?_
              rotate_left
              · intro wz hSw; (try dsimp only at hSw); go_simp; (try with_reducible rfl)
              try simp only [Act.put, List.getElem_toArray, List.getElem_cons_succ, List.getElem_cons_zero, List.setIfInBounds_toArray, List.set_cons_zero, List.set_cons_succ]
              refine wpAnyH_ready (rs := [1, 5]) (by kernel_rfl) (by simp) ?_
              refine AllReadyH.cons rfl (fun K hK => ?_) (AllReadyH.cons rfl (fun K hK => ?_) AllReadyH.nil)
              · skip
                go_simp
                refine hK.out _ _ ⟨HF.out.fb.cell 0, HF.out.fb.cell 1, HF.out.fb.cell 2⟩ (fun hHeld => ?_)
                clear hK K
                try simp only [Act.put, List.getElem_toArray, List.getElem_cons_succ, List.getElem_cons_zero, List.setIfInBounds_toArray, List.set_cons_zero, List.set_cons_succ]
                refine wpAnyH_ready (rs := [3, 5]) (by kernel_rfl) (by simp) ?_
                refine AllReadyH.cons rfl (fun K hK => ?_) (AllReadyH.cons rfl (fun K hK => ?_) AllReadyH.nil)
                · skip
                  go_simp
                  go_wp2_with (go_at_call 99; (with_reducible refine (HSA.out _).mono ?_); rintro e w2 ⟨rfl, hb2⟩; have HF := hide (HF.out.step hb2); clear hb2; have kx0 : w2.cell? ⟨wr.heap.size, 0, none⟩ = some (.int .i64 a) := HF.out.xb.cell 0; have kx1 : w2.cell? ⟨wr.heap.size, 1, none⟩ = some (.int .i64 b) := HF.out.xb.cell 1; have kz0 := HF.out.xb.frozen 0; have kz1 := HF.out.xb.frozen 1)
                  refine hK.out _ _ ⟨HF.out.fb.cell 0, HF.out.fb.cell 1, HF.out.fb.cell 2⟩ (fun hHeld => ?_)
                  clear hK K
                  try simp only [Act.put, List.getElem_toArray, List.getElem_cons_succ, List.getElem_cons_zero, List.setIfInBounds_toArray, List.set_cons_zero, List.set_cons_succ]
                  refine wpAnyH_ready (rs := [5]) (by kernel_rfl) (by simp) ?_
                  refine AllReadyH.cons rfl (fun K hK => ?_) AllReadyH.nil
                  go_simp
                  refine hK.out _ _ ⟨HF.out.fb.cell 0, HF.out.fb.cell 1, HF.out.fb.cell 2⟩ (fun hHeld => ?_)
                  clear hK K
                  try simp only [Act.put, List.getElem_toArray, List.getElem_cons_succ, List.getElem_cons_zero, List.setIfInBounds_toArray, List.set_cons_zero, List.set_cons_succ]
                  refine wpAnyH_ready (rs := [7]) (by kernel_rfl) (by simp) ?_
                  refine AllReadyH.cons rfl (fun K hK => ?_) AllReadyH.nil
                  go_simp
                  go_wp2_with (go_at_call 99; (with_reducible refine (HSB.out _).mono ?_); rintro e w2 ⟨rfl, hb2⟩; have HF := hide (HF.out.step hb2); clear hb2; have kx0 : w2.cell? ⟨wr.heap.size, 0, none⟩ = some (.int .i64 a) := HF.out.xb.cell 0; have kx1 : w2.cell? ⟨wr.heap.size, 1, none⟩ = some (.int .i64 b) := HF.out.xb.cell 1; have kz0 := HF.out.xb.frozen 0; have kz1 := HF.out.xb.frozen 1)
                  refine hK.out _ _ ⟨HF.out.fb.cell 0, HF.out.fb.cell 1, HF.out.fb.cell 2⟩ (fun hHeld => ?_)
                  clear hK K
                  try simp only [Act.put, List.getElem_toArray, List.getElem_cons_succ, List.getElem_cons_zero, List.setIfInBounds_toArray, List.set_cons_zero, List.set_cons_succ]
                  refine wpAnyH_take (i := 8) (v := ?_) rfl (by kernel_rfl) (by kernel_rfl) (by kernel_rfl) (fun _ _ _ h => h) (Or.inl ⟨by kernel_rfl, ?_⟩) (by assumption) ?_
                  rotate_left
                  · intro wz hSw; (try dsimp only at hSw); go_simp; (try with_reducible rfl)
                  try simp only [Act.put, List.getElem_toArray, List.getElem_cons_succ, List.getElem_cons_zero, List.setIfInBounds_toArray, List.set_cons_zero, List.set_cons_succ]
                  refine wpAnyH_ready (rs := [9]) (by kernel_rfl) (by simp) ?_
                  refine AllReadyH.cons rfl (fun K hK => ?_) AllReadyH.nil
                  go_simp
                  refine hK.out _ _ ⟨((HF.out.setA a').setB b').fb.cell 0, ((HF.out.setA a').setB b').fb.cell 1, ((HF.out.setA a').setB b').fb.cell 2⟩ (fun hHeld => ?_)
                  clear hK K
                  try simp only [Act.put, List.getElem_toArray, List.getElem_cons_succ, List.getElem_cons_zero, List.setIfInBounds_toArray, List.set_cons_zero, List.set_cons_succ]
                  refine wpAnyH_done (by kernel_rfl) ?_ _
                  exact key _ ((HF.out.setA a').setB b')
                · skip
                  go_simp
                  refine hK.out _ _ ⟨HF.out.fb.cell 0, HF.out.fb.cell 1, HF.out.fb.cell 2⟩ (fun hHeld => ?_)
                  clear hK K
                  try simp only [Act.put, List.getElem_toArray, List.getElem_cons_succ, List.getElem_cons_zero, List.setIfInBounds_toArray, List.set_cons_zero, List.set_cons_succ]
                  refine wpAnyH_ready (rs := [3]) (by kernel_rfl) (by simp) ?_
                  refine AllReadyH.cons rfl (fun K hK => ?_) AllReadyH.nil
                  go_simp
                  go_wp2_with (go_at_call 99; (with_reducible refine (HSA.out _).mono ?_); rintro e w2 ⟨rfl, hb2⟩; have HF := hide (HF.out.step hb2); clear hb2; have kx0 : w2.cell? ⟨wr.heap.size, 0, none⟩ = some (.int .i64 a) := HF.out.xb.cell 0; have kx1 : w2.cell? ⟨wr.heap.size, 1, none⟩ = some (.int .i64 b) := HF.out.xb.cell 1; have kz0 := HF.out.xb.frozen 0; have kz1 := HF.out.xb.frozen 1)
                  refine hK.out _ _ ⟨HF.out.fb.cell 0, HF.out.fb.cell 1, HF.out.fb.cell 2⟩ (fun hHeld => ?_)
                  clear hK K
                  try simp only [Act.put, List.getElem_toArray, List.getElem_cons_succ, List.getElem_cons_zero, List.setIfInBounds_toArray, List.set_cons_zero, List.set_cons_succ]
                  refine wpAnyH_ready (rs := [7]) (by kernel_rfl) (by simp) ?_
                  refine AllReadyH.cons rfl (fun K hK => ?_) AllReadyH.nil
                  go_simp
                  go_wp2_with (go_at_call 99; (with_reducible refine (HSB.out _).mono ?_); rintro e w2 ⟨rfl, hb2⟩; have HF := hide (HF.out.step hb2); clear hb2; have kx0 : w2.cell? ⟨wr.heap.size, 0, none⟩ = some (.int .i64 a) := HF.out.xb.cell 0; have kx1 : w2.cell? ⟨wr.heap.size, 1, none⟩ = some (.int .i64 b) := HF.out.xb.cell 1; have kz0 := HF.out.xb.frozen 0; have kz1 := HF.out.xb.frozen 1)
                  refine hK.out _ _ ⟨HF.out.fb.cell 0, HF.out.fb.cell 1, HF.out.fb.cell 2⟩ (fun hHeld => ?_)
                  clear hK K
                  try simp only [Act.put, List.getElem_toArray, List.getElem_cons_succ, List.getElem_cons_zero, List.setIfInBounds_toArray, List.set_cons_zero, List.set_cons_succ]
                  refine wpAnyH_take (i := 8) (v := ?_) rfl (by kernel_rfl) (by kernel_rfl) (by kernel_rfl) (fun _ _ _ h => h) (Or.inl ⟨by kernel_rfl, ?_⟩) (by assumption) ?_
                  rotate_left
                  · intro wz hSw; (try dsimp only at hSw); go_simp; (try with_reducible rfl)
                  try simp only [Act.put, List.getElem_toArray, List.getElem_cons_succ, List.getElem_cons_zero, List.setIfInBounds_toArray, List.set_cons_zero, List.set_cons_succ]
                  refine wpAnyH_ready (rs := [9]) (by kernel_rfl) (by simp) ?_
                  refine AllReadyH.cons rfl (fun K hK => ?_) AllReadyH.nil
                  go_simp
                  refine hK.out _ _ ⟨((HF.out.setA a').setB b').fb.cell 0, ((HF.out.setA a').setB b').fb.cell 1, ((HF.out.setA a').setB b').fb.cell 2⟩ (fun hHeld => ?_)
                  clear hK K
                  try simp only [Act.put, List.getElem_toArray, List.getElem_cons_succ, List.getElem_cons_zero, List.setIfInBounds_toArray, List.set_cons_zero, List.set_cons_succ]
                  refine wpAnyH_done (by kernel_rfl) ?_ _
                  exact key _ ((HF.out.setA a').setB b')
              · skip
                go_simp
                refine hK.out _ _ ⟨HF.out.fb.cell 0, HF.out.fb.cell 1, HF.out.fb.cell 2⟩ (fun hHeld => ?_)
                clear hK K
                try simp only [Act.put, List.getElem_toArray, List.getElem_cons_succ, List.getElem_cons_zero, List.setIfInBounds_toArray, List.set_cons_zero, List.set_cons_succ]
                refine wpAnyH_ready (rs := [1]) (by kernel_rfl) (by simp) ?_
                refine AllReadyH.cons rfl (fun K hK => ?_) AllReadyH.nil
                go_simp
                refine hK.out _ _ ⟨HF.out.fb.cell 0, HF.out.fb.cell 1, HF.out.fb.cell 2⟩ (fun hHeld => ?_)
                clear hK K
                try simp only [Act.put, List.getElem_toArray, List.getElem_cons_succ, List.getElem_cons_zero, List.setIfInBounds_toArray, List.set_cons_zero, List.set_cons_succ]
                refine wpAnyH_ready (rs := [3]) (by kernel_rfl) (by simp) ?_
                refine AllReadyH.cons rfl (fun K hK => ?_) AllReadyH.nil
                go_simp
                go_wp2_with (go_at_call 99; (with_reducible refine (HSA.out _).mono ?_); rintro e w2 ⟨rfl, hb2⟩; have HF := hide (HF.out.step hb2); clear hb2; have kx0 : w2.cell? ⟨wr.heap.size, 0, none⟩ = some (.int .i64 a) := HF.out.xb.cell 0; have kx1 : w2.cell? ⟨wr.heap.size, 1, none⟩ = some (.int .i64 b) := HF.out.xb.cell 1; have kz0 := HF.out.xb.frozen 0; have kz1 := HF.out.xb.frozen 1)
                refine hK.out _ _ ⟨HF.out.fb.cell 0, HF.out.fb.cell 1, HF.out.fb.cell 2⟩ (fun hHeld => ?_)
                clear hK K
                try simp only [Act.put, List.getElem_toArray, List.getElem_cons_succ, List.getElem_cons_zero, List.setIfInBounds_toArray, List.set_cons_zero, List.set_cons_succ]
                refine wpAnyH_ready (rs := [7]) (by kernel_rfl) (by simp) ?_
                refine AllReadyH.cons rfl (fun K hK => ?_) AllReadyH.nil
                go_simp
                go_wp2_with (go_at_call 99; (with_reducible refine (HSB.out _).mono ?_); rintro e w2 ⟨rfl, hb2⟩; have HF := hide (HF.out.step hb2); clear hb2; have kx0 : w2.cell? ⟨wr.heap.size, 0, none⟩ = some (.int .i64 a) := HF.out.xb.cell 0; have kx1 : w2.cell? ⟨wr.heap.size, 1, none⟩ = some (.int .i64 b) := HF.out.xb.cell 1; have kz0 := HF.out.xb.frozen 0; have kz1 := HF.out.xb.frozen 1)
                refine hK.out _ _ ⟨HF.out.fb.cell 0, HF.out.fb.cell 1, HF.out.fb.cell 2⟩ (fun hHeld => ?_)
                clear hK K
                try simp only [Act.put, List.getElem_toArray, List.getElem_cons_succ, List.getElem_cons_zero, List.setIfInBounds_toArray, List.set_cons_zero, List.set_cons_succ]
                refine wpAnyH_take (i := 8) (v := ?_) rfl (by kernel_rfl) (by kernel_rfl) (by kernel_rfl) (fun _ _ _ h => h) (Or.inl ⟨by kernel_rfl, ?_⟩) (by assumption) ?_
                rotate_left
                · intro wz hSw; (try dsimp only at hSw); go_simp; (try with_reducible rfl)
                try simp only [Act.put, List.getElem_toArray, List.getElem_cons_succ, List.getElem_cons_zero, List.setIfInBounds_toArray, List.set_cons_zero, List.set_cons_succ]
                refine wpAnyH_ready (rs := [9]) (by kernel_rfl) (by simp) ?_
                refine AllReadyH.cons rfl (fun K hK => ?_) AllReadyH.nil
                go_simp
                refine hK.out _ _ ⟨((HF.out.setA a').setB b').fb.cell 0, ((HF.out.setA a').setB b').fb.cell 1, ((HF.out.setA a').setB b').fb.cell 2⟩ (fun hHeld => ?_)
                clear hK K
                try simp only [Act.put, List.getElem_toArray, List.getElem_cons_succ, List.getElem_cons_zero, List.setIfInBounds_toArray, List.set_cons_zero, List.set_cons_succ]
                refine wpAnyH_done (by kernel_rfl) ?_ _
                exact key _ ((HF.out.setA a').setB b')
            case h2 =>
              intro w5 HF5
              have HF5 := hide HF5
              have kg0 : w5.cell? ⟨wr.heap.size, 0, none⟩ = some (.int .i64 a') := HF5.out.xb.cell 0
              have kg1 : w5.cell? ⟨wr.heap.size, 1, none⟩ = some (.int .i64 b') := HF5.out.xb.cell 1
              have kh0 : w5.cell? ⟨w.heap.size, 0, none⟩ = some (.int .i64 v) := HF5.out.fb.cell 0
              have kh1 : w5.cell? ⟨w.heap.size, 1, none⟩ = some (.int .i64 0) := HF5.out.fb.cell 1
              clear kx0 kx1 kf0 kf1 kf2 kz0 kz1
              cases B
              all_goals
                go_wp2_with (at_builtin; refine wpList_pushG rfl _ _ _ rfl Tryd.underlying49 info_n rfl (by decide) rfl (by first | rfl | simp [go_sem]) HF5.out.own HF5.out.bel (Nat.le_refl _) rfl (by simp [Value.oneCell']) (by unfold maxLen; omega) (by omega) ?_; intro v6 w6 hown6 hb6 hgr6)
                go_roundw
                case rel => exact ⟨k + 1, hlt, by go_num, by rw [HN.out, encN_app]; exact hown6, (HF5.out.fb.alloc _).grown hgr6 (own_blk_ne HF5.out.own HF5.out.fb (by decide)), (HF5.out.rb.alloc _).grown hgr6 (own_blk_ne HF5.out.own HF5.out.rb (by decide)), hb6⟩
                case measure => simp [intOf]; omega
          · have d1 : decide (0 ≤ a) = false := by rw [decide_eq_false_iff_not]; exact ha
            have HN := hide (show L.take (k + 1) = L.take k ++ [⟨a, b⟩] by rw [HT.out, if_pos rfl, if_pos rfl, if_neg ha])
            clear HT HOk ha HS
            cases B
            all_goals
              go_wp2_with (at_builtin; refine wpList_pushG rfl _ _ _ rfl Tryd.underlying49 info_n rfl (by decide) rfl (by first | rfl | simp [go_sem]) HF.out.own HF.out.bel (Nat.le_refl _) rfl (by simp [Value.oneCell']) (by unfold maxLen; omega) (by omega) ?_; intro v6 w6 hown6 hb6 hgr6)
              go_roundw
              case rel => exact ⟨k + 1, hlt, by go_num, by rw [HN.out, encN_app]; exact hown6, (HF.out.fb.alloc _).grown hgr6 (own_blk_ne HF.out.own HF.out.fb (by decide)), (HF.out.rb.alloc _).grown hgr6 (own_blk_ne HF.out.own HF.out.rb (by decide)), hb6⟩
              case measure => simp [intOf]; omega
        · cases B
          · have HN := hide (show L.take (k + 1) = L.take k ++ [⟨a, b⟩] by rw [HT.out, if_pos rfl, if_neg (by decide), if_neg (by simpa using hB)])
            clear HT HOk HS
            go_wp2_with (at_builtin; refine wpList_pushG rfl _ _ _ rfl Tryd.underlying49 info_n rfl (by decide) rfl (by first | rfl | simp [go_sem]) HF.out.own HF.out.bel (Nat.le_refl _) rfl (by simp [Value.oneCell']) (by unfold maxLen; omega) (by omega) ?_; intro v6 w6 hown6 hb6 hgr6)
            go_roundw
            case rel => exact ⟨k + 1, hlt, by go_num, by rw [HN.out, encN_app]; exact hown6, (HF.out.fb.alloc _).grown hgr6 (own_blk_ne HF.out.own HF.out.fb (by decide)), (HF.out.rb.alloc _).grown hgr6 (own_blk_ne HF.out.own HF.out.rb (by decide)), hb6⟩
            case measure => simp [intOf]; omega
          · have HN := hide (show L.take (k + 1) = L.take k ++ [⟨ao, b⟩] by rw [HT.out, if_pos rfl, if_neg (by decide), if_pos (by simpa using hB)]; rfl)
            clear HT HOk HS
            have HF5 := hide (HFN.out ⟨ao, b⟩)
            have kg0 : (wr.alloc (.cells #[.int .i64 ao, .int .i64 b] 111)).cell? ⟨wr.heap.size, 0, none⟩ = some (.int .i64 ao) := HF5.out.xb.cell 0
            have kg1 : (wr.alloc (.cells #[.int .i64 ao, .int .i64 b] 111)).cell? ⟨wr.heap.size, 1, none⟩ = some (.int .i64 b) := HF5.out.xb.cell 1
            have kh0 : (wr.alloc (.cells #[.int .i64 ao, .int .i64 b] 111)).cell? ⟨w.heap.size, 0, none⟩ = some (.int .i64 v) := HF5.out.fb.cell 0
            have kh1 : (wr.alloc (.cells #[.int .i64 ao, .int .i64 b] 111)).cell? ⟨w.heap.size, 1, none⟩ = some (.int .i64 1) := HF5.out.fb.cell 1
            go_wp2_with fail
            refine (HAt.out _).mono ?_
            rintro e w2 ⟨rfl, rfl⟩
            go_wp2_with (at_builtin; refine wpList_pushG rfl _ _ _ rfl Tryd.underlying49 info_n rfl (by decide) rfl (by first | rfl | simp [go_sem]) HF5.out.own HF5.out.bel (Nat.le_refl _) rfl (by simp [Value.oneCell']) (by unfold maxLen; omega) (by omega) ?_; intro v6 w6 hown6 hb6 hgr6)
            go_roundw
            case rel => exact ⟨k + 1, hlt, by go_num, by rw [HN.out, encN_app]; exact hown6, (HF5.out.fb.alloc _).grown hgr6 (own_blk_ne HF5.out.own HF5.out.fb (by decide)), (HF5.out.rb.alloc _).grown hgr6 (own_blk_ne HF5.out.own HF5.out.rb (by decide)), hb6⟩
            case measure => simp [intOf]; omega
        · cases B
          · have HN := hide (show L.take (k + 1) = L.take k ++ [⟨a, b⟩] by rw [HT.out, if_pos rfl, if_neg (by decide), if_neg (by simpa using hB)])
            clear HT HOk HS
            go_wp2_with (at_builtin; refine wpList_pushG rfl _ _ _ rfl Tryd.underlying49 info_n rfl (by decide) rfl (by first | rfl | simp [go_sem]) HF.out.own HF.out.bel (Nat.le_refl _) rfl (by simp [Value.oneCell']) (by unfold maxLen; omega) (by omega) ?_; intro v6 w6 hown6 hb6 hgr6)
            go_roundw
            case rel => exact ⟨k + 1, hlt, by go_num, by rw [HN.out, encN_app]; exact hown6, (HF.out.fb.alloc _).grown hgr6 (own_blk_ne HF.out.own HF.out.fb (by decide)), (HF.out.rb.alloc _).grown hgr6 (own_blk_ne HF.out.own HF.out.rb (by decide)), hb6⟩
            case measure => simp [intOf]; omega
          · have HN := hide (show L.take (k + 1) = L.take k ++ [⟨a, ao⟩] by rw [HT.out, if_pos rfl, if_neg (by decide), if_pos (by simpa using hB)]; rfl)
            clear HT HOk HS
            have HF5 := hide (HFN.out ⟨a, ao⟩)
            have kg0 : (wr.alloc (.cells #[.int .i64 a, .int .i64 ao] 111)).cell? ⟨wr.heap.size, 0, none⟩ = some (.int .i64 a) := HF5.out.xb.cell 0
            have kg1 : (wr.alloc (.cells #[.int .i64 a, .int .i64 ao] 111)).cell? ⟨wr.heap.size, 1, none⟩ = some (.int .i64 ao) := HF5.out.xb.cell 1
            have kh0 : (wr.alloc (.cells #[.int .i64 a, .int .i64 ao] 111)).cell? ⟨w.heap.size, 0, none⟩ = some (.int .i64 v) := HF5.out.fb.cell 0
            have kh1 : (wr.alloc (.cells #[.int .i64 a, .int .i64 ao] 111)).cell? ⟨w.heap.size, 1, none⟩ = some (.int .i64 2) := HF5.out.fb.cell 1
            go_wp2_with fail
            refine (HAt.out _).mono ?_
            rintro e w2 ⟨rfl, rfl⟩
            go_wp2_with (at_builtin; refine wpList_pushG rfl _ _ _ rfl Tryd.underlying49 info_n rfl (by decide) rfl (by first | rfl | simp [go_sem]) HF5.out.own HF5.out.bel (Nat.le_refl _) rfl (by simp [Value.oneCell']) (by unfold maxLen; omega) (by omega) ?_; intro v6 w6 hown6 hb6 hgr6)
            go_roundw
            case rel => exact ⟨k + 1, hlt, by go_num, by rw [HN.out, encN_app]; exact hown6, (HF5.out.fb.alloc _).grown hgr6 (own_blk_ne HF5.out.own HF5.out.fb (by decide)), (HF5.out.rb.alloc _).grown hgr6 (own_blk_ne HF5.out.own HF5.out.rb (by decide)), hb6⟩
            case measure => simp [intOf]; omega
    · have hkn : k = n := by omega
      subst hkn
      rw [List.take_of_length_le (by rw [hLl.out]; exact Nat.le_refl _)] at hown
      clear HX HI HAt HG hlt
      obtain ⟨i0, hi0, hz0, hs1, hs2⟩ := info_parts (P := Tryd.prog) info_i3
      go_wp2
      go_loopw [9, 13] (fun u i wr => ∃ q : Nat, q ≤ m ∧ i = .int .i64 q ∧ wr.ownsRow w.heap.size 3 1 u q (ivs (M.take q)) ∧ wr.ownsRow w.heap.size 111 2 (.slice V k cV) k (encN L) ∧ Blk wr w.heap.size 54 #[.int .i64 v, .int .i64 p, .bool o] ∧ Below w.heap.size w wr) (fun _ i _ => m - (intOf i).toNat)
      case atStart => exact ⟨0, Nat.zero_le _, rfl, made_from hrb (by omega), hown, hf, hb⟩
      case round =>
        clear hown hf hrb hb
        obtain ⟨q, hq, rfl, hown2, hown, hf, hb⟩ := hrel
        obtain ⟨U, cU, rfl, _, _, _⟩ := Rd.of_own hown2
        have hqI : (q : Int) ≤ 1000 := by omega
        by_cases hltq : q < m
        · obtain ⟨ad2, y, rfl, hBl2, hy, hcy⟩ := (hro.below hb (Nat.le_refl _)).get hltq
          have HT := hide (HY.out q y hy)
          obtain ⟨g1, g2⟩ := HO.out y (List.mem_of_getElem? hy)
          have g2 : y ≤ 3000 := by have := hl.out; omega
          have kf0 : wr.cell? ⟨w.heap.size, 0, none⟩ = some (.int .i64 v) := hf.cell 0
          have kf1 : wr.cell? ⟨w.heap.size, 1, none⟩ = some (.int .i64 p) := hf.cell 1
          have kf2 : wr.cell? ⟨w.heap.size, 2, none⟩ = some (.bool o) := hf.cell 2
          clear hy HO
          cases G
          · have HN := hide (show M.take (q + 1) = M.take q ++ [y] by rw [HT.out, if_neg (by simp)])
            clear HT HPin HS g1 g2
            go_wp2_with (at_builtin; refine wpList_pushG rfl _ _ _ rfl Tryd.underlying22 info_i3 rfl (by decide) rfl (by first | rfl | simp [go_sem]) hown2 hb (Nat.le_refl _) rfl (by simp [Value.oneCell']) (by unfold maxLen; omega) (by omega) ?_; intro v6 w6 hown6 hb6 hgr6)
            go_roundw
            case rel => exact ⟨q + 1, hltq, by go_num, by rw [HN.out, ivs_app]; exact hown6, (hown.alloc _).kept hgr6 (own_own_ne hown hown2 (by decide)), (hf.alloc _).grown hgr6 (own_blk_ne hown2 hf (by decide)), hb6⟩
            case measure => simp [intOf]; omega
          · have hpp := HPin.out rfl
            clear HPin
            rcases hpp with rfl | rfl | rfl
            · obtain ⟨y', hy'⟩ : ∃ y', stuckL y ⟨v, 0, o⟩ = y' := ⟨_, rfl⟩
              have HN := hide (show M.take (q + 1) = M.take q ++ [y'] by rw [HT.out, if_pos ⟨rfl, rfl⟩, hy'])
              have HSY := hide (HS.out y y' hy' g1 g2)
              clear HT HS g1 g2 hy'
              have hown := hide hown
              have hown2 := hide hown2
              have hf := hide hf
              have hb := hide hb
              have h63 := hide (show q + 1 ≤ maxLen by unfold maxLen; omega)
              have hby := hide (show (q + 1) * 8 ≤ 140737488355328 by omega)
              go_wp2
              go_region_law (first
                | (refine step_append_lies _ rfl (.tmp 99) (.tmp 106) 22 rfl w.heap.size 3 i0 (.int .i64 0) 1 8 Tryd.underlying22 hi0 hz0 hs1 hs2 rfl (by decide) (.slice U q cU) q (ivs (M.take q)) (by simp [Act.eval, Act.put]) (hown2'.out.alloc _) ⟨w2.heap.size, 0, none⟩ 1 1 [.int .i64 y'] (by simp [Act.eval, Act.put]) rfl (news1 _ _ _) (by simp [Value.oneCell']) (by decide) h63.out hby.out (by have := hb'.out.size; simp; omega) _ rfl ?_; intro g6 cap6 w6 hown6 hgr6 hat6 hlt6)
                | (go_simp; go_at_call 99; refine (HSY.out _).mono ?_; rintro e w2 ⟨rfl, hb2⟩; have hkeep := hide ((Dr.below (a := wr) (b := wr.drew) ⟨1, rfl⟩ wr.heap.size).trans hb2); have hown2' := hide (own_keep hown2.out hkeep.out); have hown' := hide (own_keep hown.out hkeep.out); have hf' := hide (hf.out.below hkeep.out hf.out.lt); have hb' := hide (hb.out.trans (hkeep.out.mono hb.out.size)); clear hb2))
              all_goals
                have hbN := hide ((hb'.out.alloc hb'.out.size (.cells #[.int .i64 y'] 3)).grown hgr6 (by have := hb'.out.size; simp; omega) (fun i hi => (hown2'.out.lt i hi).1))
                go_wp2
                go_roundw
                case rel => exact ⟨q + 1, hltq, by go_num, by rw [HN.out, ivs_app]; exact hown6, (hown'.out.alloc _).kept hgr6 (own_own_ne hown'.out hown2'.out (by decide)), (hf'.out.alloc _).grown hgr6 (own_blk_ne hown2'.out hf'.out (by decide)), hbN.out⟩
                case measure => simp [intOf]; omega
            · have HN := hide (show M.take (q + 1) = M.take q ++ [y] by rw [HT.out, if_neg (by simp)])
              clear HT HS g1 g2
              go_wp2_with (at_builtin; refine wpList_pushG rfl _ _ _ rfl Tryd.underlying22 info_i3 rfl (by decide) rfl (by first | rfl | simp [go_sem]) hown2 hb (Nat.le_refl _) rfl (by simp [Value.oneCell']) (by unfold maxLen; omega) (by omega) ?_; intro v6 w6 hown6 hb6 hgr6)
              go_roundw
              case rel => exact ⟨q + 1, hltq, by go_num, by rw [HN.out, ivs_app]; exact hown6, (hown.alloc _).kept hgr6 (own_own_ne hown hown2 (by decide)), (hf.alloc _).grown hgr6 (own_blk_ne hown2 hf (by decide)), hb6⟩
              case measure => simp [intOf]; omega
            · have HN := hide (show M.take (q + 1) = M.take q ++ [y] by rw [HT.out, if_neg (by simp)])
              clear HT HS g1 g2
              go_wp2_with (at_builtin; refine wpList_pushG rfl _ _ _ rfl Tryd.underlying22 info_i3 rfl (by decide) rfl (by first | rfl | simp [go_sem]) hown2 hb (Nat.le_refl _) rfl (by simp [Value.oneCell']) (by unfold maxLen; omega) (by omega) ?_; intro v6 w6 hown6 hb6 hgr6)
              go_roundw
              case rel => exact ⟨q + 1, hltq, by go_num, by rw [HN.out, ivs_app]; exact hown6, (hown.alloc _).kept hgr6 (own_own_ne hown hown2 (by decide)), (hf.alloc _).grown hgr6 (own_blk_ne hown2 hf (by decide)), hb6⟩
              case measure => simp [intOf]; omega
        · have hqm : q = m := by omega
          subst hqm
          rw [List.take_of_length_le (by rw [hMl.out]; exact Nat.le_refl _)] at hown2
          have HEE := hide (HE.out _ _ _ hown hown2 hb)
          go_wp2
          go_ret2
          exact HEE.out
end Go.Proofs.YtcjoohaagdihlaaDoor.Fault
