/- The law's few and of on steps. -/
import Derived.Test.YtcjoohaagdihlaaLearn11
import Derived.Test.YtcjoohaagdihlaaMem3
namespace Go.Proofs.Ytcjoohaagdihlaa.Learn
open Go.RowKit Go.Lt Go.Proofs.Ytcjoohaagdihlaa.Lit Go.Proofs.Ytcjoohaagdihlaa.Sorted Go.Instr
open Go.Proofs.Ytcjoohaagdihlaa.Kept (Sl Sl.val addr_off)
set_option linter.unusedVariables false
set_option linter.unusedSimpArgs false

/-- steps are few, and clauses short -/
def fewB (l : List St) (bad : List Int) : Bool := (l.all fun s => decide (s.why.length ≤ 30)) && (decide (l.length ≤ 60) && decide (bad.length ≤ 30))
theorem few_iff {l : List St} {bad : List Int} : fewB l bad = true ↔ (∀ s ∈ l, s.why.length ≤ 30) ∧ l.length ≤ 60 ∧ bad.length ≤ 30 := by
  unfold fewB; simp
theorem few_no {l : List St} {bad : List Int} {s : St} (hs : s ∈ l) (h : 30 < s.why.length) : fewB l bad = false := by
  cases hf : fewB l bad with
  | false => rfl
  | true => have := (few_iff.1 hf).1 s hs; omega
theorem few_end {l : List St} {bad : List Int} (h : ∀ s ∈ l, s.why.length ≤ 30) : fewB l bad = (decide (l.length ≤ 60) && decide (bad.length ≤ 30)) := by
  have : (l.all fun s => decide (s.why.length ≤ 30)) = true := by rw [List.all_eq_true]; exact fun s hs => by simpa using h s hs
  unfold fewB
  rw [this, Bool.true_and]
set_option maxRecDepth 8000 in
theorem law_few (A : Option Addr) (n c : Nat) (l : List St) (B : Option Addr) (m cb : Nat) (bad : List Int) (w : World) (hn : n ≤ maxLen) (hr : RdT w A n l) (hm : m ≤ maxLen) (hrb : Rd w B m (ivs bad)) :
    Calls Try.prog 25 #[.slice A n c, .slice B m cb] w fun e w' => e = .returned (.bool (fewB l bad)) ∧ w = w' := by
  have hll := hide hr.1
  have hbl := hide hrb.len
  replace hn := hide (show (n : Int) ≤ 9223372036854775807 by unfold maxLen at hn; omega)
  clear hm
  go_enter Try.func25, Try.ntmps25
  go_wp2
  go_loopw [5] (fun i wr => ∃ k : Nat, k ≤ n ∧ i = .int .i64 k ∧ Hid (∀ j, j < k → (stAt l j).why.length ≤ 30) ∧ w = wr) (fun i _ => n - (intOf i).toNat)
  case atStart => exact ⟨0, Nat.zero_le _, rfl, hide (fun j hj => absurd hj (Nat.not_lt_zero _)), rfl⟩
  case round =>
    obtain ⟨k, hk, rfl, hj, rfl⟩ := hrel
    by_cases hlt : k < n
    · have hltI : (k : Int) < n := by omega
      have hkw : IntKind.i64.wrap ((k : Int) + 1) = ((k + 1 : Nat) : Int) := by rw [IntWalk.i64_in _ (by have := hn.out; omega)]; omega
      obtain ⟨ad, s, z, rfl, hB, hs, c0, c1, c3, hw⟩ := hr.get hlt
      have hsm := List.mem_of_getElem? hs
      have hst := hide (stAt_is hs)
      have hwl := Rd.len hw
      obtain ⟨lt, lv, wy⟩ := s
      obtain ⟨zA, zn, zc⟩ := z
      simp only [Sl.val] at c0 c1 c3 hwl
      by_cases h30 : (30 : Int) < zn
      · have d30 : decide ((30 : Int) < zn) = true := decide_eq_true h30
        have hF := hide (few_no (bad := bad) hsm (show 30 < wy.length by omega))
        clear hs hw hsm hj
        go_wp2
        go_ret
        exact ⟨by rw [hF.out]; rfl, rfl⟩
      · have d30 : decide ((30 : Int) < zn) = false := decide_eq_false h30
        have hjN := hide (show ∀ j, j < k + 1 → (stAt l j).why.length ≤ 30 from fun j hj2 => by
          by_cases h : j = k
          · subst h; rw [hst.out]; show wy.length ≤ 30; omega
          · exact hj.out j (by omega))
        clear hs hw hsm hj
        go_wp2
        go_roundw
        case rel => exact ⟨k + 1, hlt, by go_num, hjN, trivial⟩
        case measure => simp [intOf]; omega
    · have hkn : n = k := by omega
      subst hkn
      have hF := hide (few_end (bad := bad) (show ∀ s ∈ l, s.why.length ≤ 30 from fun s hs => by
        obtain ⟨j, hj2, e⟩ := List.getElem_of_mem hs
        have := hj.out j (by rw [← hll.out]; exact hj2)
        rwa [stAt_is (by rw [List.getElem?_eq_getElem hj2, e])] at this))
      rw [hll.out, hbl.out] at hF
      obtain ⟨b1, hb1⟩ : ∃ b1, decide (n ≤ 60) = b1 := ⟨_, rfl⟩
      obtain ⟨b2, hb2⟩ : ∃ b2, decide (m ≤ 30) = b2 := ⟨_, rfl⟩
      have e1 : decide ((n : Int) ≤ 60) = b1 := by rw [← hb1]; exact decide_eq_decide.2 (by omega)
      have e2 : decide ((m : Int) ≤ 30) = b2 := by rw [← hb2]; exact decide_eq_decide.2 (by omega)
      rw [hb1, hb2] at hF
      replace hb1 := hide hb1
      replace hb2 := hide hb2
      clear hj
      cases b1 with
      | false =>
        go_wp2
        go_ret
        exact ⟨by rw [hF.out]; rfl, rfl⟩
      | true =>
        go_wp2
        go_ret
        exact ⟨by rw [hF.out]; rfl, rfl⟩

/-- cells of steps: each with its slice -/
def encT (y : St × Sl) : List Value := [.int .i64 y.1.lit, .int .i64 y.1.lev, y.2.val]
theorem encT_len (ys : List (St × Sl)) : (ys.flatMap encT).length = ys.length * 3 := flat_len encT 3 (fun _ => rfl) ys
theorem encT_get (ys : List (St × Sl)) (k : Nat) (y : St × Sl) (h : ys[k]? = some y) :
    (ys.flatMap encT)[k * 3]? = some (.int .i64 y.1.lit) ∧ (ys.flatMap encT)[k * 3 + 1]? = some (.int .i64 y.1.lev) ∧ (ys.flatMap encT)[k * 3 + 2]? = some y.2.val := by
  refine ⟨?_, ?_, ?_⟩
  · rw [flat_get encT 3 (fun _ => rfl) (by omega), show k * 3 / 3 = k by omega, show k * 3 % 3 = 0 by omega, h]; rfl
  · rw [flat_get encT 3 (fun _ => rfl) (by omega), show (k * 3 + 1) / 3 = k by omega, show (k * 3 + 1) % 3 = 1 by omega, h]; rfl
  · rw [flat_get encT 3 (fun _ => rfl) (by omega), show (k * 3 + 2) / 3 = k by omega, show (k * 3 + 2) % 3 = 2 by omega, h]; rfl
theorem encT_app (ys : List (St × Sl)) (y : St × Sl) : (ys ++ [y]).flatMap encT = ys.flatMap encT ++ [.int .i64 y.1.lit, .int .i64 y.1.lev, y.2.val] := by rw [List.flatMap_append]; simp [encT]
theorem RdT.of_own {w : World} {base n : Nat} {e : TypeId} {v : Value} {ys : List (St × Sl)} (h : w.ownsRow base e 3 v n (ys.flatMap encT)) (hy : ∀ y ∈ ys, Rd w y.2.A y.2.n (ivs y.1.why)) : ∃ A c, v = .slice A n c ∧ n ≤ c ∧ c ≤ maxLen ∧ RdT w A n (ys.map (·.1)) := by
  have hl : ys.length = n := by have := h.1; rw [encT_len] at this; omega
  obtain ⟨_, h2⟩ := h
  rcases h2 with ⟨rfl, rfl⟩ | ⟨g, cap, cur, rfl, hbg, hg, hnc, hcm, hcs, htake⟩
  · exact ⟨none, 0, rfl, Nat.le_refl _, Nat.zero_le _, by rw [List.length_map]; exact hl, fun k hk => absurd hk (Nat.not_lt_zero _)⟩
  · refine ⟨some ⟨g, 0, none⟩, cap, rfl, hnc, hcm, by rw [List.length_map]; exact hl, fun k hk => ?_⟩
    have hx : ys[k]? = some (ys[k]'(by omega)) := List.getElem?_eq_getElem _
    have hcell := World.ownsRow.cells (w := w) (v := .slice (some ⟨g, 0, none⟩) n cap) ⟨by rw [encT_len, hl], .inr ⟨g, cap, cur, rfl, hbg, hg, hnc, hcm, hcs, htake⟩⟩ rfl
    obtain ⟨h1, h2, h3⟩ := encT_get ys k _ hx
    exact ⟨_, (ys[k]'(by omega)).1, (ys[k]'(by omega)).2, rfl, (Array.getElem?_eq_some_iff.1 hg).1, by rw [List.getElem?_map, hx]; rfl, hcell _ _ h1, hcell _ _ h2, hcell _ _ h3, hy _ (List.getElem_mem _)⟩
theorem own_other {w : World} {b1 s1 n1 b2 s2 n2 : Nat} {e1 e2 : TypeId} {v1 v2 : Value} {xs1 xs2 : List Value} (h : w.ownsRow b1 e1 s1 v1 n1 xs1) (k : w.ownsRow b2 e2 s2 v2 n2 xs2) (hne : e1 ≠ e2) : v1.ownBlock = none ∨ v1.ownBlock ≠ v2.ownBlock := by
  rcases h.2 with ⟨rfl, _⟩ | ⟨g, cap, cur, rfl, _, hg, _⟩
  · left; simp [Value.ownBlock]
  · right
    intro e
    exact own_blk_ne k (show Blk w g e1 cur from hg) (fun e => hne e.symm) (by simpa [Value.ownBlock] using e)
theorem lit_cells {w : World} {g : Nat} {t : TypeId} {cs : Array Value} (h : Blk w g t cs) : ∀ j u, cs.toList[j]? = some u → w.cell? ((⟨g, 0, none⟩ : Addr).add j) = some u := fun j u hu => by
  have : (⟨g, 0, none⟩ : Addr).add j = ⟨g, j, none⟩ := by unfold Addr.add; split <;> simp_all
  rw [this, h.cell j]; simpa using hu
theorem one_T (a b : Int) (s : Sl) : ∀ u ∈ [Value.int .i64 a, .int .i64 b, s.val], u.oneCell' = true := by
  intro u hu
  simp only [List.mem_cons, List.not_mem_nil, or_false] at hu
  rcases hu with rfl | rfl | rfl <;> rfl
theorem run_buildT (p q : Int) (A : Option Addr) (n c : Nat) (w : World) : (Instr.build 106 #[(0, .int .i64 p), (1, .int .i64 q), (2, .slice A n c)]).run Try.prog w = .ok (.agg #[.int .i64 p, .int .i64 q, .slice A n c]) w := by go_simp
theorem run_litT (p q : Int) (A : Option Addr) (n c : Nat) (w : World) : (Instr.buildSlice 44 1 #[(0, .agg #[.int .i64 p, .int .i64 q, .slice A n c])]).run Try.prog w = .ok (.slice (some ⟨w.heap.size, 0, none⟩) 1 1) (w.alloc (.cells #[.int .i64 p, .int .i64 q, .slice A n c] 106)) := by go_simp
theorem oper_buildT {o : Oper} {a : Act} {w : World} {K : Act → World → Prop} {Q : Exit → Act → World → Prop} (x y z : Operand) (ho : o.op = .build 106 #[(0, x), (1, y), (2, z)]) (p q : Int) (A : Option Addr) (n c : Nat) (hx : a.eval x = .int .i64 p) (hy : a.eval y = .int .i64 q) (hz : a.eval z = .slice A n c)
    (h : K (a.put o.dst (.agg #[.int .i64 p, .int .i64 q, .slice A n c])) w) : Oper.wp Try.prog o a w K Q := by
  unfold Oper.wp execOp
  simp only [ho, Sem.run_bind, Sem.run_pure, Result.andThen_ok, List.map_toArray, List.map_cons, List.map_nil, hx, hy, hz, run_buildT]
  exact h
theorem oper_litT {o : Oper} {a : Act} {w : World} {K : Act → World → Prop} {Q : Exit → Act → World → Prop} (x : Operand) (ho : o.op = .buildSlice 44 1 #[(0, x)]) (p q : Int) (A : Option Addr) (n c : Nat) (hx : a.eval x = .agg #[.int .i64 p, .int .i64 q, .slice A n c])
    (h : K (a.put o.dst (.slice (some ⟨w.heap.size, 0, none⟩) 1 1)) (w.alloc (.cells #[.int .i64 p, .int .i64 q, .slice A n c] 106))) : Oper.wp Try.prog o a w K Q := by
  unfold Oper.wp execOp
  simp only [ho, Sem.run_bind, Sem.run_pure, Result.andThen_ok, List.map_toArray, List.map_cons, List.map_nil, hx, run_litT]
  exact h
theorem sl_val {s t : Sl} (h : s.val = t.val) : s = t := by
  obtain ⟨a, b, c⟩ := s
  obtain ⟨a2, b2, c2⟩ := t
  simp only [Sl.val] at h
  injection h with h1 h2 h3
  subst h1 h2 h3
  rfl
theorem info_T : (Try.prog.info? 106).map (fun i => (i.zero, i.size, i.bytes)) = some (some (.agg #[.int .i64 0, .int .i64 0, .slice none 0 0]), 3, 40) := by kernel_rfl
abbrev WhysIn (base : Nat) (W : World) (ys : List (St × Sl)) : Prop := ∀ y ∈ ys, W.ownsRow base 3 1 y.2.val y.2.n (ivs y.1.why)
theorem WhysIn.keep {base : Nat} {W W' : World} {ys : List (St × Sl)} (h : WhysIn base W ys) (hb : Below W.heap.size W W') : WhysIn base W' ys := fun y hy => own_keep (h y hy) hb
set_option maxRecDepth 8000 in
set_option maxHeartbeats 2000000 in
theorem law_of (A : Option Addr) (n c : Nat) (l : List St) (w : World) (hn : n ≤ 60) (hr : RdT w A n l) (hw : ∀ s ∈ l, s.why.length ≤ 30) :
    Calls Try.prog 28 #[.slice A n c] w fun e w' => ∃ A' c', e = .returned (.slice A' n c') ∧ RdT w' A' n l ∧ Below w.heap.size w w' := by
  have hnI : (n : Int) ≤ 60 := by omega
  have hll := hide hr.1
  replace hw := hide hw
  go_enter Try.func28, Try.ntmps28
  go_wp2
  have hb0 := hide ((Below.refl w.heap.size w).alloc (Nat.le_refl _) (.cells #[] 106))
  have hown0 := World.ownsRow_lit (base := w.heap.size) (e := 106) (size := 3) w #[] 0 (Nat.le_refl _) (by unfold maxLen; omega) rfl
  go_loopw [3, 4] (fun v i wr => ∃ (k : Nat) (ys : List (St × Sl)), k ≤ n ∧ i = .int .i64 k ∧ Hid (ys.map (·.1) = l.take k) ∧ wr.ownsRow w.heap.size 106 3 v k (ys.flatMap encT) ∧ Hid (WhysIn w.heap.size wr ys) ∧ Hid (Below w.heap.size w wr)) (fun _ i _ => n - (intOf i).toNat)
  case atStart => exact ⟨0, [], Nat.zero_le _, rfl, hide rfl, hown0, hide (fun y hy => absurd hy List.not_mem_nil), hb0⟩
  case round =>
    obtain ⟨k, ys, hk, rfl, hys, hown, hwi, hb⟩ := hrel
    clear hown0 hb0
    have hkI : (k : Int) ≤ 60 := by omega
    by_cases hlt : k < n
    · have hltI : (k : Int) < n := by omega
      obtain ⟨ad, s, z, rfl, hB, hs, c0, c1, c3, hwr⟩ := hr.get hlt
      have hwl := hw.out s (List.mem_of_getElem? hs)
      have hzn := Rd.len hwr
      have hnx := hide (show ∀ z : Sl, (ys ++ [(s, z)]).map (·.1) = l.take (k + 1) by intro z; rw [List.map_append, hys.out, List.take_add_one, hs]; rfl)
      obtain ⟨lt, lv, wy⟩ := s
      obtain ⟨zA, zn, zc⟩ := z
      simp only [Sl.val] at c0 c1 c3 hwl hzn hwr
      have hzn2 : zn ≤ 30 := by omega
      obtain ⟨v, hv⟩ : ∃ v, v = u3 := ⟨_, rfl⟩
      subst hv
      have hlow := hide hown.lt
      have hltA : (ad.add (k * 3)).block < w.heap.size := by rw [add_block]; exact hB
      replace hown := hide hown
      have hws := hb.out.size
      clear hs hys
      go_wp2
      have hbd := hide (hb.out.trans ((Dr.refl wr).drew.below _))
      have hsd : wr.heap.size ≤ wr.drew.heap.size := ((Dr.refl wr).drew.below 0).size
      refine wp_region_slots [12, 13, 14, 15, 16, 17, 18, 19, 20, 21, 22, 23, 24, 25, 26, 27, 28, 29, 30, 31, 32, 3] (fun D g wz => g 0 = .slice (some ad) n c ∧ g 4 = .int .i64 k ∧ Below w.heap.size w wz ∧ wr.heap.size ≤ wz.heap.size ∧ (D 17 → D 11) ∧ (D 18 → D 17) ∧ (D 19 → D 17) ∧ (D 20 → D 0) ∧ (D 20 → D 19) ∧ (D 21 → D 20) ∧ WhysIn w.heap.size wz ys ∧ (¬ D 20 → wz.ownsRow w.heap.size 106 3 v k (ys.flatMap encT)) ∧ (¬ D 21 → g 3 = v) ∧ (D 0 → g 12 = v) ∧ (D 1 → g 13 = .slice (some ad) n c) ∧ (D 2 → g 14 = .int .i64 k) ∧ (D 3 → g 15 = .pointer (some (ad.add (k * 3)))) ∧ (D 4 → g 16 = .pointer (some (ad.add (k * 3)))) ∧ (D 5 → g 17 = .int .i64 lt) ∧ (D 6 → g 18 = .slice (some ad) n c) ∧ (D 7 → g 19 = .int .i64 k) ∧ (D 8 → g 20 = .pointer (some (ad.add (k * 3)))) ∧ (D 9 → g 21 = .pointer (some ⟨(ad.add (k * 3)).block, (ad.add (k * 3)).off + 1, none⟩)) ∧ (D 10 → g 22 = .int .i64 lv) ∧ (D 11 → ∃ gb, g 23 = .slice (some ⟨gb, 0, none⟩) 0 0 ∧ w.heap.size ≤ gb ∧ Blk wz gb 3 #[]) ∧ (D 12 → g 24 = .slice (some ad) n c) ∧ (D 13 → g 25 = .int .i64 k) ∧ (D 14 → g 26 = .pointer (some (ad.add (k * 3)))) ∧ (D 15 → g 27 = .pointer (some ⟨(ad.add (k * 3)).block, (ad.add (k * 3)).off + 2, none⟩)) ∧ (D 16 → g 28 = .slice zA zn zc) ∧ (D 17 → ∃ s : Sl, g 29 = s.val ∧ s.n = zn ∧ wz.ownsRow w.heap.size 3 1 s.val s.n (ivs wy)) ∧ (D 18 → ∃ s : Sl, g 29 = s.val ∧ g 30 = .agg #[.int .i64 lt, .int .i64 lv, s.val]) ∧ (D 19 → ∃ (s : Sl) (gb : Nat), g 29 = s.val ∧ g 31 = .slice (some ⟨gb, 0, none⟩) 1 1 ∧ wr.heap.size ≤ gb ∧ Blk wz gb 106 #[.int .i64 lt, .int .i64 lv, s.val]) ∧ (D 20 → ∃ s : Sl, g 29 = s.val ∧ wz.ownsRow w.heap.size 106 3 (g 32) (k + 1) ((ys ++ [((⟨lt, lv, wy⟩ : St), s)]).flatMap encT)) ∧ (D 21 → g 3 = g 32)) (by kernel_rfl) (by kernel_rfl) 34 rfl (by kernel_rfl) ?h0 ?hstep ?hdone
      case h0 => exact ⟨rfl, rfl, hbd.out, hsd, nt0, nt0, nt0, nt0, nt0, nt0, hwi.out.keep (Dr.below (Dr.refl wr).drew _), (fun _ => own_keep hown.out (Dr.below (Dr.refl wr).drew _)), (fun _ => rfl), nt0, nt0, nt0, nt0, nt0, nt0, nt0, nt0, nt0, nt0, nt0, nt0, nt0, nt0, nt0, nt0, nt0, nt0, nt0, nt0, nt0, nt0⟩
      case hstep =>
        intro D g wz i hi' hn hd' hI2
        obtain ⟨r0, r4, hbz, hsz, hc1, hc2, hc3, hc6, hc4, hc5, hwz, g20, n3, f0, f1, f2, f3, f4, f5, f6, f7, f8, f9, f10, f11, f12, f13, f14, f15, f16, f17, f18, f19, f20, f21⟩ := hI2
        have hi' : i < 22 := hi'
        rcases (show i = 0 ∨ i = 1 ∨ i = 2 ∨ i = 3 ∨ i = 4 ∨ i = 5 ∨ i = 6 ∨ i = 7 ∨ i = 8 ∨ i = 9 ∨ i = 10 ∨ i = 11 ∨ i = 12 ∨ i = 13 ∨ i = 14 ∨ i = 15 ∨ i = 16 ∨ i = 17 ∨ i = 18 ∨ i = 19 ∨ i = 20 ∨ i = 21 by omega) with rfl | rfl | rfl | rfl | rfl | rfl | rfl | rfl | rfl | rfl | rfl | rfl | rfl | rfl | rfl | rfl | rfl | rfl | rfl | rfl | rfl | rfl
        · -- 0
          refine slot_step rfl rfl (fun az hs K hK => ?_)
          have hK : Shut _ := hK
          have r3 := n3 (fun e => hn (hc6 (hc5 e)))
          have e3 := hs.get 3
          rw [r3] at e3
          go_simp
          exact hK.out _ _ ⟨r0, r4, hbz, hsz, (fun h => h.elim (fun e => absurd e (by decide)) (fun h => Or.inr (hc1 h))), (fun h => h.elim (fun e => absurd e (by decide)) (fun h => Or.inr (hc2 h))), (fun h => h.elim (fun e => absurd e (by decide)) (fun h => Or.inr (hc3 h))), (fun h => h.elim (fun e => absurd e (by decide)) (fun h => Or.inr (hc6 h))), (fun h => h.elim (fun e => absurd e (by decide)) (fun h => Or.inr (hc4 h))), (fun h => h.elim (fun e => absurd e (by decide)) (fun h => Or.inr (hc5 h))), hwz, (fun h => g20 (fun e => h (Or.inr e))), (fun h => n3 (fun e => h (Or.inr e))), fun _ => rfl, kp f1, kp f2, kp f3, kp f4, kp f5, kp f6, kp f7, kp f8, kp f9, kp f10, kp f11, kp f12, kp f13, kp f14, kp f15, kp f16, kp f17, kp f18, kp f19, kp f20, kp f21⟩
        · -- 1
          refine slot_step rfl rfl (fun az hs K hK => ?_)
          have hK : Shut _ := hK
          have e0 := hs.get 0
          rw [r0] at e0
          go_simp
          exact hK.out _ _ ⟨r0, r4, hbz, hsz, (fun h => h.elim (fun e => absurd e (by decide)) (fun h => Or.inr (hc1 h))), (fun h => h.elim (fun e => absurd e (by decide)) (fun h => Or.inr (hc2 h))), (fun h => h.elim (fun e => absurd e (by decide)) (fun h => Or.inr (hc3 h))), (fun h => h.elim (fun e => absurd e (by decide)) (fun h => Or.inr (hc6 h))), (fun h => h.elim (fun e => absurd e (by decide)) (fun h => Or.inr (hc4 h))), (fun h => h.elim (fun e => absurd e (by decide)) (fun h => Or.inr (hc5 h))), hwz, (fun h => g20 (fun e => h (Or.inr e))), (fun h => n3 (fun e => h (Or.inr e))), kp f0, fun _ => rfl, kp f2, kp f3, kp f4, kp f5, kp f6, kp f7, kp f8, kp f9, kp f10, kp f11, kp f12, kp f13, kp f14, kp f15, kp f16, kp f17, kp f18, kp f19, kp f20, kp f21⟩
        · -- 2
          refine slot_step rfl rfl (fun az hs K hK => ?_)
          have hK : Shut _ := hK
          have e4 := hs.get 4
          rw [r4] at e4
          go_simp
          exact hK.out _ _ ⟨r0, r4, hbz, hsz, (fun h => h.elim (fun e => absurd e (by decide)) (fun h => Or.inr (hc1 h))), (fun h => h.elim (fun e => absurd e (by decide)) (fun h => Or.inr (hc2 h))), (fun h => h.elim (fun e => absurd e (by decide)) (fun h => Or.inr (hc3 h))), (fun h => h.elim (fun e => absurd e (by decide)) (fun h => Or.inr (hc6 h))), (fun h => h.elim (fun e => absurd e (by decide)) (fun h => Or.inr (hc4 h))), (fun h => h.elim (fun e => absurd e (by decide)) (fun h => Or.inr (hc5 h))), hwz, (fun h => g20 (fun e => h (Or.inr e))), (fun h => n3 (fun e => h (Or.inr e))), kp f0, kp f1, fun _ => rfl, kp f3, kp f4, kp f5, kp f6, kp f7, kp f8, kp f9, kp f10, kp f11, kp f12, kp f13, kp f14, kp f15, kp f16, kp f17, kp f18, kp f19, kp f20, kp f21⟩
        · -- 3
          have d1 := f1 (hd' 1 (by kernel_rfl))
          have d2 := f2 (hd' 2 (by kernel_rfl))
          refine slot_step rfl rfl (fun az hs K hK => ?_)
          have hK : Shut _ := hK
          have e13 := hs.get 13
          rw [d1] at e13
          have e14 := hs.get 14
          rw [d2] at e14
          go_simp
          exact hK.out _ _ ⟨r0, r4, hbz, hsz, (fun h => h.elim (fun e => absurd e (by decide)) (fun h => Or.inr (hc1 h))), (fun h => h.elim (fun e => absurd e (by decide)) (fun h => Or.inr (hc2 h))), (fun h => h.elim (fun e => absurd e (by decide)) (fun h => Or.inr (hc3 h))), (fun h => h.elim (fun e => absurd e (by decide)) (fun h => Or.inr (hc6 h))), (fun h => h.elim (fun e => absurd e (by decide)) (fun h => Or.inr (hc4 h))), (fun h => h.elim (fun e => absurd e (by decide)) (fun h => Or.inr (hc5 h))), hwz, (fun h => g20 (fun e => h (Or.inr e))), (fun h => n3 (fun e => h (Or.inr e))), kp f0, kp f1, kp f2, fun _ => rfl, kp f4, kp f5, kp f6, kp f7, kp f8, kp f9, kp f10, kp f11, kp f12, kp f13, kp f14, kp f15, kp f16, kp f17, kp f18, kp f19, kp f20, kp f21⟩
        · -- 4
          have d3 := f3 (hd' 3 (by kernel_rfl))
          refine slot_step rfl rfl (fun az hs K hK => ?_)
          have hK : Shut _ := hK
          have e15 := hs.get 15
          rw [d3] at e15
          go_simp
          exact hK.out _ _ ⟨r0, r4, hbz, hsz, (fun h => h.elim (fun e => absurd e (by decide)) (fun h => Or.inr (hc1 h))), (fun h => h.elim (fun e => absurd e (by decide)) (fun h => Or.inr (hc2 h))), (fun h => h.elim (fun e => absurd e (by decide)) (fun h => Or.inr (hc3 h))), (fun h => h.elim (fun e => absurd e (by decide)) (fun h => Or.inr (hc6 h))), (fun h => h.elim (fun e => absurd e (by decide)) (fun h => Or.inr (hc4 h))), (fun h => h.elim (fun e => absurd e (by decide)) (fun h => Or.inr (hc5 h))), hwz, (fun h => g20 (fun e => h (Or.inr e))), (fun h => n3 (fun e => h (Or.inr e))), kp f0, kp f1, kp f2, kp f3, fun _ => rfl, kp f5, kp f6, kp f7, kp f8, kp f9, kp f10, kp f11, kp f12, kp f13, kp f14, kp f15, kp f16, kp f17, kp f18, kp f19, kp f20, kp f21⟩
        · -- 5
          have d4 := f4 (hd' 4 (by kernel_rfl))
          refine slot_step rfl rfl (fun az hs K hK => ?_)
          have hK : Shut _ := hK
          have cz := (hbz.cell hltA).trans c0
          have e16 := hs.get 16
          rw [d4] at e16
          go_simp
          exact hK.out _ _ ⟨r0, r4, hbz, hsz, (fun h => h.elim (fun e => absurd e (by decide)) (fun h => Or.inr (hc1 h))), (fun h => h.elim (fun e => absurd e (by decide)) (fun h => Or.inr (hc2 h))), (fun h => h.elim (fun e => absurd e (by decide)) (fun h => Or.inr (hc3 h))), (fun h => h.elim (fun e => absurd e (by decide)) (fun h => Or.inr (hc6 h))), (fun h => h.elim (fun e => absurd e (by decide)) (fun h => Or.inr (hc4 h))), (fun h => h.elim (fun e => absurd e (by decide)) (fun h => Or.inr (hc5 h))), hwz, (fun h => g20 (fun e => h (Or.inr e))), (fun h => n3 (fun e => h (Or.inr e))), kp f0, kp f1, kp f2, kp f3, kp f4, fun _ => rfl, kp f6, kp f7, kp f8, kp f9, kp f10, kp f11, kp f12, kp f13, kp f14, kp f15, kp f16, kp f17, kp f18, kp f19, kp f20, kp f21⟩
        · -- 6
          refine slot_step rfl rfl (fun az hs K hK => ?_)
          have hK : Shut _ := hK
          have e0 := hs.get 0
          rw [r0] at e0
          go_simp
          exact hK.out _ _ ⟨r0, r4, hbz, hsz, (fun h => h.elim (fun e => absurd e (by decide)) (fun h => Or.inr (hc1 h))), (fun h => h.elim (fun e => absurd e (by decide)) (fun h => Or.inr (hc2 h))), (fun h => h.elim (fun e => absurd e (by decide)) (fun h => Or.inr (hc3 h))), (fun h => h.elim (fun e => absurd e (by decide)) (fun h => Or.inr (hc6 h))), (fun h => h.elim (fun e => absurd e (by decide)) (fun h => Or.inr (hc4 h))), (fun h => h.elim (fun e => absurd e (by decide)) (fun h => Or.inr (hc5 h))), hwz, (fun h => g20 (fun e => h (Or.inr e))), (fun h => n3 (fun e => h (Or.inr e))), kp f0, kp f1, kp f2, kp f3, kp f4, kp f5, fun _ => rfl, kp f7, kp f8, kp f9, kp f10, kp f11, kp f12, kp f13, kp f14, kp f15, kp f16, kp f17, kp f18, kp f19, kp f20, kp f21⟩
        · -- 7
          refine slot_step rfl rfl (fun az hs K hK => ?_)
          have hK : Shut _ := hK
          have e4 := hs.get 4
          rw [r4] at e4
          go_simp
          exact hK.out _ _ ⟨r0, r4, hbz, hsz, (fun h => h.elim (fun e => absurd e (by decide)) (fun h => Or.inr (hc1 h))), (fun h => h.elim (fun e => absurd e (by decide)) (fun h => Or.inr (hc2 h))), (fun h => h.elim (fun e => absurd e (by decide)) (fun h => Or.inr (hc3 h))), (fun h => h.elim (fun e => absurd e (by decide)) (fun h => Or.inr (hc6 h))), (fun h => h.elim (fun e => absurd e (by decide)) (fun h => Or.inr (hc4 h))), (fun h => h.elim (fun e => absurd e (by decide)) (fun h => Or.inr (hc5 h))), hwz, (fun h => g20 (fun e => h (Or.inr e))), (fun h => n3 (fun e => h (Or.inr e))), kp f0, kp f1, kp f2, kp f3, kp f4, kp f5, kp f6, fun _ => rfl, kp f8, kp f9, kp f10, kp f11, kp f12, kp f13, kp f14, kp f15, kp f16, kp f17, kp f18, kp f19, kp f20, kp f21⟩
        · -- 8
          have d6 := f6 (hd' 6 (by kernel_rfl))
          have d7 := f7 (hd' 7 (by kernel_rfl))
          refine slot_step rfl rfl (fun az hs K hK => ?_)
          have hK : Shut _ := hK
          have e18 := hs.get 18
          rw [d6] at e18
          have e19 := hs.get 19
          rw [d7] at e19
          go_simp
          exact hK.out _ _ ⟨r0, r4, hbz, hsz, (fun h => h.elim (fun e => absurd e (by decide)) (fun h => Or.inr (hc1 h))), (fun h => h.elim (fun e => absurd e (by decide)) (fun h => Or.inr (hc2 h))), (fun h => h.elim (fun e => absurd e (by decide)) (fun h => Or.inr (hc3 h))), (fun h => h.elim (fun e => absurd e (by decide)) (fun h => Or.inr (hc6 h))), (fun h => h.elim (fun e => absurd e (by decide)) (fun h => Or.inr (hc4 h))), (fun h => h.elim (fun e => absurd e (by decide)) (fun h => Or.inr (hc5 h))), hwz, (fun h => g20 (fun e => h (Or.inr e))), (fun h => n3 (fun e => h (Or.inr e))), kp f0, kp f1, kp f2, kp f3, kp f4, kp f5, kp f6, kp f7, fun _ => rfl, kp f9, kp f10, kp f11, kp f12, kp f13, kp f14, kp f15, kp f16, kp f17, kp f18, kp f19, kp f20, kp f21⟩
        · -- 9
          have d8 := f8 (hd' 8 (by kernel_rfl))
          refine slot_step rfl rfl (fun az hs K hK => ?_)
          have hK : Shut _ := hK
          have e20 := hs.get 20
          rw [d8] at e20
          go_simp
          exact hK.out _ _ ⟨r0, r4, hbz, hsz, (fun h => h.elim (fun e => absurd e (by decide)) (fun h => Or.inr (hc1 h))), (fun h => h.elim (fun e => absurd e (by decide)) (fun h => Or.inr (hc2 h))), (fun h => h.elim (fun e => absurd e (by decide)) (fun h => Or.inr (hc3 h))), (fun h => h.elim (fun e => absurd e (by decide)) (fun h => Or.inr (hc6 h))), (fun h => h.elim (fun e => absurd e (by decide)) (fun h => Or.inr (hc4 h))), (fun h => h.elim (fun e => absurd e (by decide)) (fun h => Or.inr (hc5 h))), hwz, (fun h => g20 (fun e => h (Or.inr e))), (fun h => n3 (fun e => h (Or.inr e))), kp f0, kp f1, kp f2, kp f3, kp f4, kp f5, kp f6, kp f7, kp f8, fun _ => rfl, kp f10, kp f11, kp f12, kp f13, kp f14, kp f15, kp f16, kp f17, kp f18, kp f19, kp f20, kp f21⟩
        · -- 10
          have d9 := f9 (hd' 9 (by kernel_rfl))
          refine slot_step rfl rfl (fun az hs K hK => ?_)
          have hK : Shut _ := hK
          have cz := (hbz.cell (p := ⟨(ad.add (k * 3)).block, (ad.add (k * 3)).off + 1, none⟩) hltA).trans c1
          have e21 := hs.get 21
          rw [d9] at e21
          go_simp
          exact hK.out _ _ ⟨r0, r4, hbz, hsz, (fun h => h.elim (fun e => absurd e (by decide)) (fun h => Or.inr (hc1 h))), (fun h => h.elim (fun e => absurd e (by decide)) (fun h => Or.inr (hc2 h))), (fun h => h.elim (fun e => absurd e (by decide)) (fun h => Or.inr (hc3 h))), (fun h => h.elim (fun e => absurd e (by decide)) (fun h => Or.inr (hc6 h))), (fun h => h.elim (fun e => absurd e (by decide)) (fun h => Or.inr (hc4 h))), (fun h => h.elim (fun e => absurd e (by decide)) (fun h => Or.inr (hc5 h))), hwz, (fun h => g20 (fun e => h (Or.inr e))), (fun h => n3 (fun e => h (Or.inr e))), kp f0, kp f1, kp f2, kp f3, kp f4, kp f5, kp f6, kp f7, kp f8, kp f9, fun _ => rfl, kp f11, kp f12, kp f13, kp f14, kp f15, kp f16, kp f17, kp f18, kp f19, kp f20, kp f21⟩
        · -- 11
          refine slot_step rfl rfl (fun az hs K hK => ?_)
          have hK : Shut _ := hK
          go_simp
          exact hK.out _ _ ⟨r0, r4, hbz.alloc hbz.size _, (by simp; omega), (fun h => h.elim (fun e => absurd e (by decide)) (fun h => Or.inr (hc1 h))), (fun h => h.elim (fun e => absurd e (by decide)) (fun h => Or.inr (hc2 h))), (fun h => h.elim (fun e => absurd e (by decide)) (fun h => Or.inr (hc3 h))), (fun h => h.elim (fun e => absurd e (by decide)) (fun h => Or.inr (hc6 h))), (fun h => h.elim (fun e => absurd e (by decide)) (fun h => Or.inr (hc4 h))), (fun h => h.elim (fun e => absurd e (by decide)) (fun h => Or.inr (hc5 h))), (fun y hy => (hwz y hy).alloc _), (fun h => (g20 (fun e => h (Or.inr e))).alloc _), (fun h => n3 (fun e => h (Or.inr e))), kp f0, kp f1, kp f2, kp f3, kp f4, kp f5, kp f6, kp f7, kp f8, kp f9, kp f10, fun _ => ⟨wz.heap.size, rfl, hbz.size, Blk.new wz _ _⟩, kp f12, kp f13, kp f14, kp f15, kp f16, fun h => h.elim (fun e => absurd e (by decide)) (fun h => absurd (hc1 h) hn), fun h => h.elim (fun e => absurd e (by decide)) (fun h => absurd (hc1 (hc2 h)) hn), fun h => h.elim (fun e => absurd e (by decide)) (fun h => absurd (hc1 (hc3 h)) hn), fun h => h.elim (fun e => absurd e (by decide)) (fun h => absurd (hc1 (hc3 (hc4 h))) hn), kp f21⟩
        · -- 12
          refine slot_step rfl rfl (fun az hs K hK => ?_)
          have hK : Shut _ := hK
          have e0 := hs.get 0
          rw [r0] at e0
          go_simp
          exact hK.out _ _ ⟨r0, r4, hbz, hsz, (fun h => h.elim (fun e => absurd e (by decide)) (fun h => Or.inr (hc1 h))), (fun h => h.elim (fun e => absurd e (by decide)) (fun h => Or.inr (hc2 h))), (fun h => h.elim (fun e => absurd e (by decide)) (fun h => Or.inr (hc3 h))), (fun h => h.elim (fun e => absurd e (by decide)) (fun h => Or.inr (hc6 h))), (fun h => h.elim (fun e => absurd e (by decide)) (fun h => Or.inr (hc4 h))), (fun h => h.elim (fun e => absurd e (by decide)) (fun h => Or.inr (hc5 h))), hwz, (fun h => g20 (fun e => h (Or.inr e))), (fun h => n3 (fun e => h (Or.inr e))), kp f0, kp f1, kp f2, kp f3, kp f4, kp f5, kp f6, kp f7, kp f8, kp f9, kp f10, kp f11, fun _ => rfl, kp f13, kp f14, kp f15, kp f16, kp f17, kp f18, kp f19, kp f20, kp f21⟩
        · -- 13
          refine slot_step rfl rfl (fun az hs K hK => ?_)
          have hK : Shut _ := hK
          have e4 := hs.get 4
          rw [r4] at e4
          go_simp
          exact hK.out _ _ ⟨r0, r4, hbz, hsz, (fun h => h.elim (fun e => absurd e (by decide)) (fun h => Or.inr (hc1 h))), (fun h => h.elim (fun e => absurd e (by decide)) (fun h => Or.inr (hc2 h))), (fun h => h.elim (fun e => absurd e (by decide)) (fun h => Or.inr (hc3 h))), (fun h => h.elim (fun e => absurd e (by decide)) (fun h => Or.inr (hc6 h))), (fun h => h.elim (fun e => absurd e (by decide)) (fun h => Or.inr (hc4 h))), (fun h => h.elim (fun e => absurd e (by decide)) (fun h => Or.inr (hc5 h))), hwz, (fun h => g20 (fun e => h (Or.inr e))), (fun h => n3 (fun e => h (Or.inr e))), kp f0, kp f1, kp f2, kp f3, kp f4, kp f5, kp f6, kp f7, kp f8, kp f9, kp f10, kp f11, kp f12, fun _ => rfl, kp f14, kp f15, kp f16, kp f17, kp f18, kp f19, kp f20, kp f21⟩
        · -- 14
          have d12 := f12 (hd' 12 (by kernel_rfl))
          have d13 := f13 (hd' 13 (by kernel_rfl))
          refine slot_step rfl rfl (fun az hs K hK => ?_)
          have hK : Shut _ := hK
          have e24 := hs.get 24
          rw [d12] at e24
          have e25 := hs.get 25
          rw [d13] at e25
          go_simp
          exact hK.out _ _ ⟨r0, r4, hbz, hsz, (fun h => h.elim (fun e => absurd e (by decide)) (fun h => Or.inr (hc1 h))), (fun h => h.elim (fun e => absurd e (by decide)) (fun h => Or.inr (hc2 h))), (fun h => h.elim (fun e => absurd e (by decide)) (fun h => Or.inr (hc3 h))), (fun h => h.elim (fun e => absurd e (by decide)) (fun h => Or.inr (hc6 h))), (fun h => h.elim (fun e => absurd e (by decide)) (fun h => Or.inr (hc4 h))), (fun h => h.elim (fun e => absurd e (by decide)) (fun h => Or.inr (hc5 h))), hwz, (fun h => g20 (fun e => h (Or.inr e))), (fun h => n3 (fun e => h (Or.inr e))), kp f0, kp f1, kp f2, kp f3, kp f4, kp f5, kp f6, kp f7, kp f8, kp f9, kp f10, kp f11, kp f12, kp f13, fun _ => rfl, kp f15, kp f16, kp f17, kp f18, kp f19, kp f20, kp f21⟩
        · -- 15
          have d14 := f14 (hd' 14 (by kernel_rfl))
          refine slot_step rfl rfl (fun az hs K hK => ?_)
          have hK : Shut _ := hK
          have e26 := hs.get 26
          rw [d14] at e26
          go_simp
          exact hK.out _ _ ⟨r0, r4, hbz, hsz, (fun h => h.elim (fun e => absurd e (by decide)) (fun h => Or.inr (hc1 h))), (fun h => h.elim (fun e => absurd e (by decide)) (fun h => Or.inr (hc2 h))), (fun h => h.elim (fun e => absurd e (by decide)) (fun h => Or.inr (hc3 h))), (fun h => h.elim (fun e => absurd e (by decide)) (fun h => Or.inr (hc6 h))), (fun h => h.elim (fun e => absurd e (by decide)) (fun h => Or.inr (hc4 h))), (fun h => h.elim (fun e => absurd e (by decide)) (fun h => Or.inr (hc5 h))), hwz, (fun h => g20 (fun e => h (Or.inr e))), (fun h => n3 (fun e => h (Or.inr e))), kp f0, kp f1, kp f2, kp f3, kp f4, kp f5, kp f6, kp f7, kp f8, kp f9, kp f10, kp f11, kp f12, kp f13, kp f14, fun _ => rfl, kp f16, kp f17, kp f18, kp f19, kp f20, kp f21⟩
        · -- 16
          have d15 := f15 (hd' 15 (by kernel_rfl))
          refine slot_step rfl rfl (fun az hs K hK => ?_)
          have hK : Shut _ := hK
          have cz := (hbz.cell (p := ⟨(ad.add (k * 3)).block, (ad.add (k * 3)).off + 2, none⟩) hltA).trans c3
          have e27 := hs.get 27
          rw [d15] at e27
          go_simp
          exact hK.out _ _ ⟨r0, r4, hbz, hsz, (fun h => h.elim (fun e => absurd e (by decide)) (fun h => Or.inr (hc1 h))), (fun h => h.elim (fun e => absurd e (by decide)) (fun h => Or.inr (hc2 h))), (fun h => h.elim (fun e => absurd e (by decide)) (fun h => Or.inr (hc3 h))), (fun h => h.elim (fun e => absurd e (by decide)) (fun h => Or.inr (hc6 h))), (fun h => h.elim (fun e => absurd e (by decide)) (fun h => Or.inr (hc4 h))), (fun h => h.elim (fun e => absurd e (by decide)) (fun h => Or.inr (hc5 h))), hwz, (fun h => g20 (fun e => h (Or.inr e))), (fun h => n3 (fun e => h (Or.inr e))), kp f0, kp f1, kp f2, kp f3, kp f4, kp f5, kp f6, kp f7, kp f8, kp f9, kp f10, kp f11, kp f12, kp f13, kp f14, kp f15, fun _ => rfl, kp f17, kp f18, kp f19, kp f20, kp f21⟩
        · -- 17
          have d11 := f11 (hd' 11 (by kernel_rfl))
          have d16 := f16 (hd' 16 (by kernel_rfl))
          refine slot_step rfl rfl (fun az hs K hK => ?_)
          have hK : Shut _ := hK
          obtain ⟨gb, eg, hgb, hbk⟩ := d11
          have e28 := hs.get 28
          rw [d16] at e28
          refine oper_append_lit (base := w.heap.size) (.tmp 23) (.tmp 28) 40 rfl Try.underlying40 info_n rfl (by decide) (hs.eval eg) (hs.eval d16) hbk hgb (rd_rdS (hwr.below hbz (Nat.le_refl _))) ivs_cell (by unfold maxLen; omega) (by omega) ?_
          intro v2 w2 hown2 hbw
          obtain ⟨A2, c2, rfl, _, _, _⟩ := Rd.of_own hown2
          exact hK.out _ _ ⟨r0, r4, hbz.trans (hbw.mono hbz.size), Nat.le_trans hsz hbw.size, (fun _ => Or.inr (hd' 11 (by kernel_rfl))), (fun h => h.elim (fun e => absurd e (by decide)) (fun h => Or.inr (hc2 h))), (fun h => h.elim (fun e => absurd e (by decide)) (fun h => Or.inr (hc3 h))), (fun h => h.elim (fun e => absurd e (by decide)) (fun h => Or.inr (hc6 h))), (fun h => h.elim (fun e => absurd e (by decide)) (fun h => Or.inr (hc4 h))), (fun h => h.elim (fun e => absurd e (by decide)) (fun h => Or.inr (hc5 h))), hwz.keep hbw, (fun h => own_keep (g20 (fun e => h (Or.inr e))) hbw), (fun h => n3 (fun e => h (Or.inr e))), kp f0, kp f1, kp f2, kp f3, kp f4, kp f5, kp f6, kp f7, kp f8, kp f9, kp f10, fun _ => ⟨gb, eg, hgb, hbk.below hbw hbk.lt⟩, kp f12, kp f13, kp f14, kp f15, kp f16, fun _ => ⟨⟨A2, zn, c2⟩, rfl, rfl, hown2⟩, fun h => h.elim (fun e => absurd e (by decide)) (fun h => absurd (hc2 h) hn), fun h => h.elim (fun e => absurd e (by decide)) (fun h => absurd (hc3 h) hn), fun h => h.elim (fun e => absurd e (by decide)) (fun h => absurd (hc3 (hc4 h)) hn), kp f21⟩
        · -- 18
          have d5 := f5 (hd' 5 (by kernel_rfl))
          have d10 := f10 (hd' 10 (by kernel_rfl))
          have d17 := f17 (hd' 17 (by kernel_rfl))
          refine slot_step rfl rfl (fun az hs K hK => ?_)
          have hK : Shut _ := hK
          obtain ⟨⟨A2, z2, c2⟩, es, _, _⟩ := d17
          simp only [Sl.val] at es
          have e17 := hs.get 17
          rw [d5] at e17
          have e22 := hs.get 22
          rw [d10] at e22
          refine oper_buildT (.tmp 17) (.tmp 22) (.tmp 29) rfl lt lv A2 z2 c2 (hs.eval d5) (hs.eval d10) (hs.eval es) ?_
          exact hK.out (.agg #[.int .i64 lt, .int .i64 lv, .slice A2 z2 c2]) _ ⟨r0, r4, hbz, hsz, (fun h => h.elim (fun e => absurd e (by decide)) (fun h => Or.inr (hc1 h))), (fun _ => Or.inr (hd' 17 (by kernel_rfl))), (fun h => h.elim (fun e => absurd e (by decide)) (fun h => Or.inr (hc3 h))), (fun h => h.elim (fun e => absurd e (by decide)) (fun h => Or.inr (hc6 h))), (fun h => h.elim (fun e => absurd e (by decide)) (fun h => Or.inr (hc4 h))), (fun h => h.elim (fun e => absurd e (by decide)) (fun h => Or.inr (hc5 h))), hwz, (fun h => g20 (fun e => h (Or.inr e))), (fun h => n3 (fun e => h (Or.inr e))), kp f0, kp f1, kp f2, kp f3, kp f4, kp f5, kp f6, kp f7, kp f8, kp f9, kp f10, kp f11, kp f12, kp f13, kp f14, kp f15, kp f16, kp f17, fun _ => ⟨⟨A2, z2, c2⟩, es, rfl⟩, kp f19, kp f20, kp f21⟩
        · -- 19
          have d18 := f18 (hd' 18 (by kernel_rfl))
          refine slot_step rfl rfl (fun az hs K hK => ?_)
          have hK : Shut _ := hK
          obtain ⟨⟨A2, z2, c2⟩, es, e3⟩ := d18
          simp only [Sl.val] at e3
          refine oper_litT (.tmp 30) rfl lt lv A2 z2 c2 (hs.eval e3) ?_
          exact hK.out (.slice (some ⟨wz.heap.size, 0, none⟩) 1 1) (wz.alloc (.cells #[.int .i64 lt, .int .i64 lv, .slice A2 z2 c2] 106)) ⟨r0, r4, hbz.alloc hbz.size _, (by simp; omega), (fun h => h.elim (fun e => absurd e (by decide)) (fun h => Or.inr (hc1 h))), (fun h => h.elim (fun e => absurd e (by decide)) (fun h => Or.inr (hc2 h))), (fun _ => Or.inr (hc2 (hd' 18 (by kernel_rfl)))), (fun h => h.elim (fun e => absurd e (by decide)) (fun h => Or.inr (hc6 h))), (fun h => h.elim (fun e => absurd e (by decide)) (fun h => Or.inr (hc4 h))), (fun h => h.elim (fun e => absurd e (by decide)) (fun h => Or.inr (hc5 h))), (fun y hy => (hwz y hy).alloc _), (fun h => (g20 (fun e => h (Or.inr e))).alloc _), (fun h => n3 (fun e => h (Or.inr e))), kp f0, kp f1, kp f2, kp f3, kp f4, kp f5, kp f6, kp f7, kp f8, kp f9, kp f10, fun h => h.elim (fun e => absurd e (by decide)) (fun h => let ⟨gb, e1, e2, e3⟩ := f11 h; ⟨gb, e1, e2, e3.alloc _⟩), kp f12, kp f13, kp f14, kp f15, kp f16, fun h => h.elim (fun e => absurd e (by decide)) (fun h => let ⟨s, e1, e2, e3⟩ := f17 h; ⟨s, e1, e2, e3.alloc _⟩), kp f18, fun _ => ⟨⟨A2, z2, c2⟩, wz.heap.size, es, rfl, hsz, Blk.new wz _ _⟩, fun h => h.elim (fun e => absurd e (by decide)) (fun h => absurd (hc4 h) hn), kp f21⟩
        · -- 20
          have d0 := f0 (hd' 0 (by kernel_rfl))
          have d19 := f19 (hd' 19 (by kernel_rfl))
          refine slot_step rfl rfl (fun az hs K hK => ?_)
          have hK : Shut _ := hK
          obtain ⟨s, gb, es, e3, hgb, hbk⟩ := d19
          have ho := g20 hn
          have e12 := hs.get 12
          rw [d0] at e12
          obtain ⟨inf, hi0, hiz, his, hib⟩ := info_parts info_T
          refine wp_append_own wz (.tmp 12) (.tmp 31) 44 rfl w.heap.size 106 inf _ 3 40 Try.underlying44 hi0 hiz his hib rfl (by decide) v k (ys.flatMap encT) (hs.eval d0) ho ⟨gb, 0, none⟩ 1 1 [.int .i64 lt, .int .i64 lv, s.val] (hs.eval e3) rfl (lit_cells hbk) (one_T lt lv s) (by unfold maxLen; omega) (by omega) hbz.size ?_
          intro v2 w2 hown2 hgr _
          rw [← encT_app ys ((⟨lt, lv, wy⟩ : St), s)] at hown2
          have hnb : some gb ≠ v.ownBlock := fun e => by have := (hlow.out gb e.symm).2; omega
          have hfr := (Fr.of_grown hgr (fun q e => .inl e) : Fr (fun q => v.ownBlock = some q) wz w2)
          exact hK.out _ _ ⟨r0, r4, hbz.trans (hfr.below hbz.size (fun q e => (hlow.out q e).1)), Nat.le_trans hsz hfr.size, (fun h => h.elim (fun e => absurd e (by decide)) (fun h => Or.inr (hc1 h))), (fun h => h.elim (fun e => absurd e (by decide)) (fun h => Or.inr (hc2 h))), (fun h => h.elim (fun e => absurd e (by decide)) (fun h => Or.inr (hc3 h))), (fun _ => Or.inr (hd' 0 (by kernel_rfl))), (fun _ => Or.inr (hd' 19 (by kernel_rfl))), (fun h => h.elim (fun e => absurd e (by decide)) (fun h => Or.inr (hc5 h))), (fun y hy => (hwz y hy).kept hgr (own_other (hwz y hy) ho (by decide))), (fun h => (h (by simp)).elim), (fun h => n3 (fun e => h (Or.inr e))), kp f0, kp f1, kp f2, kp f3, kp f4, kp f5, kp f6, kp f7, kp f8, kp f9, kp f10, fun h => h.elim (fun e => absurd e (by decide)) (fun h => let ⟨gb, e1, e2, e3⟩ := f11 h; ⟨gb, e1, e2, e3.grown hgr (own_blk_ne ho e3 (by decide))⟩), kp f12, kp f13, kp f14, kp f15, kp f16, fun h => h.elim (fun e => absurd e (by decide)) (fun h => let ⟨s, e1, e2, e3⟩ := f17 h; ⟨s, e1, e2, e3.kept hgr (own_other e3 ho (by decide))⟩), kp f18, fun _ => ⟨s, gb, es, e3, hgb, hbk.grown hgr hnb⟩, fun _ => ⟨s, es, hown2⟩, fun h => h.elim (fun e => absurd e (by decide)) (fun h => absurd (hc5 h) hn)⟩
        · -- 21
          have d20 := f20 (hd' 20 (by kernel_rfl))
          refine slot_step rfl rfl (fun az hs K hK => ?_)
          have hK : Shut _ := hK
          have e32 := hs.get 32
          go_simp
          exact hK.out _ _ ⟨r0, r4, hbz, hsz, (fun h => h.elim (fun e => absurd e (by decide)) (fun h => Or.inr (hc1 h))), (fun h => h.elim (fun e => absurd e (by decide)) (fun h => Or.inr (hc2 h))), (fun h => h.elim (fun e => absurd e (by decide)) (fun h => Or.inr (hc3 h))), (fun h => h.elim (fun e => absurd e (by decide)) (fun h => Or.inr (hc6 h))), (fun h => h.elim (fun e => absurd e (by decide)) (fun h => Or.inr (hc4 h))), (fun _ => Or.inr (hd' 20 (by kernel_rfl))), hwz, (fun h => g20 (fun e => h (Or.inr e))), (fun h => (h (by simp)).elim), kp f0, kp f1, kp f2, kp f3, kp f4, kp f5, kp f6, kp f7, kp f8, kp f9, kp f10, kp f11, kp f12, kp f13, kp f14, kp f15, kp f16, kp f17, kp f18, kp f19, kp f20, fun _ => rfl⟩
      case hdone =>
        rintro D g wz hD ⟨r0, r4, hbz, hsz, hc1, hc2, hc3, hc6, hc4, hc5, hwz, g20, n3, f0, f1, f2, f3, f4, f5, f6, f7, f8, f9, f10, f11, f12, f13, f14, f15, f16, f17, f18, f19, f20, f21⟩
        simp only [setAll, List.foldl_cons, List.foldl_nil, List.setIfInBounds_toArray, List.set_cons_succ, List.set_cons_zero]
        obtain ⟨s1, es1, hsn, ho1⟩ := f17 (hD 17)
        obtain ⟨s2, es2, ho2⟩ := f20 (hD 20)
        have e3 := f21 (hD 21)
        have hss := sl_val (es1.symm.trans es2)
        subst hss
        rw [e3]
        have hwN := hide (show WhysIn w.heap.size wz (ys ++ [(⟨lt, lv, wy⟩, s1)]) from fun y hy => by
          rcases List.mem_append.1 hy with hy | hy
          · exact hwz y hy
          · rw [List.mem_singleton] at hy
            subst hy
            exact ho1)
        have hysN := hide (hnx.out s1)
        clear f0 f1 f2 f3 f4 f5 f6 f7 f8 f9 f10 f11 f12 f13 f14 f15 f16 f17 f18 f19 f20 f21 hD hc1 hc2 hc3 hc4 hc5 hc6 n3 g20 r0 r4 es1 es2 e3 hsz ho1 hwz hnx
        replace hbz := hide hbz
        go_wp2
        go_roundw
        case rel => exact ⟨k + 1, _, hlt, by go_num, hysN, ho2, hwN, hbz⟩
        case measure => simp [intOf]; omega
    · have hkn : n = k := by omega
      subst hkn
      have hfull : l.take n = l := by rw [← hll.out, List.take_length]
      rw [hfull] at hys
      obtain ⟨A2, c2, rfl, _, _, hr2⟩ := RdT.of_own hown (fun y hy => by obtain ⟨A, c, e, _, _, h⟩ := Rd.of_own (hwi.out y hy); have := sl_val (s := y.2) (t := ⟨A, y.2.n, c⟩) e; rw [this]; exact h)
      rw [hys.out] at hr2
      clear hown hwi hys hfull
      go_wp2
      go_ret
      exact ⟨A2, c2, rfl, hr2, hb.out⟩
end Go.Proofs.Ytcjoohaagdihlaa.Learn
