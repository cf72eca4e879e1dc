/- A store's law: what is kept of any cubes, one behind the other: the walk. -/
import Derived.Test.YtcjoohaagdihlaaStore17b
import Derived.Test.YtcjoohaagdihlaaRegSlots
import Derived.Outline
namespace Go.Proofs.Ytcjoohaagdihlaa.Kept
open Go.RowKit Go.Shelf Go.Lt Go.Proofs.Ytcjoohaagdihlaa.Lit Go.Proofs.Ytcjoohaagdihlaa.CubeHas Go.Proofs.Ytcjoohaagdihlaa.Cube Go.Proofs.Ytcjoohaagdihlaa.Sorted
set_option linter.unusedVariables false
set_option linter.unusedSimpArgs false

theorem take_kc {l : List Kc} {i : Nat} (h : i < l.length) : l.take (i + 1) = l.take i ++ [kcAt l i] := by
  rw [List.take_add_one, List.getElem?_eq_getElem h]
  simp [kcAt, List.getD, h]
theorem atL_at {dep : Int} {l : List Kc} {i : Nat} (h : i < l.length) (hd : (kcAt l i).d = dep) : (atL dep (l.take i)).length < (atL dep l).length ∧ csAt (atL dep l) (atL dep (l.take i)).length = (kcAt l i).c := by
  have e : l = l.take i ++ (kcAt l i :: l.drop (i + 1)) := by
    have : kcAt l i = l[i] := by simp [kcAt, List.getD, h]
    rw [this, List.getElem_cons_drop, List.take_append_drop]
  have e2 : atL dep l = atL dep (l.take i) ++ ((kcAt l i).c :: atL dep (l.drop (i + 1))) := by
    have h1 : atL dep (l.take i ++ (kcAt l i :: l.drop (i + 1))) = atL dep (l.take i) ++ ((kcAt l i).c :: atL dep (l.drop (i + 1))) := by simp [atL, hd]
    rw [← e] at h1
    exact h1
  constructor
  · rw [e2]; simp
  · rw [show csAt (atL dep l) (atL dep (l.take i)).length = (atL dep l).getD (atL dep (l.take i)).length [] from rfl, e2]
    simp [List.getD]
theorem slAt_is {ss : List Sl} {j : Nat} (h : j < ss.length) : ss[j]? = some (slAt ss j) := by
  rw [show slAt ss j = ss.getD j ⟨none, 0, 0⟩ from rfl, List.getD_eq_getElem?_getD, List.getElem?_eq_getElem h]; rfl
set_option maxRecDepth 100000 in
set_option maxHeartbeats 8000000 in
theorem plays (A : Option Addr) (n c : Nat) (L : List Kv) (l : List Kc) (B : Option Addr) (m cd : Nat) (s : List Bool) (depth : Int) (w : World) (hn : n ≤ maxLen) (hr : RdK w A n L) (hA : AllK w L l) (hW : ∀ k ∈ l, Wfs k.c) (hrs : Rd w B m (bvs s)) :
    Calls Try.prog 8 #[.slice A n c, .slice B m cd, .int .i64 depth] w fun e w' => e = .returned (.bool true) ∧ Below w.heap.size w w' := by
  cases hf : fewB L n with
  | false =>
    go_enter Try.func8, Try.ntmps8
    go_wp2_with fail
    refine (few_is hn hr hf).mono ?_
    rintro e w1 ⟨rfl, rfl⟩
    clear hn
    go_wp2_with fail
    refine (law_lives w).mono ?_
    rintro e w1 ⟨rfl, hb1⟩
    replace hb1 := hide hb1
    go_wp2
    go_ret
    exact ⟨rfl, hb1.out⟩
  | true =>
    by_cases hm : m ≤ 60
    · obtain ⟨hn60, hxs⟩ := few_at hf
      have hG : GoodL l := fun k hk => by
        obtain ⟨j, hj, rfl⟩ := mem_kcAt hk
        have hjL : j < L.length := by rw [hA.1]; exact hj
        obtain ⟨h1, h2⟩ := hxs j (kvAt L j) (by simp [kvAt, List.getD, hjL])
        have e1 : (kcAt l j).c.length = _ := (hA.2 j hjL).c.len
        have e2 : (kcAt l j).i.length = _ := (hA.2 j hjL).i.len
        exact ⟨by omega, by omega, hW _ hk⟩
      replace hA := hide hA
      replace hG := hide hG
      replace hxs := hide hxs
      have hll := hide (show l.length = n from hA.out.1.symm.trans hr.1)
      go_enter Try.func8, Try.ntmps8
      go_wp2_with fail
      refine (few_is hn hr hf).mono ?_
      rintro e w1 ⟨rfl, rfl⟩
      clear hn hf hW
      go_wp2_with fail
      refine (store_New w).mono ?_
      rintro e w1 ⟨rfl, hS1, hb1⟩
      have hP : Pl w 0 l w.heap.size (.slice none 0 0) [] ⟨some ⟨w1.heap.size, 0, none⟩, 0, 0⟩ [] [] (w1.alloc (.cells #[] 66)) :=
        ⟨hS1.step ((Below.refl _ _).alloc (Nat.le_refl _) _), ⟨own_low (World.ownsRow_lit w1 #[] 0 (Nat.le_refl _) (by unfold maxLen; omega) rfl) hb1.size, AllO.nil _ _⟩, fun g _ h => by (cases h), hb1.alloc hb1.size _, rfl, AllS.nil⟩
      replace hP := hide hP
      clear hS1 hb1
      go_wp2
      go_loopw [7, 8, 9] (fun a b i wr => ∃ (k p : Nat) (V : Value) (Lr : List Kv) (vw : Sl) (Lw : List Kv) (ls : List Kc), k ≤ n ∧ a = .pointer (some ⟨p, 0, none⟩) ∧ b = vw.val ∧ i = .int .i64 k ∧ Hid (Pl w k l p V Lr vw Lw ls wr)) (fun _ _ i _ => n - (intOf i).toNat)
      case atStart => exact ⟨0, _, _, _, _, _, _, Nat.zero_le _, rfl, rfl, rfl, hP⟩
      case round =>
        obtain ⟨k, p, V, Lr, vw, Lw, ls, hk, rfl, rfl, rfl, hP⟩ := hrel
        have hkI : (k : Int) ≤ 60 := by omega
        by_cases hlt : k < n
        · obtain ⟨ad, x, rfl, hB, hx, c0, c1, c2⟩ := hr.get hlt
          have hkl : k < l.length := by rw [hll.out]; exact hlt
          have hx30 := hxs.out k x hx
          have hkv := hA.out.2 k (by rw [hA.out.1]; exact hkl)
          rw [kvAt_is hx] at hkv
          have hgk := hG.out.at hkl
          have hT := hide (addAll_snoc l k hkl)
          rw [← hP.out.eq] at hT
          obtain ⟨kc, hkc⟩ : ∃ kc, kcAt l k = kc := ⟨_, rfl⟩
          rw [hkc] at hkv hgk hT
          have hd : x.d = kc.d := hkv.d
          have hI2 := hide (hP.out.alls.add hgk)
          have hlen := hP.out.alls.len
          have hgood := hide hP.out.alls.good
          have hLr : Lr.length ≤ 1000 := by have := hP.out.st.all.1; omega
          have hLw : Lw.length ≤ 1000 := by have := hP.out.rw.all.1; omega
          obtain ⟨ls2, hls2⟩ : ∃ ls2, addL ls kc.c kc.d kc.i = ls2 := ⟨_, rfl⟩
          rw [hls2] at hI2 hT
          obtain ⟨b, hab⟩ : ∃ b, addB ls kc.c kc.d = b := ⟨_, rfl⟩
          replace hls2 := hide hls2
          replace hab := hide hab
          replace hgk := hide hgk
          replace hkv := hide hkv
          have C0 := hide c0
          have C1 := hide c1
          have C2 := hide c2
          have c0 := keepCell hP.out.bel C0.out
          have c1 : wr.cell? ⟨(ad.add (k * 3)).block, (ad.add (k * 3)).off + 1, none⟩ = some (.int .i64 kc.d) := by rw [← hd]; exact keepCell hP.out.bel C1.out
          have c2 := keepCell hP.out.bel C2.out
          clear hx hkc
          replace hd := hide hd
          go_wp2
          refine wp_region_slots [44, 45, 46, 47, 48, 49, 50, 51, 52, 53, 54, 55, 56, 57, 58, 59, 60, 43, 61, 62, 10, 11] (fun D g wz => ∃ (vwz : Sl) (Lz : List Kv), g 8 = vw.val ∧ g 0 = .slice (some ad) n c ∧ g 9 = .int .i64 (k : Int) ∧ Below wr.heap.size wr wz ∧ (D 0 → g 44 = vw.val) ∧ (D 1 → g 45 = .slice (some ad) n c) ∧ (D 2 → g 46 = .int .i64 (k : Int)) ∧ (D 3 → g 47 = .pointer (some (ad.add (k * 3)))) ∧ (D 4 → g 48 = .pointer (some (ad.add (k * 3)))) ∧ (D 5 → g 49 = x.c.val) ∧ (D 6 → g 50 = .slice (some ad) n c) ∧ (D 7 → g 51 = .int .i64 (k : Int)) ∧ (D 8 → g 52 = .pointer (some (ad.add (k * 3)))) ∧ (D 9 → g 53 = .pointer (some ⟨(ad.add (k * 3)).block, (ad.add (k * 3)).off + 1, none⟩)) ∧ (D 10 → g 54 = .int .i64 kc.d) ∧ (D 11 → g 55 = .slice (some ad) n c) ∧ (D 12 → g 56 = .int .i64 (k : Int)) ∧ (D 13 → g 57 = .pointer (some (ad.add (k * 3)))) ∧ (D 14 → g 58 = .pointer (some ⟨(ad.add (k * 3)).block, (ad.add (k * 3)).off + 2, none⟩)) ∧ (D 15 → g 59 = x.i.val) ∧ (D 16 → (g 60 = .tuple #[vwz.val, .bool b] ∧ Rw w.heap.size wz vwz.val Lz ls2 ∧ ∀ q, vwz.val.ownBlock = some q → vw.val.ownBlock = some q ∨ wr.heap.size ≤ q)) ∧ (D 17 → (D 16 ∧ g 43 = .tuple #[vwz.val, .bool b])) ∧ (D 18 → (D 17 ∧ g 61 = vwz.val)) ∧ (D 19 → (D 17 ∧ g 62 = .bool b)) ∧ (D 20 → (D 18 ∧ g 10 = vwz.val)) ∧ (D 21 → (D 19 ∧ g 11 = .bool b))) (by kernel_rfl) (by kernel_rfl) 240 rfl (by kernel_rfl) ?h0 ?hstep ?hdone
          case h0 => exact ⟨vw, Lw, rfl, rfl, rfl, Dr.below (Dr.refl wr).drew _, nt0, nt0, nt0, nt0, nt0, nt0, nt0, nt0, nt0, nt0, nt0, nt0, nt0, nt0, nt0, nt0, nt0, nt0, nt0, nt0, nt0, nt0⟩
          case hstep =>
            intro D g wz i hi' hn hd' hI2
            obtain ⟨vwz, Lz, r8, r0, r9, hbz, f0, f1, f2, f3, f4, f5, f6, f7, f8, f9, f10, f11, f12, f13, f14, f15, f16, f17, f18, f19, f20, f21⟩ := hI2
            have hi' : i < 22 := hi'
            rcases (show i = 0 ∨ i = 1 ∨ i = 2 ∨ i = 3 ∨ i = 4 ∨ i = 5 ∨ i = 6 ∨ i = 7 ∨ i = 8 ∨ i = 9 ∨ i = 10 ∨ i = 11 ∨ i = 12 ∨ i = 13 ∨ i = 14 ∨ i = 15 ∨ i = 16 ∨ i = 17 ∨ i = 18 ∨ i = 19 ∨ i = 20 ∨ i = 21 by omega) with rfl | rfl | rfl | rfl | rfl | rfl | rfl | rfl | rfl | rfl | rfl | rfl | rfl | rfl | rfl | rfl | rfl | rfl | rfl | rfl | rfl | rfl
            · -- 0
              refine slot_step rfl rfl (fun az hs K hK => ?_)
              have hK : Shut _ := hK
              have e8 := hs.get 8
              rw [r8] at e8
              go_simp
              exact hK.out _ _ ⟨vwz, Lz, r8, r0, r9, hbz, fun _ => rfl, kp f1, kp f2, kp f3, kp f4, kp f5, kp f6, kp f7, kp f8, kp f9, kp f10, kp f11, kp f12, kp f13, kp f14, kp f15, kp f16, fun h => h.elim (fun e => absurd e (by decide)) (fun h => ⟨Or.inr (f17 h).1, (f17 h).2⟩), fun h => h.elim (fun e => absurd e (by decide)) (fun h => ⟨Or.inr (f18 h).1, (f18 h).2⟩), fun h => h.elim (fun e => absurd e (by decide)) (fun h => ⟨Or.inr (f19 h).1, (f19 h).2⟩), fun h => h.elim (fun e => absurd e (by decide)) (fun h => ⟨Or.inr (f20 h).1, (f20 h).2⟩), fun h => h.elim (fun e => absurd e (by decide)) (fun h => ⟨Or.inr (f21 h).1, (f21 h).2⟩)⟩
            · -- 1
              refine slot_step rfl rfl (fun az hs K hK => ?_)
              have hK : Shut _ := hK
              have e0 := hs.get 0
              rw [r0] at e0
              go_simp
              exact hK.out _ _ ⟨vwz, Lz, r8, r0, r9, hbz, kp f0, fun _ => rfl, kp f2, kp f3, kp f4, kp f5, kp f6, kp f7, kp f8, kp f9, kp f10, kp f11, kp f12, kp f13, kp f14, kp f15, kp f16, fun h => h.elim (fun e => absurd e (by decide)) (fun h => ⟨Or.inr (f17 h).1, (f17 h).2⟩), fun h => h.elim (fun e => absurd e (by decide)) (fun h => ⟨Or.inr (f18 h).1, (f18 h).2⟩), fun h => h.elim (fun e => absurd e (by decide)) (fun h => ⟨Or.inr (f19 h).1, (f19 h).2⟩), fun h => h.elim (fun e => absurd e (by decide)) (fun h => ⟨Or.inr (f20 h).1, (f20 h).2⟩), fun h => h.elim (fun e => absurd e (by decide)) (fun h => ⟨Or.inr (f21 h).1, (f21 h).2⟩)⟩
            · -- 2
              refine slot_step rfl rfl (fun az hs K hK => ?_)
              have hK : Shut _ := hK
              have e9 := hs.get 9
              rw [r9] at e9
              go_simp
              exact hK.out _ _ ⟨vwz, Lz, r8, r0, r9, hbz, kp f0, kp f1, fun _ => rfl, kp f3, kp f4, kp f5, kp f6, kp f7, kp f8, kp f9, kp f10, kp f11, kp f12, kp f13, kp f14, kp f15, kp f16, fun h => h.elim (fun e => absurd e (by decide)) (fun h => ⟨Or.inr (f17 h).1, (f17 h).2⟩), fun h => h.elim (fun e => absurd e (by decide)) (fun h => ⟨Or.inr (f18 h).1, (f18 h).2⟩), fun h => h.elim (fun e => absurd e (by decide)) (fun h => ⟨Or.inr (f19 h).1, (f19 h).2⟩), fun h => h.elim (fun e => absurd e (by decide)) (fun h => ⟨Or.inr (f20 h).1, (f20 h).2⟩), fun h => h.elim (fun e => absurd e (by decide)) (fun h => ⟨Or.inr (f21 h).1, (f21 h).2⟩)⟩
            · -- 3
              have d1 := f1 (hd' 1 (by kernel_rfl))
              have d2 := f2 (hd' 2 (by kernel_rfl))
              refine slot_step rfl rfl (fun az hs K hK => ?_)
              have hK : Shut _ := hK
              have e45 := hs.get 45
              rw [d1] at e45
              have e46 := hs.get 46
              rw [d2] at e46
              go_simp
              exact hK.out _ _ ⟨vwz, Lz, r8, r0, r9, hbz, kp f0, kp f1, kp f2, fun _ => rfl, kp f4, kp f5, kp f6, kp f7, kp f8, kp f9, kp f10, kp f11, kp f12, kp f13, kp f14, kp f15, kp f16, fun h => h.elim (fun e => absurd e (by decide)) (fun h => ⟨Or.inr (f17 h).1, (f17 h).2⟩), fun h => h.elim (fun e => absurd e (by decide)) (fun h => ⟨Or.inr (f18 h).1, (f18 h).2⟩), fun h => h.elim (fun e => absurd e (by decide)) (fun h => ⟨Or.inr (f19 h).1, (f19 h).2⟩), fun h => h.elim (fun e => absurd e (by decide)) (fun h => ⟨Or.inr (f20 h).1, (f20 h).2⟩), fun h => h.elim (fun e => absurd e (by decide)) (fun h => ⟨Or.inr (f21 h).1, (f21 h).2⟩)⟩
            · -- 4
              have d3 := f3 (hd' 3 (by kernel_rfl))
              refine slot_step rfl rfl (fun az hs K hK => ?_)
              have hK : Shut _ := hK
              have e47 := hs.get 47
              rw [d3] at e47
              go_simp
              exact hK.out _ _ ⟨vwz, Lz, r8, r0, r9, hbz, kp f0, kp f1, kp f2, kp f3, fun _ => rfl, kp f5, kp f6, kp f7, kp f8, kp f9, kp f10, kp f11, kp f12, kp f13, kp f14, kp f15, kp f16, fun h => h.elim (fun e => absurd e (by decide)) (fun h => ⟨Or.inr (f17 h).1, (f17 h).2⟩), fun h => h.elim (fun e => absurd e (by decide)) (fun h => ⟨Or.inr (f18 h).1, (f18 h).2⟩), fun h => h.elim (fun e => absurd e (by decide)) (fun h => ⟨Or.inr (f19 h).1, (f19 h).2⟩), fun h => h.elim (fun e => absurd e (by decide)) (fun h => ⟨Or.inr (f20 h).1, (f20 h).2⟩), fun h => h.elim (fun e => absurd e (by decide)) (fun h => ⟨Or.inr (f21 h).1, (f21 h).2⟩)⟩
            · -- 5
              have d4 := f4 (hd' 4 (by kernel_rfl))
              refine slot_step rfl rfl (fun az hs K hK => ?_)
              have hK : Shut _ := hK
              have cz := keepCell hbz c0
              have e48 := hs.get 48
              rw [d4] at e48
              go_simp
              exact hK.out _ _ ⟨vwz, Lz, r8, r0, r9, hbz, kp f0, kp f1, kp f2, kp f3, kp f4, fun _ => rfl, kp f6, kp f7, kp f8, kp f9, kp f10, kp f11, kp f12, kp f13, kp f14, kp f15, kp f16, fun h => h.elim (fun e => absurd e (by decide)) (fun h => ⟨Or.inr (f17 h).1, (f17 h).2⟩), fun h => h.elim (fun e => absurd e (by decide)) (fun h => ⟨Or.inr (f18 h).1, (f18 h).2⟩), fun h => h.elim (fun e => absurd e (by decide)) (fun h => ⟨Or.inr (f19 h).1, (f19 h).2⟩), fun h => h.elim (fun e => absurd e (by decide)) (fun h => ⟨Or.inr (f20 h).1, (f20 h).2⟩), fun h => h.elim (fun e => absurd e (by decide)) (fun h => ⟨Or.inr (f21 h).1, (f21 h).2⟩)⟩
            · -- 6
              refine slot_step rfl rfl (fun az hs K hK => ?_)
              have hK : Shut _ := hK
              have e0 := hs.get 0
              rw [r0] at e0
              go_simp
              exact hK.out _ _ ⟨vwz, Lz, r8, r0, r9, hbz, kp f0, kp f1, kp f2, kp f3, kp f4, kp f5, fun _ => rfl, kp f7, kp f8, kp f9, kp f10, kp f11, kp f12, kp f13, kp f14, kp f15, kp f16, fun h => h.elim (fun e => absurd e (by decide)) (fun h => ⟨Or.inr (f17 h).1, (f17 h).2⟩), fun h => h.elim (fun e => absurd e (by decide)) (fun h => ⟨Or.inr (f18 h).1, (f18 h).2⟩), fun h => h.elim (fun e => absurd e (by decide)) (fun h => ⟨Or.inr (f19 h).1, (f19 h).2⟩), fun h => h.elim (fun e => absurd e (by decide)) (fun h => ⟨Or.inr (f20 h).1, (f20 h).2⟩), fun h => h.elim (fun e => absurd e (by decide)) (fun h => ⟨Or.inr (f21 h).1, (f21 h).2⟩)⟩
            · -- 7
              refine slot_step rfl rfl (fun az hs K hK => ?_)
              have hK : Shut _ := hK
              have e9 := hs.get 9
              rw [r9] at e9
              go_simp
              exact hK.out _ _ ⟨vwz, Lz, r8, r0, r9, hbz, kp f0, kp f1, kp f2, kp f3, kp f4, kp f5, kp f6, fun _ => rfl, kp f8, kp f9, kp f10, kp f11, kp f12, kp f13, kp f14, kp f15, kp f16, fun h => h.elim (fun e => absurd e (by decide)) (fun h => ⟨Or.inr (f17 h).1, (f17 h).2⟩), fun h => h.elim (fun e => absurd e (by decide)) (fun h => ⟨Or.inr (f18 h).1, (f18 h).2⟩), fun h => h.elim (fun e => absurd e (by decide)) (fun h => ⟨Or.inr (f19 h).1, (f19 h).2⟩), fun h => h.elim (fun e => absurd e (by decide)) (fun h => ⟨Or.inr (f20 h).1, (f20 h).2⟩), fun h => h.elim (fun e => absurd e (by decide)) (fun h => ⟨Or.inr (f21 h).1, (f21 h).2⟩)⟩
            · -- 8
              have d6 := f6 (hd' 6 (by kernel_rfl))
              have d7 := f7 (hd' 7 (by kernel_rfl))
              refine slot_step rfl rfl (fun az hs K hK => ?_)
              have hK : Shut _ := hK
              have e50 := hs.get 50
              rw [d6] at e50
              have e51 := hs.get 51
              rw [d7] at e51
              go_simp
              exact hK.out _ _ ⟨vwz, Lz, r8, r0, r9, hbz, kp f0, kp f1, kp f2, kp f3, kp f4, kp f5, kp f6, kp f7, fun _ => rfl, kp f9, kp f10, kp f11, kp f12, kp f13, kp f14, kp f15, kp f16, fun h => h.elim (fun e => absurd e (by decide)) (fun h => ⟨Or.inr (f17 h).1, (f17 h).2⟩), fun h => h.elim (fun e => absurd e (by decide)) (fun h => ⟨Or.inr (f18 h).1, (f18 h).2⟩), fun h => h.elim (fun e => absurd e (by decide)) (fun h => ⟨Or.inr (f19 h).1, (f19 h).2⟩), fun h => h.elim (fun e => absurd e (by decide)) (fun h => ⟨Or.inr (f20 h).1, (f20 h).2⟩), fun h => h.elim (fun e => absurd e (by decide)) (fun h => ⟨Or.inr (f21 h).1, (f21 h).2⟩)⟩
            · -- 9
              have d8 := f8 (hd' 8 (by kernel_rfl))
              refine slot_step rfl rfl (fun az hs K hK => ?_)
              have hK : Shut _ := hK
              have e52 := hs.get 52
              rw [d8] at e52
              go_simp
              exact hK.out _ _ ⟨vwz, Lz, r8, r0, r9, hbz, kp f0, kp f1, kp f2, kp f3, kp f4, kp f5, kp f6, kp f7, kp f8, fun _ => rfl, kp f10, kp f11, kp f12, kp f13, kp f14, kp f15, kp f16, fun h => h.elim (fun e => absurd e (by decide)) (fun h => ⟨Or.inr (f17 h).1, (f17 h).2⟩), fun h => h.elim (fun e => absurd e (by decide)) (fun h => ⟨Or.inr (f18 h).1, (f18 h).2⟩), fun h => h.elim (fun e => absurd e (by decide)) (fun h => ⟨Or.inr (f19 h).1, (f19 h).2⟩), fun h => h.elim (fun e => absurd e (by decide)) (fun h => ⟨Or.inr (f20 h).1, (f20 h).2⟩), fun h => h.elim (fun e => absurd e (by decide)) (fun h => ⟨Or.inr (f21 h).1, (f21 h).2⟩)⟩
            · -- 10
              have d9 := f9 (hd' 9 (by kernel_rfl))
              refine slot_step rfl rfl (fun az hs K hK => ?_)
              have hK : Shut _ := hK
              have cz := keepCell hbz c1
              have e53 := hs.get 53
              rw [d9] at e53
              go_simp
              exact hK.out _ _ ⟨vwz, Lz, r8, r0, r9, hbz, kp f0, kp f1, kp f2, kp f3, kp f4, kp f5, kp f6, kp f7, kp f8, kp f9, fun _ => rfl, kp f11, kp f12, kp f13, kp f14, kp f15, kp f16, fun h => h.elim (fun e => absurd e (by decide)) (fun h => ⟨Or.inr (f17 h).1, (f17 h).2⟩), fun h => h.elim (fun e => absurd e (by decide)) (fun h => ⟨Or.inr (f18 h).1, (f18 h).2⟩), fun h => h.elim (fun e => absurd e (by decide)) (fun h => ⟨Or.inr (f19 h).1, (f19 h).2⟩), fun h => h.elim (fun e => absurd e (by decide)) (fun h => ⟨Or.inr (f20 h).1, (f20 h).2⟩), fun h => h.elim (fun e => absurd e (by decide)) (fun h => ⟨Or.inr (f21 h).1, (f21 h).2⟩)⟩
            · -- 11
              refine slot_step rfl rfl (fun az hs K hK => ?_)
              have hK : Shut _ := hK
              have e0 := hs.get 0
              rw [r0] at e0
              go_simp
              exact hK.out _ _ ⟨vwz, Lz, r8, r0, r9, hbz, kp f0, kp f1, kp f2, kp f3, kp f4, kp f5, kp f6, kp f7, kp f8, kp f9, kp f10, fun _ => rfl, kp f12, kp f13, kp f14, kp f15, kp f16, fun h => h.elim (fun e => absurd e (by decide)) (fun h => ⟨Or.inr (f17 h).1, (f17 h).2⟩), fun h => h.elim (fun e => absurd e (by decide)) (fun h => ⟨Or.inr (f18 h).1, (f18 h).2⟩), fun h => h.elim (fun e => absurd e (by decide)) (fun h => ⟨Or.inr (f19 h).1, (f19 h).2⟩), fun h => h.elim (fun e => absurd e (by decide)) (fun h => ⟨Or.inr (f20 h).1, (f20 h).2⟩), fun h => h.elim (fun e => absurd e (by decide)) (fun h => ⟨Or.inr (f21 h).1, (f21 h).2⟩)⟩
            · -- 12
              refine slot_step rfl rfl (fun az hs K hK => ?_)
              have hK : Shut _ := hK
              have e9 := hs.get 9
              rw [r9] at e9
              go_simp
              exact hK.out _ _ ⟨vwz, Lz, r8, r0, r9, hbz, kp f0, kp f1, kp f2, kp f3, kp f4, kp f5, kp f6, kp f7, kp f8, kp f9, kp f10, kp f11, fun _ => rfl, kp f13, kp f14, kp f15, kp f16, fun h => h.elim (fun e => absurd e (by decide)) (fun h => ⟨Or.inr (f17 h).1, (f17 h).2⟩), fun h => h.elim (fun e => absurd e (by decide)) (fun h => ⟨Or.inr (f18 h).1, (f18 h).2⟩), fun h => h.elim (fun e => absurd e (by decide)) (fun h => ⟨Or.inr (f19 h).1, (f19 h).2⟩), fun h => h.elim (fun e => absurd e (by decide)) (fun h => ⟨Or.inr (f20 h).1, (f20 h).2⟩), fun h => h.elim (fun e => absurd e (by decide)) (fun h => ⟨Or.inr (f21 h).1, (f21 h).2⟩)⟩
            · -- 13
              have d11 := f11 (hd' 11 (by kernel_rfl))
              have d12 := f12 (hd' 12 (by kernel_rfl))
              refine slot_step rfl rfl (fun az hs K hK => ?_)
              have hK : Shut _ := hK
              have e55 := hs.get 55
              rw [d11] at e55
              have e56 := hs.get 56
              rw [d12] at e56
              go_simp
              exact hK.out _ _ ⟨vwz, Lz, r8, r0, r9, hbz, kp f0, kp f1, kp f2, kp f3, kp f4, kp f5, kp f6, kp f7, kp f8, kp f9, kp f10, kp f11, kp f12, fun _ => rfl, kp f14, kp f15, kp f16, fun h => h.elim (fun e => absurd e (by decide)) (fun h => ⟨Or.inr (f17 h).1, (f17 h).2⟩), fun h => h.elim (fun e => absurd e (by decide)) (fun h => ⟨Or.inr (f18 h).1, (f18 h).2⟩), fun h => h.elim (fun e => absurd e (by decide)) (fun h => ⟨Or.inr (f19 h).1, (f19 h).2⟩), fun h => h.elim (fun e => absurd e (by decide)) (fun h => ⟨Or.inr (f20 h).1, (f20 h).2⟩), fun h => h.elim (fun e => absurd e (by decide)) (fun h => ⟨Or.inr (f21 h).1, (f21 h).2⟩)⟩
            · -- 14
              have d13 := f13 (hd' 13 (by kernel_rfl))
              refine slot_step rfl rfl (fun az hs K hK => ?_)
              have hK : Shut _ := hK
              have e57 := hs.get 57
              rw [d13] at e57
              go_simp
              exact hK.out _ _ ⟨vwz, Lz, r8, r0, r9, hbz, kp f0, kp f1, kp f2, kp f3, kp f4, kp f5, kp f6, kp f7, kp f8, kp f9, kp f10, kp f11, kp f12, kp f13, fun _ => rfl, kp f15, kp f16, fun h => h.elim (fun e => absurd e (by decide)) (fun h => ⟨Or.inr (f17 h).1, (f17 h).2⟩), fun h => h.elim (fun e => absurd e (by decide)) (fun h => ⟨Or.inr (f18 h).1, (f18 h).2⟩), fun h => h.elim (fun e => absurd e (by decide)) (fun h => ⟨Or.inr (f19 h).1, (f19 h).2⟩), fun h => h.elim (fun e => absurd e (by decide)) (fun h => ⟨Or.inr (f20 h).1, (f20 h).2⟩), fun h => h.elim (fun e => absurd e (by decide)) (fun h => ⟨Or.inr (f21 h).1, (f21 h).2⟩)⟩
            · -- 15
              have d14 := f14 (hd' 14 (by kernel_rfl))
              refine slot_step rfl rfl (fun az hs K hK => ?_)
              have hK : Shut _ := hK
              have cz := keepCell hbz c2
              have e58 := hs.get 58
              rw [d14] at e58
              go_simp
              exact hK.out _ _ ⟨vwz, Lz, r8, r0, r9, hbz, kp f0, kp f1, kp f2, kp f3, kp f4, kp f5, kp f6, kp f7, kp f8, kp f9, kp f10, kp f11, kp f12, kp f13, kp f14, fun _ => rfl, kp f16, fun h => h.elim (fun e => absurd e (by decide)) (fun h => ⟨Or.inr (f17 h).1, (f17 h).2⟩), fun h => h.elim (fun e => absurd e (by decide)) (fun h => ⟨Or.inr (f18 h).1, (f18 h).2⟩), fun h => h.elim (fun e => absurd e (by decide)) (fun h => ⟨Or.inr (f19 h).1, (f19 h).2⟩), fun h => h.elim (fun e => absurd e (by decide)) (fun h => ⟨Or.inr (f20 h).1, (f20 h).2⟩), fun h => h.elim (fun e => absurd e (by decide)) (fun h => ⟨Or.inr (f21 h).1, (f21 h).2⟩)⟩
            · -- 16
              have d0 := f0 (hd' 0 (by kernel_rfl))
              have d5 := f5 (hd' 5 (by kernel_rfl))
              have d10 := f10 (hd' 10 (by kernel_rfl))
              have d15 := f15 (hd' 15 (by kernel_rfl))
              refine slot_step rfl rfl (fun az hs K hK => ?_)
              have hK : Shut _ := hK
              have hbw := hP.out.bel.trans (hbz.mono hP.out.bel.size)
              have e44 := hs.get 44
              rw [d0] at e44
              have e49 := hs.get 49
              rw [d5] at e49
              have e54 := hs.get 54
              rw [d10] at e54
              have e59 := hs.get 59
              rw [d15] at e59
              go_wp2_with (go_at_call 46; refine (ref_Add' w.heap.size vw Lw ls ls2 b x.c.A x.c.n x.c.c kc.c kc.d x.i.A x.i.n x.i.c kc.i wz (hP.out.rw.step hbz) hbw.size hLw hgood.out (hkv.out.c.below hbw (Nat.le_refl _)) (by omega) (hkv.out.i.below hbw (Nat.le_refl _)) (by omega) hab.out hls2.out).mono ?_; rintro e wy ⟨vy, Ly, rfl, hRy, hbs, hloc⟩)
              exact ⟨vy, Ly, r8, r0, r9, hbz.trans (hbs.mono hbz.size), kp f0, kp f1, kp f2, kp f3, kp f4, kp f5, kp f6, kp f7, kp f8, kp f9, kp f10, kp f11, kp f12, kp f13, kp f14, kp f15, fun _ => ⟨rfl, hRy, fun q h => (hloc q h).imp id (fun h => Nat.le_trans hbz.size h)⟩, fun h => h.elim (fun e => absurd e (by decide)) (fun h => absurd (f17 h).1 hn), fun h => h.elim (fun e => absurd e (by decide)) (fun h => absurd (f17 (f18 h).1).1 hn), fun h => h.elim (fun e => absurd e (by decide)) (fun h => absurd (f17 (f19 h).1).1 hn), fun h => h.elim (fun e => absurd e (by decide)) (fun h => absurd (f17 (f18 (f20 h).1).1).1 hn), fun h => h.elim (fun e => absurd e (by decide)) (fun h => absurd (f17 (f19 (f21 h).1).1).1 hn)⟩
            · -- 17
              have d16 := f16 (hd' 16 (by kernel_rfl))
              refine slot_step rfl rfl (fun az hs K hK => ?_)
              have hK : Shut _ := hK
              have e60 := hs.get 60
              rw [d16.1] at e60
              go_simp
              exact hK.out _ _ ⟨vwz, Lz, r8, r0, r9, hbz, kp f0, kp f1, kp f2, kp f3, kp f4, kp f5, kp f6, kp f7, kp f8, kp f9, kp f10, kp f11, kp f12, kp f13, kp f14, kp f15, kp f16, fun _ => ⟨Or.inr (hd' 16 (by kernel_rfl)), rfl⟩, fun h => h.elim (fun e => absurd e (by decide)) (fun h => ⟨Or.inr (f18 h).1, (f18 h).2⟩), fun h => h.elim (fun e => absurd e (by decide)) (fun h => ⟨Or.inr (f19 h).1, (f19 h).2⟩), fun h => h.elim (fun e => absurd e (by decide)) (fun h => ⟨Or.inr (f20 h).1, (f20 h).2⟩), fun h => h.elim (fun e => absurd e (by decide)) (fun h => ⟨Or.inr (f21 h).1, (f21 h).2⟩)⟩
            · -- 18
              have d17 := f17 (hd' 17 (by kernel_rfl))
              refine slot_step rfl rfl (fun az hs K hK => ?_)
              have hK : Shut _ := hK
              have e43 := hs.get 43
              rw [d17.2] at e43
              go_simp
              exact hK.out _ _ ⟨vwz, Lz, r8, r0, r9, hbz, kp f0, kp f1, kp f2, kp f3, kp f4, kp f5, kp f6, kp f7, kp f8, kp f9, kp f10, kp f11, kp f12, kp f13, kp f14, kp f15, kp f16, fun h => h.elim (fun e => absurd e (by decide)) (fun h => ⟨Or.inr (f17 h).1, (f17 h).2⟩), fun _ => ⟨Or.inr (hd' 17 (by kernel_rfl)), rfl⟩, fun h => h.elim (fun e => absurd e (by decide)) (fun h => ⟨Or.inr (f19 h).1, (f19 h).2⟩), fun h => h.elim (fun e => absurd e (by decide)) (fun h => ⟨Or.inr (f20 h).1, (f20 h).2⟩), fun h => h.elim (fun e => absurd e (by decide)) (fun h => ⟨Or.inr (f21 h).1, (f21 h).2⟩)⟩
            · -- 19
              have d17 := f17 (hd' 17 (by kernel_rfl))
              refine slot_step rfl rfl (fun az hs K hK => ?_)
              have hK : Shut _ := hK
              have e43 := hs.get 43
              rw [d17.2] at e43
              go_simp
              exact hK.out _ _ ⟨vwz, Lz, r8, r0, r9, hbz, kp f0, kp f1, kp f2, kp f3, kp f4, kp f5, kp f6, kp f7, kp f8, kp f9, kp f10, kp f11, kp f12, kp f13, kp f14, kp f15, kp f16, fun h => h.elim (fun e => absurd e (by decide)) (fun h => ⟨Or.inr (f17 h).1, (f17 h).2⟩), fun h => h.elim (fun e => absurd e (by decide)) (fun h => ⟨Or.inr (f18 h).1, (f18 h).2⟩), fun _ => ⟨Or.inr (hd' 17 (by kernel_rfl)), rfl⟩, fun h => h.elim (fun e => absurd e (by decide)) (fun h => ⟨Or.inr (f20 h).1, (f20 h).2⟩), fun h => h.elim (fun e => absurd e (by decide)) (fun h => ⟨Or.inr (f21 h).1, (f21 h).2⟩)⟩
            · -- 20
              have d18 := f18 (hd' 18 (by kernel_rfl))
              refine slot_step rfl rfl (fun az hs K hK => ?_)
              have hK : Shut _ := hK
              have e61 := hs.get 61
              rw [d18.2] at e61
              go_simp
              exact hK.out _ _ ⟨vwz, Lz, r8, r0, r9, hbz, kp f0, kp f1, kp f2, kp f3, kp f4, kp f5, kp f6, kp f7, kp f8, kp f9, kp f10, kp f11, kp f12, kp f13, kp f14, kp f15, kp f16, fun h => h.elim (fun e => absurd e (by decide)) (fun h => ⟨Or.inr (f17 h).1, (f17 h).2⟩), fun h => h.elim (fun e => absurd e (by decide)) (fun h => ⟨Or.inr (f18 h).1, (f18 h).2⟩), fun h => h.elim (fun e => absurd e (by decide)) (fun h => ⟨Or.inr (f19 h).1, (f19 h).2⟩), fun _ => ⟨Or.inr (hd' 18 (by kernel_rfl)), rfl⟩, fun h => h.elim (fun e => absurd e (by decide)) (fun h => ⟨Or.inr (f21 h).1, (f21 h).2⟩)⟩
            · -- 21
              have d19 := f19 (hd' 19 (by kernel_rfl))
              refine slot_step rfl rfl (fun az hs K hK => ?_)
              have hK : Shut _ := hK
              have e62 := hs.get 62
              rw [d19.2] at e62
              go_simp
              exact hK.out _ _ ⟨vwz, Lz, r8, r0, r9, hbz, kp f0, kp f1, kp f2, kp f3, kp f4, kp f5, kp f6, kp f7, kp f8, kp f9, kp f10, kp f11, kp f12, kp f13, kp f14, kp f15, kp f16, fun h => h.elim (fun e => absurd e (by decide)) (fun h => ⟨Or.inr (f17 h).1, (f17 h).2⟩), fun h => h.elim (fun e => absurd e (by decide)) (fun h => ⟨Or.inr (f18 h).1, (f18 h).2⟩), fun h => h.elim (fun e => absurd e (by decide)) (fun h => ⟨Or.inr (f19 h).1, (f19 h).2⟩), fun h => h.elim (fun e => absurd e (by decide)) (fun h => ⟨Or.inr (f20 h).1, (f20 h).2⟩), fun _ => ⟨Or.inr (hd' 19 (by kernel_rfl)), rfl⟩⟩
          case hdone =>
            rintro D g wz hD ⟨vwz, Lz, r8, r0, r9, hbz, f0, f1, f2, f3, f4, f5, f6, f7, f8, f9, f10, f11, f12, f13, f14, f15, f16, f17, f18, f19, f20, f21⟩
            simp only [setAll, List.foldl_cons, List.foldl_nil, List.setIfInBounds_toArray, List.set_cons_succ, List.set_cons_zero]
            have hS := hide (hP.out.st.step hbz)
            have hbe := hide (hP.out.bel.trans (hbz.mono hP.out.bel.size))
            obtain ⟨_, hR2, hloc⟩ := f16 (hD 16)
            obtain ⟨_, e10⟩ := f20 (hD 20)
            obtain ⟨_, e11⟩ := f21 (hD 21)
            rw [e10, e11]
            have hvl := hide (show ∀ g, vwz.val.ownBlock = some g → g < wz.heap.size from fun g h => (hR2.own.lt g h).2)
            have hne3 : ∀ g, vwz.val.ownBlock = some g → V.ownBlock ≠ some g := fun g h e => by
              rcases hloc g h with h1 | h1
              · exact hP.out.ne g h1 e
              · have := (hP.out.st.row.lt g e).2; omega
            replace hR2 := hide hR2
            replace hne3 := hide hne3
            clear hloc hP hbz f0 f1 f2 f3 f4 f5 f6 f7 f8 f9 f10 f11 f12 f13 f14 f15 f16 f17 f18 f19 f20 f21 hD c0 c1 c2 r0 r8 r9 e10 e11
            obtain ⟨w3, hw3⟩ : ∃ w3, w3 = wz := ⟨_, rfl⟩
            subst hw3
            obtain ⟨g9, hg9⟩ : ∃ g9, g9 = g := ⟨_, rfl⟩
            subst hg9
            by_cases h5 : k % 5 = 4
            · have h5a : (k : Int) % 5 = 4 := by omega
              go_wp2_with fail
              refine (store_Clone p Lr ls w3 hS.out.keeps hS.out.all.rd hgood.out (by omega)).mono ?_
              rintro e w4 ⟨p2, V2, L2, rfl, hS2, hb4⟩
              have hp2 : w3.heap.size ≤ p2 := hS2.low
              go_wp2_with fail
              refine (store_Add p w.heap.size V Lr ls none 0 0 [] 0 none 0 0 [] w4 (hS.out.step hb4) (Rd.nil _ _) (by decide) (Rd.nil _ _) (by decide) hgood.out (by omega) (.inl rfl) (by have := hbe.out.size; have := hb4.size; omega)).mono ?_
              rintro e w5 ⟨_, _, rfl, _, hf5, _, _⟩
              have hV4 := (hS.out.step hb4).row
              have hp4 := (hS.out.step hb4).cell
              have hpw := hS.out.cell.lt
              have hVw : ∀ g, V.ownBlock = some g → g < w3.heap.size := fun g h => (hS.out.row.lt g h).2
              have hS5 := (hS2.frV hV4 hp4 (by omega) (fun g h e => by have := (hS2.row.lt g h).1; have := hVw g e; omega) hf5).lower hbe.out.size
              have hR5 := (hR2.out.step hb4).frV hV4 hp4 hne3.out hf5
              have hb5 := (hbe.out.trans (hb4.mono hbe.out.size)).trans (hf5.below (B := w.heap.size) (by have := hbe.out.size; have := hb4.size; omega) (fun k h => by
                rcases h with h | h
                · rw [h]; exact hS.out.low
                · exact (hS.out.row.lt k h).1))
              have hne5 : ∀ g, vwz.val.ownBlock = some g → V2.ownBlock ≠ some g := fun g h e => by have := (hS2.row.lt g e).1; have := hvl.out g h; omega
              have hL2 : L2.length ≤ 1000 := by have := hS5.all.1; omega
              clear hS hR2 hbe hne3 hvl hS2 hb4 hf5 hV4 hp4 hpw hVw hp2 h5 h5a hLr
              replace hS5 := hide hS5
              replace hR5 := hide hR5
              replace hb5 := hide hb5
              replace hne5 := hide hne5
              have hLr := hL2
              have c0 := keepCell hb5.out C0.out
              have c1 : w5.cell? ⟨(ad.add (k * 3)).block, (ad.add (k * 3)).off + 1, none⟩ = some (.int .i64 kc.d) := by rw [← hd.out]; exact keepCell hb5.out C1.out
              have c2 := keepCell hb5.out C2.out
              go_wp2
              refine wp_region_slots [74, 75, 76, 77, 78, 79, 80, 81, 82, 83, 84, 85, 86, 87, 13, 14] (fun D g wz => g 0 = .slice (some ad) n c ∧ g 9 = .int .i64 (k : Int) ∧ Below w5.heap.size w5 wz ∧ (D 0 → (∃ q, g 74 = .slice (some ⟨q, 0, none⟩) 0 0 ∧ w5.heap.size ≤ q ∧ Blk wz q 3 #[])) ∧ (D 1 → g 75 = .slice (some ad) n c) ∧ (D 2 → g 76 = .int .i64 (k : Int)) ∧ (D 3 → g 77 = .pointer (some (ad.add (k * 3)))) ∧ (D 4 → g 78 = .pointer (some (ad.add (k * 3)))) ∧ (D 5 → g 79 = x.c.val) ∧ (D 6 → OwnV w5.heap.size 3 (g 80) (ivs kc.c) wz) ∧ (D 7 → (∃ q, g 81 = .slice (some ⟨q, 0, none⟩) 0 0 ∧ w5.heap.size ≤ q ∧ Blk wz q 4 #[])) ∧ (D 8 → g 82 = .slice (some ad) n c) ∧ (D 9 → g 83 = .int .i64 (k : Int)) ∧ (D 10 → g 84 = .pointer (some (ad.add (k * 3)))) ∧ (D 11 → g 85 = .pointer (some ⟨(ad.add (k * 3)).block, (ad.add (k * 3)).off + 2, none⟩)) ∧ (D 12 → g 86 = x.i.val) ∧ (D 13 → OwnV w5.heap.size 4 (g 87) (bvs kc.i) wz) ∧ (D 14 → OwnV w5.heap.size 3 (g 13) (ivs kc.c) wz) ∧ (D 15 → OwnV w5.heap.size 4 (g 14) (bvs kc.i) wz)) (by kernel_rfl) (by kernel_rfl) 240 rfl (by kernel_rfl) ?h0 ?hstep ?hdone
              case h0 => exact ⟨rfl, rfl, Dr.below (Dr.refl w5).drew _, nt0, nt0, nt0, nt0, nt0, nt0, nt0, nt0, nt0, nt0, nt0, nt0, nt0, nt0, nt0, nt0⟩
              case hstep =>
                intro D g wz i hi' hn hd' hI2
                obtain ⟨r0, r9, hbz, f0, f1, f2, f3, f4, f5, f6, f7, f8, f9, f10, f11, f12, f13, f14, f15⟩ := hI2
                have hi' : i < 16 := hi'
                rcases (show i = 0 ∨ i = 1 ∨ i = 2 ∨ i = 3 ∨ i = 4 ∨ i = 5 ∨ i = 6 ∨ i = 7 ∨ i = 8 ∨ i = 9 ∨ i = 10 ∨ i = 11 ∨ i = 12 ∨ i = 13 ∨ i = 14 ∨ i = 15 by omega) with rfl | rfl | rfl | rfl | rfl | rfl | rfl | rfl | rfl | rfl | rfl | rfl | rfl | rfl | rfl | rfl
                · -- 0
                  refine slot_step rfl rfl (fun az hs K hK => ?_)
                  have hK : Shut _ := hK
                  have hbs := (Below.refl wz.heap.size wz).alloc (Nat.le_refl _) (.cells #[] 3)
                  go_simp
                  exact hK.out _ _ ⟨r0, r9, hbz.trans (hbs.mono hbz.size), fun _ => ⟨_, rfl, hbz.size, Blk.new wz 3 #[]⟩, kp f1, kp f2, kp f3, kp f4, kp f5, fun h => h.elim (fun e => absurd e (by decide)) (fun h => (f6 h).step hbs), fun h => h.elim (fun e => absurd e (by decide)) (fun h => by obtain ⟨q, a1, a2, a3⟩ := (f7 h); exact ⟨q, a1, a2, a3.below hbs a3.lt⟩), kp f8, kp f9, kp f10, kp f11, kp f12, fun h => h.elim (fun e => absurd e (by decide)) (fun h => (f13 h).step hbs), fun h => h.elim (fun e => absurd e (by decide)) (fun h => (f14 h).step hbs), fun h => h.elim (fun e => absurd e (by decide)) (fun h => (f15 h).step hbs)⟩
                · -- 1
                  refine slot_step rfl rfl (fun az hs K hK => ?_)
                  have hK : Shut _ := hK
                  have e0 := hs.get 0
                  rw [r0] at e0
                  go_simp
                  exact hK.out _ _ ⟨r0, r9, hbz, kp f0, fun _ => rfl, kp f2, kp f3, kp f4, kp f5, kp f6, kp f7, kp f8, kp f9, kp f10, kp f11, kp f12, kp f13, kp f14, kp f15⟩
                · -- 2
                  refine slot_step rfl rfl (fun az hs K hK => ?_)
                  have hK : Shut _ := hK
                  have e9 := hs.get 9
                  rw [r9] at e9
                  go_simp
                  exact hK.out _ _ ⟨r0, r9, hbz, kp f0, kp f1, fun _ => rfl, kp f3, kp f4, kp f5, kp f6, kp f7, kp f8, kp f9, kp f10, kp f11, kp f12, kp f13, kp f14, kp f15⟩
                · -- 3
                  have d1 := f1 (hd' 1 (by kernel_rfl))
                  have d2 := f2 (hd' 2 (by kernel_rfl))
                  refine slot_step rfl rfl (fun az hs K hK => ?_)
                  have hK : Shut _ := hK
                  have e75 := hs.get 75
                  rw [d1] at e75
                  have e76 := hs.get 76
                  rw [d2] at e76
                  go_simp
                  exact hK.out _ _ ⟨r0, r9, hbz, kp f0, kp f1, kp f2, fun _ => rfl, kp f4, kp f5, kp f6, kp f7, kp f8, kp f9, kp f10, kp f11, kp f12, kp f13, kp f14, kp f15⟩
                · -- 4
                  have d3 := f3 (hd' 3 (by kernel_rfl))
                  refine slot_step rfl rfl (fun az hs K hK => ?_)
                  have hK : Shut _ := hK
                  have e77 := hs.get 77
                  rw [d3] at e77
                  go_simp
                  exact hK.out _ _ ⟨r0, r9, hbz, kp f0, kp f1, kp f2, kp f3, fun _ => rfl, kp f5, kp f6, kp f7, kp f8, kp f9, kp f10, kp f11, kp f12, kp f13, kp f14, kp f15⟩
                · -- 5
                  have d4 := f4 (hd' 4 (by kernel_rfl))
                  refine slot_step rfl rfl (fun az hs K hK => ?_)
                  have hK : Shut _ := hK
                  have cz := keepCell hbz c0
                  have e78 := hs.get 78
                  rw [d4] at e78
                  go_simp
                  exact hK.out _ _ ⟨r0, r9, hbz, kp f0, kp f1, kp f2, kp f3, kp f4, fun _ => rfl, kp f6, kp f7, kp f8, kp f9, kp f10, kp f11, kp f12, kp f13, kp f14, kp f15⟩
                · -- 6
                  have d0 := f0 (hd' 0 (by kernel_rfl))
                  have d5 := f5 (hd' 5 (by kernel_rfl))
                  refine slot_step rfl rfl (fun az hs K hK => ?_)
                  have hK : Shut _ := hK
                  have e79 := hs.get 79
                  rw [d5] at e79
                  obtain ⟨q, hq1, hq2, hq3⟩ := d0
                  refine oper_append_lit (.tmp 74) (.tmp 79) 40 rfl (by kernel_rfl) k_int rfl (by decide) (hs.eval hq1) (hs.eval d5) hq3 hq2 (rd_rdS (hkv.out.c.below (hb5.out.trans (hbz.mono hb5.out.size)) (Nat.le_refl _))) (by intro u hu; obtain ⟨y, _, rfl⟩ := List.mem_map.1 hu; rfl) (by unfold maxLen; omega) (by omega) ?_
                  intro v1 w1 hown hbs
                  exact hK.out _ _ ⟨r0, r9, hbz.trans (hbs.mono hbz.size), fun h => h.elim (fun e => absurd e (by decide)) (fun h => by obtain ⟨q, a1, a2, a3⟩ := (f0 h); exact ⟨q, a1, a2, a3.below hbs a3.lt⟩), kp f1, kp f2, kp f3, kp f4, kp f5, fun _ => OwnV.of hown, fun h => h.elim (fun e => absurd e (by decide)) (fun h => by obtain ⟨q, a1, a2, a3⟩ := (f7 h); exact ⟨q, a1, a2, a3.below hbs a3.lt⟩), kp f8, kp f9, kp f10, kp f11, kp f12, fun h => h.elim (fun e => absurd e (by decide)) (fun h => (f13 h).step hbs), fun h => h.elim (fun e => absurd e (by decide)) (fun h => (f14 h).step hbs), fun h => h.elim (fun e => absurd e (by decide)) (fun h => (f15 h).step hbs)⟩
                · -- 7
                  refine slot_step rfl rfl (fun az hs K hK => ?_)
                  have hK : Shut _ := hK
                  have hbs := (Below.refl wz.heap.size wz).alloc (Nat.le_refl _) (.cells #[] 4)
                  go_simp
                  exact hK.out _ _ ⟨r0, r9, hbz.trans (hbs.mono hbz.size), fun h => h.elim (fun e => absurd e (by decide)) (fun h => by obtain ⟨q, a1, a2, a3⟩ := (f0 h); exact ⟨q, a1, a2, a3.below hbs a3.lt⟩), kp f1, kp f2, kp f3, kp f4, kp f5, fun h => h.elim (fun e => absurd e (by decide)) (fun h => (f6 h).step hbs), fun _ => ⟨_, rfl, hbz.size, Blk.new wz 4 #[]⟩, kp f8, kp f9, kp f10, kp f11, kp f12, fun h => h.elim (fun e => absurd e (by decide)) (fun h => (f13 h).step hbs), fun h => h.elim (fun e => absurd e (by decide)) (fun h => (f14 h).step hbs), fun h => h.elim (fun e => absurd e (by decide)) (fun h => (f15 h).step hbs)⟩
                · -- 8
                  refine slot_step rfl rfl (fun az hs K hK => ?_)
                  have hK : Shut _ := hK
                  have e0 := hs.get 0
                  rw [r0] at e0
                  go_simp
                  exact hK.out _ _ ⟨r0, r9, hbz, kp f0, kp f1, kp f2, kp f3, kp f4, kp f5, kp f6, kp f7, fun _ => rfl, kp f9, kp f10, kp f11, kp f12, kp f13, kp f14, kp f15⟩
                · -- 9
                  refine slot_step rfl rfl (fun az hs K hK => ?_)
                  have hK : Shut _ := hK
                  have e9 := hs.get 9
                  rw [r9] at e9
                  go_simp
                  exact hK.out _ _ ⟨r0, r9, hbz, kp f0, kp f1, kp f2, kp f3, kp f4, kp f5, kp f6, kp f7, kp f8, fun _ => rfl, kp f10, kp f11, kp f12, kp f13, kp f14, kp f15⟩
                · -- 10
                  have d8 := f8 (hd' 8 (by kernel_rfl))
                  have d9 := f9 (hd' 9 (by kernel_rfl))
                  refine slot_step rfl rfl (fun az hs K hK => ?_)
                  have hK : Shut _ := hK
                  have e82 := hs.get 82
                  rw [d8] at e82
                  have e83 := hs.get 83
                  rw [d9] at e83
                  go_simp
                  exact hK.out _ _ ⟨r0, r9, hbz, kp f0, kp f1, kp f2, kp f3, kp f4, kp f5, kp f6, kp f7, kp f8, kp f9, fun _ => rfl, kp f11, kp f12, kp f13, kp f14, kp f15⟩
                · -- 11
                  have d10 := f10 (hd' 10 (by kernel_rfl))
                  refine slot_step rfl rfl (fun az hs K hK => ?_)
                  have hK : Shut _ := hK
                  have e84 := hs.get 84
                  rw [d10] at e84
                  go_simp
                  exact hK.out _ _ ⟨r0, r9, hbz, kp f0, kp f1, kp f2, kp f3, kp f4, kp f5, kp f6, kp f7, kp f8, kp f9, kp f10, fun _ => rfl, kp f12, kp f13, kp f14, kp f15⟩
                · -- 12
                  have d11 := f11 (hd' 11 (by kernel_rfl))
                  refine slot_step rfl rfl (fun az hs K hK => ?_)
                  have hK : Shut _ := hK
                  have cz := keepCell hbz c2
                  have e85 := hs.get 85
                  rw [d11] at e85
                  go_simp
                  exact hK.out _ _ ⟨r0, r9, hbz, kp f0, kp f1, kp f2, kp f3, kp f4, kp f5, kp f6, kp f7, kp f8, kp f9, kp f10, kp f11, fun _ => rfl, kp f13, kp f14, kp f15⟩
                · -- 13
                  have d7 := f7 (hd' 7 (by kernel_rfl))
                  have d12 := f12 (hd' 12 (by kernel_rfl))
                  refine slot_step rfl rfl (fun az hs K hK => ?_)
                  have hK : Shut _ := hK
                  have e86 := hs.get 86
                  rw [d12] at e86
                  obtain ⟨q, hq1, hq2, hq3⟩ := d7
                  refine oper_append_lit (.tmp 81) (.tmp 86) 59 rfl (by kernel_rfl) k_bool rfl (by decide) (hs.eval hq1) (hs.eval d12) hq3 hq2 (rd_rdS (hkv.out.i.below (hb5.out.trans (hbz.mono hb5.out.size)) (Nat.le_refl _))) (by intro u hu; obtain ⟨y, _, rfl⟩ := List.mem_map.1 hu; rfl) (by unfold maxLen; omega) (by omega) ?_
                  intro v1 w1 hown hbs
                  exact hK.out _ _ ⟨r0, r9, hbz.trans (hbs.mono hbz.size), fun h => h.elim (fun e => absurd e (by decide)) (fun h => by obtain ⟨q, a1, a2, a3⟩ := (f0 h); exact ⟨q, a1, a2, a3.below hbs a3.lt⟩), kp f1, kp f2, kp f3, kp f4, kp f5, fun h => h.elim (fun e => absurd e (by decide)) (fun h => (f6 h).step hbs), fun h => h.elim (fun e => absurd e (by decide)) (fun h => by obtain ⟨q, a1, a2, a3⟩ := (f7 h); exact ⟨q, a1, a2, a3.below hbs a3.lt⟩), kp f8, kp f9, kp f10, kp f11, kp f12, fun _ => OwnV.of hown, fun h => h.elim (fun e => absurd e (by decide)) (fun h => (f14 h).step hbs), fun h => h.elim (fun e => absurd e (by decide)) (fun h => (f15 h).step hbs)⟩
                · -- 14
                  have d6 := f6 (hd' 6 (by kernel_rfl))
                  refine slot_step rfl rfl (fun az hs K hK => ?_)
                  have hK : Shut _ := hK
                  obtain ⟨s80, h80, o80⟩ := d6
                  have e80 := hs.get 80
                  rw [h80] at e80
                  go_simp
                  exact hK.out _ _ ⟨r0, r9, hbz, kp f0, kp f1, kp f2, kp f3, kp f4, kp f5, kp f6, kp f7, kp f8, kp f9, kp f10, kp f11, kp f12, kp f13, fun _ => ⟨s80, rfl, o80⟩, kp f15⟩
                · -- 15
                  have d13 := f13 (hd' 13 (by kernel_rfl))
                  refine slot_step rfl rfl (fun az hs K hK => ?_)
                  have hK : Shut _ := hK
                  obtain ⟨s87, h87, o87⟩ := d13
                  have e87 := hs.get 87
                  rw [h87] at e87
                  go_simp
                  exact hK.out _ _ ⟨r0, r9, hbz, kp f0, kp f1, kp f2, kp f3, kp f4, kp f5, kp f6, kp f7, kp f8, kp f9, kp f10, kp f11, kp f12, kp f13, kp f14, fun _ => ⟨s87, rfl, o87⟩⟩
              case hdone =>
                rintro D g wz hD ⟨r0, r9, hbz, f0, f1, f2, f3, f4, f5, f6, f7, f8, f9, f10, f11, f12, f13, f14, f15⟩
                simp only [setAll, List.foldl_cons, List.foldl_nil, List.setIfInBounds_toArray, List.set_cons_succ, List.set_cons_zero]
                obtain ⟨A13, n13, c13, h13, hn13, o13⟩ := (f14 (hD 14)).words
                obtain ⟨A14, n14, c14, h14, hn14, o14⟩ := (f15 (hD 15)).words
                rw [h13, h14]
                have hS6 := hide (hS5.out.step hbz)
                have hR6 := hide (hR5.out.step hbz)
                have hb6 := hide (hb5.out.trans (hbz.mono hb5.out.size))
                have hw56 := hbz.size
                replace o13 := hide o13
                replace o14 := hide o14
                have hm13 : n13 ≤ 1000 := by rw [hn13]; simp [ivs]; have := hkv.out.c.len; have := hx30.1; omega
                have hm14 : n14 ≤ 1000 := by rw [hn14]; simp [bvs]; have := hkv.out.i.len; have := hx30.2; omega
                replace hn13 := hide hn13
                replace hn14 := hide hn14
                clear hbz f0 f1 f2 f3 f4 f5 f6 f7 f8 f9 f10 f11 f12 f13 f14 f15 r0 r9 c0 c1 c2 h13 h14 hD
                obtain ⟨w6, hw6⟩ : ∃ w6, w6 = wz := ⟨_, rfl⟩
                subst hw6
                obtain ⟨g17, hg17⟩ : ∃ g17, g17 = g := ⟨_, rfl⟩
                subst hg17
                have c1 : w6.cell? ⟨(ad.add (k * 3)).block, (ad.add (k * 3)).off + 1, none⟩ = some (.int .i64 kc.d) := by rw [← hd.out]; exact keepCell hb6.out C1.out
                go_wp2_with fail
                refine (store_Add p2 w.heap.size V2 L2 ls A13 n13 c13 kc.c kc.d A14 n14 c14 kc.i w6 hS6.out (rd_own (s := ⟨A13, n13, c13⟩) o13.out) hm13 (rd_own (s := ⟨A14, n14, c14⟩) o14.out) (by omega) hgood.out (by omega) (.inr (fun a ha => ⟨fun e => blk_ne o14.out hS6.out.cell (by decide) (by rw [own_addr o14.out ha, e]), fun e => own_ne o14.out hS6.out.row (by decide) _ (own_addr o14.out ha) e⟩)) hb6.out.size).mono ?_
                rintro e w7 ⟨V7, L7, rfl, hS7, hf7, hm7, hl7⟩
                rw [hab.out]
                rw [hls2.out] at hS7
                have hR7 := hide (hR6.out.frV hS6.out.row hS6.out.cell hne5.out hf7)
                have hO13 := hide (hf7.own o13.out (fun g hg e => by rcases e with rfl | e; exact blk_ne o13.out hS6.out.cell (by decide) hg; exact own_ne o13.out hS6.out.row (by decide) g hg e))
                have hO14 := hide (hf7.own o14.out (fun g hg e => by rcases e with rfl | e; exact blk_ne o14.out hS6.out.cell (by decide) hg; exact own_ne o14.out hS6.out.row (by decide) g hg e))
                have hb7 := hide (hb6.out.trans (hf7.below (B := w.heap.size) hb6.out.size (fun k h => by
                  rcases h with h | h
                  · rw [h]; exact hS6.out.low
                  · exact (hS6.out.row.lt k h).1)))
                have hSb : ∀ k, S2 A13 A14 k → w5.heap.size ≤ k ∧ k < w6.heap.size := fun k h => by
                  rcases h with ⟨a, ha, rfl⟩ | ⟨a, ha, rfl⟩
                  · exact o13.out.lt _ (own_addr o13.out ha)
                  · exact o14.out.lt _ (own_addr o14.out ha)
                have hE7 := hide (offE_new (S := S2 A13 A14) (N := w5.heap.size) (M := w6.heap.size) (L := L7) (fun x hx => by
                  rcases hm7 x hx with h | h
                  · exact .inl (hS5.out.all.lt h)
                  · exact .inr h) (fun k h => (hSb k h).1) (fun k h => (hSb k h).2))
                have hEz := hide (offE_new (S := S2 A13 A14) (N := w5.heap.size) (M := w6.heap.size) (L := Lz) (fun x hx => .inl (hR5.out.all.lt hx)) (fun k h => (hSb k h).1) (fun k h => (hSb k h).2))
                have hV7 := hide (show ∀ g, V7.ownBlock = some g → ¬ S2 A13 A14 g from fun g h e => by
                  have h1 := hSb g e
                  rcases hl7 g h with h2 | h2
                  · have := (hS5.out.row.lt g h2).2; omega
                  · omega)
                have hvz7 := hide (show ∀ g, vwz.val.ownBlock = some g → ¬ S2 A13 A14 g from fun g h e => by have h1 := hSb g e; have := (hR5.out.own.lt g h).2; omega)
                have hp7 := hide (show ¬ S2 A13 A14 p2 from fun e => by have h1 := hSb _ e; have := hS5.out.cell.lt; omega)
                have hne7 := hide (show ∀ g, vwz.val.ownBlock = some g → V7.ownBlock ≠ some g from fun g h e => by
                  rcases hl7 g e with h2 | h2
                  · exact hne5.out g h h2
                  · have := (hR6.out.own.lt g h).2; omega)
                have hlow7 := hide (fun k h => Nat.le_trans hb5.out.size (hSb k h).1)
                have hL7 : L7.length = ls2.length := hS7.all.1
                have hvn : vwz.n = ls2.length := by rw [row_n hR7.out.own]; exact hR7.out.all.1
                have hN2 : ls2.length ≤ 1000 := by have := hI2.out.len; omega
                replace hS7 := hide hS7
                have hbb : (b != b) = false := by simp
                clear hm7 hl7 hSb hf7 hS5 hR5 hb5 hne5 hS6 hR6 hb6 o13 o14 c1 hw56 hLr
                obtain ⟨N2, hNN⟩ : ∃ N2, ls2.length = N2 := ⟨_, rfl⟩
                rw [hNN] at hL7 hvn hN2
                replace hNN := hide hNN
                have hvn2 := hide hvn
                go_wp2_with fail
                refine (store_Len (some ⟨p2, 0, none⟩) L7 w7.heap.size w7 hS7.out.keeps (by omega)).mono ?_
                rintro e w' ⟨rfl, rfl⟩
                rw [hL7]
                replace hL7 := hide hL7
                have hNI : (N2 : Int) ≤ 1000 := by omega
                go_wp2
                go_loopw [15] (fun i wr => ∃ (j : Nat) (xs : List Value), j ≤ n13 ∧ i = .int .i64 j ∧ Hid (wr.ownsRow w5.heap.size 3 1 (.slice A13 n13 c13) n13 xs) ∧ Hid (Fr (S2 A13 none) w7 wr)) (fun i _ => n13 - (intOf i).toNat)
                case atStart => exact ⟨0, _, Nat.zero_le _, rfl, hO13, Fr.refl _ _⟩
                case round =>
                  obtain ⟨j, xs, hj, rfl, hO, hF⟩ := hrel
                  have hjI : (j : Int) ≤ 1000 := by omega
                  by_cases hltj : j < n13
                  · obtain ⟨q, u, rfl, cq, fq, _, hqb⟩ := own_place hO.out hltj
                    have hO' := hide (own_set hO.out j (.int .i64 9))
                    have hF' := hide (fr_set (j := j) (u := .int .i64 9) hF.out (q := q) (.inl ⟨_, rfl, rfl⟩))
                    clear hO hF
                    go_wp2
                    go_roundw
                    case rel => exact ⟨j + 1, _, hltj, by go_num, hO', hF'⟩
                    case measure => simp [intOf]; omega
                  · have hjn : j = n13 := by omega
                    subst hjn
                    have hO14' := hide (hF.out.own hO14.out (fun g hg e => by
                      rcases e with ⟨a, ha, rfl⟩ | ⟨a, ha, _⟩
                      · exact own_ne hO14.out hO13.out (by decide) _ hg (own_addr hO13.out ha)
                      · cases ha))
                    have hF2 := hide (hF.out.more (S' := S2 A13 A14) (fun k _ h => by
                      rcases h with h | ⟨a, ha, _⟩
                      · exact .inl h
                      · cases ha))
                    clear hO hF hO14 hO13 hj hjI hltj
                    go_wp2
                    go_loopw [16] (fun i wr => ∃ (j : Nat) (bl : List Bool), j ≤ n14 ∧ i = .int .i64 j ∧ Hid (wr.ownsRow w5.heap.size 4 1 (.slice A14 n14 c14) n14 (bvs bl)) ∧ Hid (Fr (S2 A13 A14) w7 wr)) (fun i _ => n14 - (intOf i).toNat)
                    case atStart => exact ⟨0, _, Nat.zero_le _, rfl, hO14', hF2⟩
                    case round =>
                      obtain ⟨j, bl, hj, rfl, hO, hF⟩ := hrel
                      have hjI : (j : Int) ≤ 1000 := by omega
                      by_cases hltj : j < n14
                      · obtain ⟨q, u, rfl, cq, fq, hu, hqb⟩ := own_place hO.out hltj
                        obtain ⟨v, rfl⟩ := bvs_at hu
                        have hO' := hide (own_set hO.out j (.bool (!v)))
                        rw [bvs_set] at hO'
                        have hF' := hide (fr_set (j := j) (u := .bool (!v)) hF.out (q := q) (.inr ⟨_, rfl, rfl⟩))
                        clear hO hF hu
                        go_wp2
                        go_roundw
                        case rel => exact ⟨j + 1, _, hltj, by go_num, hO', hF'⟩
                        case measure => simp [intOf]; omega
                      · have hjn : j = n14 := by omega
                        subst hjn
                        obtain ⟨w8, hw8⟩ : ∃ w8, w8 = wr := ⟨_, rfl⟩
                        subst hw8
                        have hS8 := hide (hS7.out.frE hF.out hp7.out hV7.out hE7.out)
                        have hR8 := hide (hR7.out.frE hF.out hvz7.out hEz.out)
                        have hb8 := hide (hb7.out.trans (hF.out.below (B := w.heap.size) hb7.out.size (fun k h => hlow7.out k h)))
                        clear hO hF hO14' hF2 hS7 hR7 hb7 hp7 hV7 hE7 hEz hvz7 hlow7 hj hjI hltj
                        have hNL := hNN.out
                        have hbst := hide (best_is ls2 s N2)
                        cases hob : bestN ls2 s (List.range N2) with
                        | none =>
                          have hF28 := ref_Find vwz.A vwz.n vwz.c Lz ls2 B m cd s w8 (rd_ofK hR8.out.own) hR8.out.all.rd (by have := hvn2.out; omega) hI2.out.good (hrs.below hb8.out (Nat.le_refl _)) (by omega)
                          rw [show bestN ls2 s (List.range vwz.n) = none by rw [hvn2.out]; exact hob, show atZ none = -1 from rfl] at hF28
                          have hF29 := fun w9 hS9 hk9 hr9 => store_Find (some ⟨p2, 0, none⟩) L7 ls2 s B m cd w9 hS9 hk9 hr9 (by omega) hI2.out.good (by have := hL7.out; omega)
                          rw [hL7.out, hob] at hF29
                          have hdep := hide (show depthL ls2 s = -1 by unfold depthL; rw [hNL, hob])
                          go_wp2_with fail
                          refine hF28.mono ?_
                          rintro e w9 ⟨rfl, hd9⟩
                          have hS9 := hide (hS8.out.step (hd9.below _))
                          have hR9 := hide (hR8.out.step (hd9.below _))
                          have hb9 := hide (hb8.out.trans (hd9.below _))
                          clear hd9 hS8 hR8 hb8 hF28
                          go_wp2_with fail
                          refine (hF29 w9 hS9.out.keeps hS9.out.all.rd (hrs.below hb9.out (Nat.le_refl _))).mono ?_
                          rintro e w10 ⟨y, rfl, hyd, hyc, hyi, hb10⟩
                          simp only [Option.map_none, Option.isSome_none]
                          have hy10 : KvO w9.heap.size w10 y zKc := ⟨hyd, hyc, hyi⟩
                          have hba := (Below.refl w10.heap.size w10).alloc (Nat.le_refl _) (.cells y.cells 66)
                          have bx := hide (Blk.new w10 66 y.cells)
                          have hyc30 : y.c.n ≤ 1000000 := by have := hy10.rd.c.len; have := Nat.zero_le 0; have h9 : zKc.c.length = 0 := rfl; omega
                          have hyi30 : y.i.n ≤ 1000000 := by have := hy10.rd.i.len; have := Nat.zero_le 0; have h9 : zKc.i.length = 0 := rfl; omega
                          obtain ⟨w11, hw11⟩ : ∃ w11, w10.alloc (.cells y.cells 66) = w11 := ⟨_, rfl⟩
                          rw [hw11] at hba bx
                          have hS11 := hide ((hS9.out.step hb10).step hba)
                          have hR11 := hide ((hR9.out.step hb10).step hba)
                          have hb11 := hide ((hb9.out.trans (hb10.mono hb9.out.size)).trans (hba.mono (Nat.le_trans hb9.out.size hb10.size)))
                          have hy11 := hide (hy10.step hba)
                          clear hyd hyc hyi hb10 hba hS9 hR9 hb9 hy10 hF29
                          clear hvn hNL
                          go_wp2
                          refine wp_region_slots [138, 139, 140, 141, 142, 143, 144, 145, 146, 147, 148, 149, 150, 151, 152, 153, 154, 155, 156, 157, 158, 159, 160, 161, 162, 163, 164, 165, 166, 167, 168, 169, 170, 171, 172, 173, 174, 175, 176, 177, 178, 179, 180] (fun D g wz => g 1 = .slice B m cd ∧ g 7 = .pointer (some ⟨p2, 0, none⟩) ∧ g 17 = .int .i64 (-1) ∧ g 18 = .pointer (some ⟨w10.heap.size, 0, none⟩) ∧ g 19 = .bool false ∧ Below w11.heap.size w11 wz ∧ (D 0 → g 138 = .bool false) ∧ (D 1 → g 139 = .int .i64 (-1)) ∧ (D 2 → g 140 = .bool false) ∧ (D 3 → g 141 = .bool false) ∧ (D 4 → g 142 = .bool false) ∧ (D 5 → g 143 = .bool false) ∧ (D 6 → g 144 = .bool false) ∧ (D 7 → g 145 = undef) ∧ (D 8 → g 146 = undef) ∧ (D 9 → g 147 = undef) ∧ (D 10 → g 148 = undef) ∧ (D 11 → g 149 = undef) ∧ (D 12 → g 150 = undef) ∧ (D 13 → g 151 = undef) ∧ (D 14 → g 152 = undef) ∧ (D 15 → g 153 = undef) ∧ (D 16 → g 154 = undef) ∧ (D 17 → g 155 = undef) ∧ (D 18 → g 156 = undef) ∧ (D 19 → g 157 = undef) ∧ (D 20 → g 158 = undef) ∧ (D 21 → g 159 = undef) ∧ (D 22 → g 160 = undef) ∧ (D 23 → g 161 = undef) ∧ (D 24 → g 162 = undef) ∧ (D 25 → g 163 = .bool false) ∧ (D 26 → g 164 = .bool false) ∧ (D 27 → g 165 = .bool false) ∧ (D 28 → g 166 = .bool false) ∧ (D 29 → g 167 = .bool true) ∧ (D 30 → g 168 = .bool true) ∧ (D 31 → g 169 = .agg y.cells) ∧ (D 32 → g 170 = .agg zKv.cells) ∧ (D 33 → g 171 = .bool true) ∧ (D 34 → g 172 = .bool false) ∧ (D 35 → g 173 = .bool false) ∧ (D 36 → g 174 = .pointer (some ⟨p2, 0, none⟩)) ∧ (D 37 → g 175 = .slice B m cd) ∧ (D 38 → g 176 = .int .i64 (-1)) ∧ (D 39 → g 177 = .bool false) ∧ (D 40 → g 178 = .bool false) ∧ (D 41 → g 179 = .bool false) ∧ (D 42 → g 180 = .bool false)) (by kernel_rfl) (by kernel_rfl) 240 rfl (by kernel_rfl) ?h0 ?hstep ?hdone
                          case h0 => exact ⟨rfl, rfl, rfl, rfl, rfl, Dr.below (Dr.refl w11).drew _, nt0, nt0, nt0, nt0, nt0, nt0, nt0, nt0, nt0, nt0, nt0, nt0, nt0, nt0, nt0, nt0, nt0, nt0, nt0, nt0, nt0, nt0, nt0, nt0, nt0, nt0, nt0, nt0, nt0, nt0, nt0, nt0, nt0, nt0, nt0, nt0, nt0, nt0, nt0, nt0, nt0, nt0, nt0⟩
                          case hstep =>
                            intro D g wz i hi' hn hd' hI2
                            obtain ⟨r1, r7, r17, r18, r19, hbz, f0, f1, f2, f3, f4, f5, f6, f7, f8, f9, f10, f11, f12, f13, f14, f15, f16, f17, f18, f19, f20, f21, f22, f23, f24, f25, f26, f27, f28, f29, f30, f31, f32, f33, f34, f35, f36, f37, f38, f39, f40, f41, f42⟩ := hI2
                            have hi' : i < 43 := hi'
                            rcases (show i = 0 ∨ i = 1 ∨ i = 2 ∨ i = 3 ∨ i = 4 ∨ i = 5 ∨ i = 6 ∨ i = 7 ∨ i = 8 ∨ i = 9 ∨ i = 10 ∨ i = 11 ∨ i = 12 ∨ i = 13 ∨ i = 14 ∨ i = 15 ∨ i = 16 ∨ i = 17 ∨ i = 18 ∨ i = 19 ∨ i = 20 ∨ i = 21 ∨ i = 22 ∨ i = 23 ∨ i = 24 ∨ i = 25 ∨ i = 26 ∨ i = 27 ∨ i = 28 ∨ i = 29 ∨ i = 30 ∨ i = 31 ∨ i = 32 ∨ i = 33 ∨ i = 34 ∨ i = 35 ∨ i = 36 ∨ i = 37 ∨ i = 38 ∨ i = 39 ∨ i = 40 ∨ i = 41 ∨ i = 42 by omega) with rfl | rfl | rfl | rfl | rfl | rfl | rfl | rfl | rfl | rfl | rfl | rfl | rfl | rfl | rfl | rfl | rfl | rfl | rfl | rfl | rfl | rfl | rfl | rfl | rfl | rfl | rfl | rfl | rfl | rfl | rfl | rfl | rfl | rfl | rfl | rfl | rfl | rfl | rfl | rfl | rfl | rfl | rfl
                            · -- 0
                              refine slot_step rfl rfl (fun az hs K hK => ?_)
                              have hK : Shut _ := hK
                              have e19 := hs.get 19
                              rw [r19] at e19
                              go_simp
                              exact hK.out _ _ ⟨r1, r7, r17, r18, r19, hbz, fun _ => rfl, kp f1, kp f2, kp f3, kp f4, kp f5, kp f6, kp f7, kp f8, kp f9, kp f10, kp f11, kp f12, kp f13, kp f14, kp f15, kp f16, kp f17, kp f18, kp f19, kp f20, kp f21, kp f22, kp f23, kp f24, kp f25, kp f26, kp f27, kp f28, kp f29, kp f30, kp f31, kp f32, kp f33, kp f34, kp f35, kp f36, kp f37, kp f38, kp f39, kp f40, kp f41, kp f42⟩
                            · -- 1
                              refine slot_step rfl rfl (fun az hs K hK => ?_)
                              have hK : Shut _ := hK
                              have e17 := hs.get 17
                              rw [r17] at e17
                              go_simp
                              exact hK.out _ _ ⟨r1, r7, r17, r18, r19, hbz, kp f0, fun _ => rfl, kp f2, kp f3, kp f4, kp f5, kp f6, kp f7, kp f8, kp f9, kp f10, kp f11, kp f12, kp f13, kp f14, kp f15, kp f16, kp f17, kp f18, kp f19, kp f20, kp f21, kp f22, kp f23, kp f24, kp f25, kp f26, kp f27, kp f28, kp f29, kp f30, kp f31, kp f32, kp f33, kp f34, kp f35, kp f36, kp f37, kp f38, kp f39, kp f40, kp f41, kp f42⟩
                            · -- 2
                              have d1 := f1 (hd' 1 (by kernel_rfl))
                              refine slot_step rfl rfl (fun az hs K hK => ?_)
                              have hK : Shut _ := hK
                              have e139 := hs.get 139
                              rw [d1] at e139
                              go_simp
                              exact hK.out _ _ ⟨r1, r7, r17, r18, r19, hbz, kp f0, kp f1, fun _ => rfl, kp f3, kp f4, kp f5, kp f6, kp f7, kp f8, kp f9, kp f10, kp f11, kp f12, kp f13, kp f14, kp f15, kp f16, kp f17, kp f18, kp f19, kp f20, kp f21, kp f22, kp f23, kp f24, kp f25, kp f26, kp f27, kp f28, kp f29, kp f30, kp f31, kp f32, kp f33, kp f34, kp f35, kp f36, kp f37, kp f38, kp f39, kp f40, kp f41, kp f42⟩
                            · -- 3
                              have d0 := f0 (hd' 0 (by kernel_rfl))
                              have d2 := f2 (hd' 2 (by kernel_rfl))
                              refine slot_step rfl rfl (fun az hs K hK => ?_)
                              have hK : Shut _ := hK
                              have e138 := hs.get 138
                              rw [d0] at e138
                              have e140 := hs.get 140
                              rw [d2] at e140
                              go_simp
                              exact hK.out _ _ ⟨r1, r7, r17, r18, r19, hbz, kp f0, kp f1, kp f2, fun _ => rfl, kp f4, kp f5, kp f6, kp f7, kp f8, kp f9, kp f10, kp f11, kp f12, kp f13, kp f14, kp f15, kp f16, kp f17, kp f18, kp f19, kp f20, kp f21, kp f22, kp f23, kp f24, kp f25, kp f26, kp f27, kp f28, kp f29, kp f30, kp f31, kp f32, kp f33, kp f34, kp f35, kp f36, kp f37, kp f38, kp f39, kp f40, kp f41, kp f42⟩
                            · -- 4
                              have d3 := f3 (hd' 3 (by kernel_rfl))
                              refine slot_step rfl rfl (fun az hs K hK => ?_)
                              have hK : Shut _ := hK
                              have e141 := hs.get 141
                              rw [d3] at e141
                              go_simp
                              exact hK.out _ _ ⟨r1, r7, r17, r18, r19, hbz, kp f0, kp f1, kp f2, kp f3, fun _ => rfl, kp f5, kp f6, kp f7, kp f8, kp f9, kp f10, kp f11, kp f12, kp f13, kp f14, kp f15, kp f16, kp f17, kp f18, kp f19, kp f20, kp f21, kp f22, kp f23, kp f24, kp f25, kp f26, kp f27, kp f28, kp f29, kp f30, kp f31, kp f32, kp f33, kp f34, kp f35, kp f36, kp f37, kp f38, kp f39, kp f40, kp f41, kp f42⟩
                            · -- 5
                              have d4 := f4 (hd' 4 (by kernel_rfl))
                              refine slot_step_yes (j := 4) (d := 142) rfl rfl rfl (by decide) (d4) (fun az hs K hK => ?_)
                              have hK : Shut _ := hK
                              have e142 := hs.get 142
                              rw [d4] at e142
                              have e19 := hs.get 19
                              rw [r19] at e19
                              go_simp
                              exact hK.out _ _ ⟨r1, r7, r17, r18, r19, hbz, kp f0, kp f1, kp f2, kp f3, kp f4, fun _ => rfl, kp f6, kp f7, kp f8, kp f9, kp f10, kp f11, kp f12, kp f13, kp f14, kp f15, kp f16, kp f17, kp f18, kp f19, kp f20, kp f21, kp f22, kp f23, kp f24, kp f25, kp f26, kp f27, kp f28, kp f29, kp f30, kp f31, kp f32, kp f33, kp f34, kp f35, kp f36, kp f37, kp f38, kp f39, kp f40, kp f41, kp f42⟩
                            · -- 6
                              have d4 := f4 (hd' 4 (by kernel_rfl))
                              have d5 := f5 (hd' 5 (by kernel_rfl))
                              refine slot_step_yes (j := 4) (d := 142) rfl rfl rfl (by decide) (d4) (fun az hs K hK => ?_)
                              have hK : Shut _ := hK
                              have e142 := hs.get 142
                              rw [d4] at e142
                              have e143 := hs.get 143
                              rw [d5] at e143
                              go_simp
                              exact hK.out _ _ ⟨r1, r7, r17, r18, r19, hbz, kp f0, kp f1, kp f2, kp f3, kp f4, kp f5, fun _ => rfl, kp f7, kp f8, kp f9, kp f10, kp f11, kp f12, kp f13, kp f14, kp f15, kp f16, kp f17, kp f18, kp f19, kp f20, kp f21, kp f22, kp f23, kp f24, kp f25, kp f26, kp f27, kp f28, kp f29, kp f30, kp f31, kp f32, kp f33, kp f34, kp f35, kp f36, kp f37, kp f38, kp f39, kp f40, kp f41, kp f42⟩
                            · -- 7
                              have d6 := f6 (hd' 6 (by kernel_rfl))
                              exact slot_step_no (j := 6) (d := 144) rfl rfl rfl (by decide) (d6) ⟨r1, r7, r17, r18, r19, hbz, kp f0, kp f1, kp f2, kp f3, kp f4, kp f5, kp f6, fun _ => rfl, kp f8, kp f9, kp f10, kp f11, kp f12, kp f13, kp f14, kp f15, kp f16, kp f17, kp f18, kp f19, kp f20, kp f21, kp f22, kp f23, kp f24, kp f25, kp f26, kp f27, kp f28, kp f29, kp f30, kp f31, kp f32, kp f33, kp f34, kp f35, kp f36, kp f37, kp f38, kp f39, kp f40, kp f41, kp f42⟩
                            · -- 8
                              have d6 := f6 (hd' 6 (by kernel_rfl))
                              exact slot_step_no (j := 6) (d := 144) rfl rfl rfl (by decide) (d6) ⟨r1, r7, r17, r18, r19, hbz, kp f0, kp f1, kp f2, kp f3, kp f4, kp f5, kp f6, kp f7, fun _ => rfl, kp f9, kp f10, kp f11, kp f12, kp f13, kp f14, kp f15, kp f16, kp f17, kp f18, kp f19, kp f20, kp f21, kp f22, kp f23, kp f24, kp f25, kp f26, kp f27, kp f28, kp f29, kp f30, kp f31, kp f32, kp f33, kp f34, kp f35, kp f36, kp f37, kp f38, kp f39, kp f40, kp f41, kp f42⟩
                            · -- 9
                              have d6 := f6 (hd' 6 (by kernel_rfl))
                              exact slot_step_no (j := 6) (d := 144) rfl rfl rfl (by decide) (d6) ⟨r1, r7, r17, r18, r19, hbz, kp f0, kp f1, kp f2, kp f3, kp f4, kp f5, kp f6, kp f7, kp f8, fun _ => rfl, kp f10, kp f11, kp f12, kp f13, kp f14, kp f15, kp f16, kp f17, kp f18, kp f19, kp f20, kp f21, kp f22, kp f23, kp f24, kp f25, kp f26, kp f27, kp f28, kp f29, kp f30, kp f31, kp f32, kp f33, kp f34, kp f35, kp f36, kp f37, kp f38, kp f39, kp f40, kp f41, kp f42⟩
                            · -- 10
                              have d6 := f6 (hd' 6 (by kernel_rfl))
                              exact slot_step_no (j := 6) (d := 144) rfl rfl rfl (by decide) (d6) ⟨r1, r7, r17, r18, r19, hbz, kp f0, kp f1, kp f2, kp f3, kp f4, kp f5, kp f6, kp f7, kp f8, kp f9, fun _ => rfl, kp f11, kp f12, kp f13, kp f14, kp f15, kp f16, kp f17, kp f18, kp f19, kp f20, kp f21, kp f22, kp f23, kp f24, kp f25, kp f26, kp f27, kp f28, kp f29, kp f30, kp f31, kp f32, kp f33, kp f34, kp f35, kp f36, kp f37, kp f38, kp f39, kp f40, kp f41, kp f42⟩
                            · -- 11
                              have d6 := f6 (hd' 6 (by kernel_rfl))
                              exact slot_step_no (j := 6) (d := 144) rfl rfl rfl (by decide) (d6) ⟨r1, r7, r17, r18, r19, hbz, kp f0, kp f1, kp f2, kp f3, kp f4, kp f5, kp f6, kp f7, kp f8, kp f9, kp f10, fun _ => rfl, kp f12, kp f13, kp f14, kp f15, kp f16, kp f17, kp f18, kp f19, kp f20, kp f21, kp f22, kp f23, kp f24, kp f25, kp f26, kp f27, kp f28, kp f29, kp f30, kp f31, kp f32, kp f33, kp f34, kp f35, kp f36, kp f37, kp f38, kp f39, kp f40, kp f41, kp f42⟩
                            · -- 12
                              have d6 := f6 (hd' 6 (by kernel_rfl))
                              exact slot_step_no (j := 6) (d := 144) rfl rfl rfl (by decide) (d6) ⟨r1, r7, r17, r18, r19, hbz, kp f0, kp f1, kp f2, kp f3, kp f4, kp f5, kp f6, kp f7, kp f8, kp f9, kp f10, kp f11, fun _ => rfl, kp f13, kp f14, kp f15, kp f16, kp f17, kp f18, kp f19, kp f20, kp f21, kp f22, kp f23, kp f24, kp f25, kp f26, kp f27, kp f28, kp f29, kp f30, kp f31, kp f32, kp f33, kp f34, kp f35, kp f36, kp f37, kp f38, kp f39, kp f40, kp f41, kp f42⟩
                            · -- 13
                              have d6 := f6 (hd' 6 (by kernel_rfl))
                              exact slot_step_no (j := 6) (d := 144) rfl rfl rfl (by decide) (d6) ⟨r1, r7, r17, r18, r19, hbz, kp f0, kp f1, kp f2, kp f3, kp f4, kp f5, kp f6, kp f7, kp f8, kp f9, kp f10, kp f11, kp f12, fun _ => rfl, kp f14, kp f15, kp f16, kp f17, kp f18, kp f19, kp f20, kp f21, kp f22, kp f23, kp f24, kp f25, kp f26, kp f27, kp f28, kp f29, kp f30, kp f31, kp f32, kp f33, kp f34, kp f35, kp f36, kp f37, kp f38, kp f39, kp f40, kp f41, kp f42⟩
                            · -- 14
                              have d6 := f6 (hd' 6 (by kernel_rfl))
                              exact slot_step_no (j := 6) (d := 144) rfl rfl rfl (by decide) (d6) ⟨r1, r7, r17, r18, r19, hbz, kp f0, kp f1, kp f2, kp f3, kp f4, kp f5, kp f6, kp f7, kp f8, kp f9, kp f10, kp f11, kp f12, kp f13, fun _ => rfl, kp f15, kp f16, kp f17, kp f18, kp f19, kp f20, kp f21, kp f22, kp f23, kp f24, kp f25, kp f26, kp f27, kp f28, kp f29, kp f30, kp f31, kp f32, kp f33, kp f34, kp f35, kp f36, kp f37, kp f38, kp f39, kp f40, kp f41, kp f42⟩
                            · -- 15
                              have d14 := f14 (hd' 14 (by kernel_rfl))
                              exact slot_step_nou (j := 14) (d := 152) rfl rfl rfl (by decide) (d14) ⟨r1, r7, r17, r18, r19, hbz, kp f0, kp f1, kp f2, kp f3, kp f4, kp f5, kp f6, kp f7, kp f8, kp f9, kp f10, kp f11, kp f12, kp f13, kp f14, fun _ => rfl, kp f16, kp f17, kp f18, kp f19, kp f20, kp f21, kp f22, kp f23, kp f24, kp f25, kp f26, kp f27, kp f28, kp f29, kp f30, kp f31, kp f32, kp f33, kp f34, kp f35, kp f36, kp f37, kp f38, kp f39, kp f40, kp f41, kp f42⟩
                            · -- 16
                              have d14 := f14 (hd' 14 (by kernel_rfl))
                              exact slot_step_nou (j := 14) (d := 152) rfl rfl rfl (by decide) (d14) ⟨r1, r7, r17, r18, r19, hbz, kp f0, kp f1, kp f2, kp f3, kp f4, kp f5, kp f6, kp f7, kp f8, kp f9, kp f10, kp f11, kp f12, kp f13, kp f14, kp f15, fun _ => rfl, kp f17, kp f18, kp f19, kp f20, kp f21, kp f22, kp f23, kp f24, kp f25, kp f26, kp f27, kp f28, kp f29, kp f30, kp f31, kp f32, kp f33, kp f34, kp f35, kp f36, kp f37, kp f38, kp f39, kp f40, kp f41, kp f42⟩
                            · -- 17
                              have d14 := f14 (hd' 14 (by kernel_rfl))
                              exact slot_step_nou (j := 14) (d := 152) rfl rfl rfl (by decide) (d14) ⟨r1, r7, r17, r18, r19, hbz, kp f0, kp f1, kp f2, kp f3, kp f4, kp f5, kp f6, kp f7, kp f8, kp f9, kp f10, kp f11, kp f12, kp f13, kp f14, kp f15, kp f16, fun _ => rfl, kp f18, kp f19, kp f20, kp f21, kp f22, kp f23, kp f24, kp f25, kp f26, kp f27, kp f28, kp f29, kp f30, kp f31, kp f32, kp f33, kp f34, kp f35, kp f36, kp f37, kp f38, kp f39, kp f40, kp f41, kp f42⟩
                            · -- 18
                              have d14 := f14 (hd' 14 (by kernel_rfl))
                              exact slot_step_nou (j := 14) (d := 152) rfl rfl rfl (by decide) (d14) ⟨r1, r7, r17, r18, r19, hbz, kp f0, kp f1, kp f2, kp f3, kp f4, kp f5, kp f6, kp f7, kp f8, kp f9, kp f10, kp f11, kp f12, kp f13, kp f14, kp f15, kp f16, kp f17, fun _ => rfl, kp f19, kp f20, kp f21, kp f22, kp f23, kp f24, kp f25, kp f26, kp f27, kp f28, kp f29, kp f30, kp f31, kp f32, kp f33, kp f34, kp f35, kp f36, kp f37, kp f38, kp f39, kp f40, kp f41, kp f42⟩
                            · -- 19
                              have d14 := f14 (hd' 14 (by kernel_rfl))
                              exact slot_step_nou (j := 14) (d := 152) rfl rfl rfl (by decide) (d14) ⟨r1, r7, r17, r18, r19, hbz, kp f0, kp f1, kp f2, kp f3, kp f4, kp f5, kp f6, kp f7, kp f8, kp f9, kp f10, kp f11, kp f12, kp f13, kp f14, kp f15, kp f16, kp f17, kp f18, fun _ => rfl, kp f20, kp f21, kp f22, kp f23, kp f24, kp f25, kp f26, kp f27, kp f28, kp f29, kp f30, kp f31, kp f32, kp f33, kp f34, kp f35, kp f36, kp f37, kp f38, kp f39, kp f40, kp f41, kp f42⟩
                            · -- 20
                              have d14 := f14 (hd' 14 (by kernel_rfl))
                              exact slot_step_nou (j := 14) (d := 152) rfl rfl rfl (by decide) (d14) ⟨r1, r7, r17, r18, r19, hbz, kp f0, kp f1, kp f2, kp f3, kp f4, kp f5, kp f6, kp f7, kp f8, kp f9, kp f10, kp f11, kp f12, kp f13, kp f14, kp f15, kp f16, kp f17, kp f18, kp f19, fun _ => rfl, kp f21, kp f22, kp f23, kp f24, kp f25, kp f26, kp f27, kp f28, kp f29, kp f30, kp f31, kp f32, kp f33, kp f34, kp f35, kp f36, kp f37, kp f38, kp f39, kp f40, kp f41, kp f42⟩
                            · -- 21
                              have d14 := f14 (hd' 14 (by kernel_rfl))
                              exact slot_step_nou (j := 14) (d := 152) rfl rfl rfl (by decide) (d14) ⟨r1, r7, r17, r18, r19, hbz, kp f0, kp f1, kp f2, kp f3, kp f4, kp f5, kp f6, kp f7, kp f8, kp f9, kp f10, kp f11, kp f12, kp f13, kp f14, kp f15, kp f16, kp f17, kp f18, kp f19, kp f20, fun _ => rfl, kp f22, kp f23, kp f24, kp f25, kp f26, kp f27, kp f28, kp f29, kp f30, kp f31, kp f32, kp f33, kp f34, kp f35, kp f36, kp f37, kp f38, kp f39, kp f40, kp f41, kp f42⟩
                            · -- 22
                              have d14 := f14 (hd' 14 (by kernel_rfl))
                              exact slot_step_nou (j := 14) (d := 152) rfl rfl rfl (by decide) (d14) ⟨r1, r7, r17, r18, r19, hbz, kp f0, kp f1, kp f2, kp f3, kp f4, kp f5, kp f6, kp f7, kp f8, kp f9, kp f10, kp f11, kp f12, kp f13, kp f14, kp f15, kp f16, kp f17, kp f18, kp f19, kp f20, kp f21, fun _ => rfl, kp f23, kp f24, kp f25, kp f26, kp f27, kp f28, kp f29, kp f30, kp f31, kp f32, kp f33, kp f34, kp f35, kp f36, kp f37, kp f38, kp f39, kp f40, kp f41, kp f42⟩
                            · -- 23
                              have d14 := f14 (hd' 14 (by kernel_rfl))
                              exact slot_step_nou (j := 14) (d := 152) rfl rfl rfl (by decide) (d14) ⟨r1, r7, r17, r18, r19, hbz, kp f0, kp f1, kp f2, kp f3, kp f4, kp f5, kp f6, kp f7, kp f8, kp f9, kp f10, kp f11, kp f12, kp f13, kp f14, kp f15, kp f16, kp f17, kp f18, kp f19, kp f20, kp f21, kp f22, fun _ => rfl, kp f24, kp f25, kp f26, kp f27, kp f28, kp f29, kp f30, kp f31, kp f32, kp f33, kp f34, kp f35, kp f36, kp f37, kp f38, kp f39, kp f40, kp f41, kp f42⟩
                            · -- 24
                              have d6 := f6 (hd' 6 (by kernel_rfl))
                              exact slot_step_no (j := 6) (d := 144) rfl rfl rfl (by decide) (d6) ⟨r1, r7, r17, r18, r19, hbz, kp f0, kp f1, kp f2, kp f3, kp f4, kp f5, kp f6, kp f7, kp f8, kp f9, kp f10, kp f11, kp f12, kp f13, kp f14, kp f15, kp f16, kp f17, kp f18, kp f19, kp f20, kp f21, kp f22, kp f23, fun _ => rfl, kp f25, kp f26, kp f27, kp f28, kp f29, kp f30, kp f31, kp f32, kp f33, kp f34, kp f35, kp f36, kp f37, kp f38, kp f39, kp f40, kp f41, kp f42⟩
                            · -- 25
                              have d4 := f4 (hd' 4 (by kernel_rfl))
                              have d6 := f6 (hd' 6 (by kernel_rfl))
                              have d24 := f24 (hd' 24 (by kernel_rfl))
                              refine slot_step_yes (j := 4) (d := 142) rfl rfl rfl (by decide) (d4) (fun az hs K hK => ?_)
                              have hK : Shut _ := hK
                              have e142 := hs.get 142
                              rw [d4] at e142
                              have e144 := hs.get 144
                              rw [d6] at e144
                              have e162 := hs.get 162
                              rw [d24] at e162
                              go_simp
                              exact hK.out _ _ ⟨r1, r7, r17, r18, r19, hbz, kp f0, kp f1, kp f2, kp f3, kp f4, kp f5, kp f6, kp f7, kp f8, kp f9, kp f10, kp f11, kp f12, kp f13, kp f14, kp f15, kp f16, kp f17, kp f18, kp f19, kp f20, kp f21, kp f22, kp f23, kp f24, fun _ => rfl, kp f26, kp f27, kp f28, kp f29, kp f30, kp f31, kp f32, kp f33, kp f34, kp f35, kp f36, kp f37, kp f38, kp f39, kp f40, kp f41, kp f42⟩
                            · -- 26
                              have d4 := f4 (hd' 4 (by kernel_rfl))
                              have d25 := f25 (hd' 25 (by kernel_rfl))
                              refine slot_step rfl rfl (fun az hs K hK => ?_)
                              have hK : Shut _ := hK
                              have e142 := hs.get 142
                              rw [d4] at e142
                              have e163 := hs.get 163
                              rw [d25] at e163
                              go_simp
                              exact hK.out _ _ ⟨r1, r7, r17, r18, r19, hbz, kp f0, kp f1, kp f2, kp f3, kp f4, kp f5, kp f6, kp f7, kp f8, kp f9, kp f10, kp f11, kp f12, kp f13, kp f14, kp f15, kp f16, kp f17, kp f18, kp f19, kp f20, kp f21, kp f22, kp f23, kp f24, kp f25, fun _ => rfl, kp f27, kp f28, kp f29, kp f30, kp f31, kp f32, kp f33, kp f34, kp f35, kp f36, kp f37, kp f38, kp f39, kp f40, kp f41, kp f42⟩
                            · -- 27
                              have d26 := f26 (hd' 26 (by kernel_rfl))
                              refine slot_step rfl rfl (fun az hs K hK => ?_)
                              have hK : Shut _ := hK
                              have e164 := hs.get 164
                              rw [d26] at e164
                              go_simp
                              exact hK.out _ _ ⟨r1, r7, r17, r18, r19, hbz, kp f0, kp f1, kp f2, kp f3, kp f4, kp f5, kp f6, kp f7, kp f8, kp f9, kp f10, kp f11, kp f12, kp f13, kp f14, kp f15, kp f16, kp f17, kp f18, kp f19, kp f20, kp f21, kp f22, kp f23, kp f24, kp f25, kp f26, fun _ => rfl, kp f28, kp f29, kp f30, kp f31, kp f32, kp f33, kp f34, kp f35, kp f36, kp f37, kp f38, kp f39, kp f40, kp f41, kp f42⟩
                            · -- 28
                              have d27 := f27 (hd' 27 (by kernel_rfl))
                              refine slot_step_yes (j := 27) (d := 165) rfl rfl rfl (by decide) (d27) (fun az hs K hK => ?_)
                              have hK : Shut _ := hK
                              have e165 := hs.get 165
                              rw [d27] at e165
                              have e19 := hs.get 19
                              rw [r19] at e19
                              go_simp
                              exact hK.out _ _ ⟨r1, r7, r17, r18, r19, hbz, kp f0, kp f1, kp f2, kp f3, kp f4, kp f5, kp f6, kp f7, kp f8, kp f9, kp f10, kp f11, kp f12, kp f13, kp f14, kp f15, kp f16, kp f17, kp f18, kp f19, kp f20, kp f21, kp f22, kp f23, kp f24, kp f25, kp f26, kp f27, fun _ => rfl, kp f29, kp f30, kp f31, kp f32, kp f33, kp f34, kp f35, kp f36, kp f37, kp f38, kp f39, kp f40, kp f41, kp f42⟩
                            · -- 29
                              have d27 := f27 (hd' 27 (by kernel_rfl))
                              have d28 := f28 (hd' 28 (by kernel_rfl))
                              refine slot_step_yes (j := 27) (d := 165) rfl rfl rfl (by decide) (d27) (fun az hs K hK => ?_)
                              have hK : Shut _ := hK
                              have e165 := hs.get 165
                              rw [d27] at e165
                              have e166 := hs.get 166
                              rw [d28] at e166
                              go_simp
                              exact hK.out _ _ ⟨r1, r7, r17, r18, r19, hbz, kp f0, kp f1, kp f2, kp f3, kp f4, kp f5, kp f6, kp f7, kp f8, kp f9, kp f10, kp f11, kp f12, kp f13, kp f14, kp f15, kp f16, kp f17, kp f18, kp f19, kp f20, kp f21, kp f22, kp f23, kp f24, kp f25, kp f26, kp f27, kp f28, fun _ => rfl, kp f30, kp f31, kp f32, kp f33, kp f34, kp f35, kp f36, kp f37, kp f38, kp f39, kp f40, kp f41, kp f42⟩
                            · -- 30
                              have d27 := f27 (hd' 27 (by kernel_rfl))
                              have d29 := f29 (hd' 29 (by kernel_rfl))
                              refine slot_step_yes (j := 27) (d := 165) rfl rfl rfl (by decide) (d27) (fun az hs K hK => ?_)
                              have hK : Shut _ := hK
                              have e165 := hs.get 165
                              rw [d27] at e165
                              have e167 := hs.get 167
                              rw [d29] at e167
                              go_simp
                              exact hK.out _ _ ⟨r1, r7, r17, r18, r19, hbz, kp f0, kp f1, kp f2, kp f3, kp f4, kp f5, kp f6, kp f7, kp f8, kp f9, kp f10, kp f11, kp f12, kp f13, kp f14, kp f15, kp f16, kp f17, kp f18, kp f19, kp f20, kp f21, kp f22, kp f23, kp f24, kp f25, kp f26, kp f27, kp f28, kp f29, fun _ => rfl, kp f31, kp f32, kp f33, kp f34, kp f35, kp f36, kp f37, kp f38, kp f39, kp f40, kp f41, kp f42⟩
                            · -- 31
                              have d30 := f30 (hd' 30 (by kernel_rfl))
                              refine slot_step_yes (j := 30) (d := 168) rfl rfl rfl (by decide) (d30) (fun az hs K hK => ?_)
                              have hK : Shut _ := hK
                              have b0 := keepCell hbz (show w11.cell? ⟨w10.heap.size, 0, none⟩ = some y.c.val from bx.out.cell 0)
                              have b1 := keepCell hbz (show w11.cell? ⟨w10.heap.size, 1, none⟩ = some (.int .i64 y.d) from bx.out.cell 1)
                              have b2 := keepCell hbz (show w11.cell? ⟨w10.heap.size, 2, none⟩ = some y.i.val from bx.out.cell 2)
                              have e168 := hs.get 168
                              rw [d30] at e168
                              have e18 := hs.get 18
                              rw [r18] at e18
                              go_simp
                              exact hK.out _ _ ⟨r1, r7, r17, r18, r19, hbz, kp f0, kp f1, kp f2, kp f3, kp f4, kp f5, kp f6, kp f7, kp f8, kp f9, kp f10, kp f11, kp f12, kp f13, kp f14, kp f15, kp f16, kp f17, kp f18, kp f19, kp f20, kp f21, kp f22, kp f23, kp f24, kp f25, kp f26, kp f27, kp f28, kp f29, kp f30, fun _ => rfl, kp f32, kp f33, kp f34, kp f35, kp f36, kp f37, kp f38, kp f39, kp f40, kp f41, kp f42⟩
                            · -- 32
                              have d30 := f30 (hd' 30 (by kernel_rfl))
                              refine slot_step_yes (j := 30) (d := 168) rfl rfl rfl (by decide) (d30) (fun az hs K hK => ?_)
                              have hK : Shut _ := hK
                              have e168 := hs.get 168
                              rw [d30] at e168
                              go_simp
                              exact hK.out _ _ ⟨r1, r7, r17, r18, r19, hbz, kp f0, kp f1, kp f2, kp f3, kp f4, kp f5, kp f6, kp f7, kp f8, kp f9, kp f10, kp f11, kp f12, kp f13, kp f14, kp f15, kp f16, kp f17, kp f18, kp f19, kp f20, kp f21, kp f22, kp f23, kp f24, kp f25, kp f26, kp f27, kp f28, kp f29, kp f30, kp f31, fun _ => rfl, kp f33, kp f34, kp f35, kp f36, kp f37, kp f38, kp f39, kp f40, kp f41, kp f42⟩
                            · -- 33
                              have d30 := f30 (hd' 30 (by kernel_rfl))
                              have d31 := f31 (hd' 31 (by kernel_rfl))
                              have d32 := f32 (hd' 32 (by kernel_rfl))
                              refine slot_step_yes (j := 30) (d := 168) rfl rfl rfl (by decide) (d30) (fun az hs K hK => ?_)
                              have hK : Shut _ := hK
                              have e168 := hs.get 168
                              rw [d30] at e168
                              have e169 := hs.get 169
                              rw [d31] at e169
                              have e170 := hs.get 170
                              rw [d32] at e170
                              go_wp2_with (go_at_call 51; refine (same_is y zKv (zKc) (zKc) wz (hy11.out.rd.below hbz (Nat.le_refl _)) ⟨rfl, Rd.nil _ _, Rd.nil _ _⟩ hyc30 hyi30 (sameK_self _)).mono ?_; rintro e wy ⟨rfl, hbs⟩)
                              exact ⟨r1, r7, r17, r18, r19, hbz.trans (hbs.mono hbz.size), kp f0, kp f1, kp f2, kp f3, kp f4, kp f5, kp f6, kp f7, kp f8, kp f9, kp f10, kp f11, kp f12, kp f13, kp f14, kp f15, kp f16, kp f17, kp f18, kp f19, kp f20, kp f21, kp f22, kp f23, kp f24, kp f25, kp f26, kp f27, kp f28, kp f29, kp f30, kp f31, kp f32, fun _ => rfl, kp f34, kp f35, kp f36, kp f37, kp f38, kp f39, kp f40, kp f41, kp f42⟩
                            · -- 34
                              have d30 := f30 (hd' 30 (by kernel_rfl))
                              have d33 := f33 (hd' 33 (by kernel_rfl))
                              refine slot_step_yes (j := 30) (d := 168) rfl rfl rfl (by decide) (d30) (fun az hs K hK => ?_)
                              have hK : Shut _ := hK
                              have e168 := hs.get 168
                              rw [d30] at e168
                              have e171 := hs.get 171
                              rw [d33] at e171
                              go_simp
                              exact hK.out _ _ ⟨r1, r7, r17, r18, r19, hbz, kp f0, kp f1, kp f2, kp f3, kp f4, kp f5, kp f6, kp f7, kp f8, kp f9, kp f10, kp f11, kp f12, kp f13, kp f14, kp f15, kp f16, kp f17, kp f18, kp f19, kp f20, kp f21, kp f22, kp f23, kp f24, kp f25, kp f26, kp f27, kp f28, kp f29, kp f30, kp f31, kp f32, kp f33, fun _ => rfl, kp f35, kp f36, kp f37, kp f38, kp f39, kp f40, kp f41, kp f42⟩
                            · -- 35
                              have d30 := f30 (hd' 30 (by kernel_rfl))
                              have d34 := f34 (hd' 34 (by kernel_rfl))
                              refine slot_step_yes (j := 30) (d := 168) rfl rfl rfl (by decide) (d30) (fun az hs K hK => ?_)
                              have hK : Shut _ := hK
                              have e168 := hs.get 168
                              rw [d30] at e168
                              have e172 := hs.get 172
                              rw [d34] at e172
                              go_simp
                              exact hK.out _ _ ⟨r1, r7, r17, r18, r19, hbz, kp f0, kp f1, kp f2, kp f3, kp f4, kp f5, kp f6, kp f7, kp f8, kp f9, kp f10, kp f11, kp f12, kp f13, kp f14, kp f15, kp f16, kp f17, kp f18, kp f19, kp f20, kp f21, kp f22, kp f23, kp f24, kp f25, kp f26, kp f27, kp f28, kp f29, kp f30, kp f31, kp f32, kp f33, kp f34, fun _ => rfl, kp f36, kp f37, kp f38, kp f39, kp f40, kp f41, kp f42⟩
                            · -- 36
                              have d35 := f35 (hd' 35 (by kernel_rfl))
                              refine slot_step_yes (j := 35) (d := 173) rfl rfl rfl (by decide) (d35) (fun az hs K hK => ?_)
                              have hK : Shut _ := hK
                              have e173 := hs.get 173
                              rw [d35] at e173
                              have e7 := hs.get 7
                              rw [r7] at e7
                              go_simp
                              exact hK.out _ _ ⟨r1, r7, r17, r18, r19, hbz, kp f0, kp f1, kp f2, kp f3, kp f4, kp f5, kp f6, kp f7, kp f8, kp f9, kp f10, kp f11, kp f12, kp f13, kp f14, kp f15, kp f16, kp f17, kp f18, kp f19, kp f20, kp f21, kp f22, kp f23, kp f24, kp f25, kp f26, kp f27, kp f28, kp f29, kp f30, kp f31, kp f32, kp f33, kp f34, kp f35, fun _ => rfl, kp f37, kp f38, kp f39, kp f40, kp f41, kp f42⟩
                            · -- 37
                              have d35 := f35 (hd' 35 (by kernel_rfl))
                              refine slot_step_yes (j := 35) (d := 173) rfl rfl rfl (by decide) (d35) (fun az hs K hK => ?_)
                              have hK : Shut _ := hK
                              have e173 := hs.get 173
                              rw [d35] at e173
                              have e1 := hs.get 1
                              rw [r1] at e1
                              go_simp
                              exact hK.out _ _ ⟨r1, r7, r17, r18, r19, hbz, kp f0, kp f1, kp f2, kp f3, kp f4, kp f5, kp f6, kp f7, kp f8, kp f9, kp f10, kp f11, kp f12, kp f13, kp f14, kp f15, kp f16, kp f17, kp f18, kp f19, kp f20, kp f21, kp f22, kp f23, kp f24, kp f25, kp f26, kp f27, kp f28, kp f29, kp f30, kp f31, kp f32, kp f33, kp f34, kp f35, kp f36, fun _ => rfl, kp f38, kp f39, kp f40, kp f41, kp f42⟩
                            · -- 38
                              have d35 := f35 (hd' 35 (by kernel_rfl))
                              have d36 := f36 (hd' 36 (by kernel_rfl))
                              have d37 := f37 (hd' 37 (by kernel_rfl))
                              refine slot_step_yes (j := 35) (d := 173) rfl rfl rfl (by decide) (d35) (fun az hs K hK => ?_)
                              have hK : Shut _ := hK
                              have e173 := hs.get 173
                              rw [d35] at e173
                              have e174 := hs.get 174
                              rw [d36] at e174
                              have e175 := hs.get 175
                              rw [d37] at e175
                              have hDp := store_Depth (some ⟨p2, 0, none⟩) L7 ls2 s B m cd wz (hS11.out.step hbz).keeps (hS11.out.step hbz).all.rd (hrs.below (hb11.out.trans (hbz.mono hb11.out.size)) (Nat.le_refl _)) (by omega) hI2.out.good (by have := hL7.out; omega)
                              rw [hdep.out] at hDp
                              go_wp2_with (go_at_call 40; refine hDp.mono ?_; rintro e wy ⟨rfl, hbs⟩)
                              exact ⟨r1, r7, r17, r18, r19, hbz.trans (hbs.mono hbz.size), kp f0, kp f1, kp f2, kp f3, kp f4, kp f5, kp f6, kp f7, kp f8, kp f9, kp f10, kp f11, kp f12, kp f13, kp f14, kp f15, kp f16, kp f17, kp f18, kp f19, kp f20, kp f21, kp f22, kp f23, kp f24, kp f25, kp f26, kp f27, kp f28, kp f29, kp f30, kp f31, kp f32, kp f33, kp f34, kp f35, kp f36, kp f37, fun _ => rfl, kp f39, kp f40, kp f41, kp f42⟩
                            · -- 39
                              have d35 := f35 (hd' 35 (by kernel_rfl))
                              have d38 := f38 (hd' 38 (by kernel_rfl))
                              refine slot_step_yes (j := 35) (d := 173) rfl rfl rfl (by decide) (d35) (fun az hs K hK => ?_)
                              have hK : Shut _ := hK
                              have e173 := hs.get 173
                              rw [d35] at e173
                              have e176 := hs.get 176
                              rw [d38] at e176
                              go_simp
                              exact hK.out _ _ ⟨r1, r7, r17, r18, r19, hbz, kp f0, kp f1, kp f2, kp f3, kp f4, kp f5, kp f6, kp f7, kp f8, kp f9, kp f10, kp f11, kp f12, kp f13, kp f14, kp f15, kp f16, kp f17, kp f18, kp f19, kp f20, kp f21, kp f22, kp f23, kp f24, kp f25, kp f26, kp f27, kp f28, kp f29, kp f30, kp f31, kp f32, kp f33, kp f34, kp f35, kp f36, kp f37, kp f38, fun _ => rfl, kp f40, kp f41, kp f42⟩
                            · -- 40
                              have d30 := f30 (hd' 30 (by kernel_rfl))
                              have d35 := f35 (hd' 35 (by kernel_rfl))
                              have d39 := f39 (hd' 39 (by kernel_rfl))
                              refine slot_step_yes (j := 30) (d := 168) rfl rfl rfl (by decide) (d30) (fun az hs K hK => ?_)
                              have hK : Shut _ := hK
                              have e168 := hs.get 168
                              rw [d30] at e168
                              have e173 := hs.get 173
                              rw [d35] at e173
                              have e177 := hs.get 177
                              rw [d39] at e177
                              go_simp
                              exact hK.out _ _ ⟨r1, r7, r17, r18, r19, hbz, kp f0, kp f1, kp f2, kp f3, kp f4, kp f5, kp f6, kp f7, kp f8, kp f9, kp f10, kp f11, kp f12, kp f13, kp f14, kp f15, kp f16, kp f17, kp f18, kp f19, kp f20, kp f21, kp f22, kp f23, kp f24, kp f25, kp f26, kp f27, kp f28, kp f29, kp f30, kp f31, kp f32, kp f33, kp f34, kp f35, kp f36, kp f37, kp f38, kp f39, fun _ => rfl, kp f41, kp f42⟩
                            · -- 41
                              have d27 := f27 (hd' 27 (by kernel_rfl))
                              have d30 := f30 (hd' 30 (by kernel_rfl))
                              have d40 := f40 (hd' 40 (by kernel_rfl))
                              refine slot_step_yes (j := 27) (d := 165) rfl rfl rfl (by decide) (d27) (fun az hs K hK => ?_)
                              have hK : Shut _ := hK
                              have e165 := hs.get 165
                              rw [d27] at e165
                              have e168 := hs.get 168
                              rw [d30] at e168
                              have e178 := hs.get 178
                              rw [d40] at e178
                              go_simp
                              exact hK.out _ _ ⟨r1, r7, r17, r18, r19, hbz, kp f0, kp f1, kp f2, kp f3, kp f4, kp f5, kp f6, kp f7, kp f8, kp f9, kp f10, kp f11, kp f12, kp f13, kp f14, kp f15, kp f16, kp f17, kp f18, kp f19, kp f20, kp f21, kp f22, kp f23, kp f24, kp f25, kp f26, kp f27, kp f28, kp f29, kp f30, kp f31, kp f32, kp f33, kp f34, kp f35, kp f36, kp f37, kp f38, kp f39, kp f40, fun _ => rfl, kp f42⟩
                            · -- 42
                              have d27 := f27 (hd' 27 (by kernel_rfl))
                              have d41 := f41 (hd' 41 (by kernel_rfl))
                              refine slot_step rfl rfl (fun az hs K hK => ?_)
                              have hK : Shut _ := hK
                              have e165 := hs.get 165
                              rw [d27] at e165
                              have e179 := hs.get 179
                              rw [d41] at e179
                              go_simp
                              exact hK.out _ _ ⟨r1, r7, r17, r18, r19, hbz, kp f0, kp f1, kp f2, kp f3, kp f4, kp f5, kp f6, kp f7, kp f8, kp f9, kp f10, kp f11, kp f12, kp f13, kp f14, kp f15, kp f16, kp f17, kp f18, kp f19, kp f20, kp f21, kp f22, kp f23, kp f24, kp f25, kp f26, kp f27, kp f28, kp f29, kp f30, kp f31, kp f32, kp f33, kp f34, kp f35, kp f36, kp f37, kp f38, kp f39, kp f40, kp f41, fun _ => rfl⟩
                          case hdone =>
                            rintro D g wz hD ⟨r1, r7, r17, r18, r19, hbz, f0, f1, f2, f3, f4, f5, f6, f7, f8, f9, f10, f11, f12, f13, f14, f15, f16, f17, f18, f19, f20, f21, f22, f23, f24, f25, f26, f27, f28, f29, f30, f31, f32, f33, f34, f35, f36, f37, f38, f39, f40, f41, f42⟩
                            simp only [setAll, List.foldl_cons, List.foldl_nil, List.setIfInBounds_toArray, List.set_cons_succ, List.set_cons_zero]
                            have hSf := hide (hS11.out.step hbz)
                            have hRf := hide (hR11.out.step hbz)
                            have hbf := hide (hb11.out.trans (hbz.mono hb11.out.size))
                            have ef := f42 (hD 42)
                            rw [ef]
                            clear f0 f1 f2 f3 f4 f5 f6 f7 f8 f9 f10 f11 f12 f13 f14 f15 f16 f17 f18 f19 f20 f21 f22 f23 f24 f25 f26 f27 f28 f29 f30 f31 f32 f33 f34 f35 f36 f37 f38 f39 f40 f41 f42 hbz hS11 hR11 hb11 ef hD
                            go_wp2
                            go_roundw
                            case rel => exact ⟨k + 1, p2, V7, L7, vwz, Lz, ls2, hlt, rfl, rfl, by go_num, hide ⟨hSf.out, hRf.out, hne7.out, hbf.out, hT.out.symm, hI2.out⟩⟩
                            case measure => simp [intOf]; omega
                        | some jb =>
                          have hF28 := ref_Find vwz.A vwz.n vwz.c Lz ls2 B m cd s w8 (rd_ofK hR8.out.own) hR8.out.all.rd (by have := hvn2.out; omega) hI2.out.good (hrs.below hb8.out (Nat.le_refl _)) (by omega)
                          rw [show bestN ls2 s (List.range vwz.n) = some jb by rw [hvn2.out]; exact hob, show atZ (some jb) = (jb : Int) from rfl] at hF28
                          have hF29 := fun w9 hS9 hk9 hr9 => store_Find (some ⟨p2, 0, none⟩) L7 ls2 s B m cd w9 hS9 hk9 hr9 (by omega) hI2.out.good (by have := hL7.out; omega)
                          rw [hL7.out, hob] at hF29
                          have hdep := hide (show depthL ls2 s = (kcAt ls2 jb).d by unfold depthL; rw [hNL, hob])
                          go_wp2_with fail
                          refine hF28.mono ?_
                          rintro e w9 ⟨rfl, hd9⟩
                          have hS9 := hide (hS8.out.step (hd9.below _))
                          have hR9 := hide (hR8.out.step (hd9.below _))
                          have hb9 := hide (hb8.out.trans (hd9.below _))
                          clear hd9 hS8 hR8 hb8 hF28
                          go_wp2_with fail
                          refine (hF29 w9 hS9.out.keeps hS9.out.all.rd (hrs.below hb9.out (Nat.le_refl _))).mono ?_
                          rintro e w10 ⟨y, rfl, hyd, hyc, hyi, hb10⟩
                          simp only [Option.map_some, Option.isSome_some]
                          have hy10 : KvO w9.heap.size w10 y (kcAt ls2 jb) := ⟨hyd, hyc, hyi⟩
                          have hba := (Below.refl w10.heap.size w10).alloc (Nat.le_refl _) (.cells y.cells 66)
                          have bx := hide (Blk.new w10 66 y.cells)
                          have hyc30 : y.c.n ≤ 1000000 := by have := hy10.rd.c.len; have := (hI2.out.good.at (j := jb) (by rw [hNL]; exact best_lt hob)).c; omega
                          have hyi30 : y.i.n ≤ 1000000 := by have := hy10.rd.i.len; have := (hI2.out.good.at (j := jb) (by rw [hNL]; exact best_lt hob)).i; omega
                          obtain ⟨w11, hw11⟩ : ∃ w11, w10.alloc (.cells y.cells 66) = w11 := ⟨_, rfl⟩
                          rw [hw11] at hba bx
                          have hS11 := hide ((hS9.out.step hb10).step hba)
                          have hR11 := hide ((hR9.out.step hb10).step hba)
                          have hb11 := hide ((hb9.out.trans (hb10.mono hb9.out.size)).trans (hba.mono (Nat.le_trans hb9.out.size hb10.size)))
                          have hy11 := hide (hy10.step hba)
                          clear hyd hyc hyi hb10 hba hS9 hR9 hb9 hy10 hF29
                          have hjb : jb < N2 := best_lt hob
                          have hjbI : (jb : Int) < N2 := by omega
                          obtain ⟨za, z, hvA, hzB, hz, zc0, zc1, zc2⟩ := (rd_ofK hR11.out.own).2 jb (by rw [← hR11.out.all.1] at hNL; omega)
                          have hzq : ∃ zq, za = ⟨zq, 0, none⟩ := by
                            rcases own_cases hR11.out.own with ⟨h1, h2⟩ | ⟨q, cap, h1, _⟩
                            · have := hR11.out.all.1; omega
                            · injection h1 with h1 _ _; rw [hvA] at h1; injection h1 with h1; exact ⟨q, h1⟩
                          obtain ⟨zq, rfl⟩ := hzq
                          rw [add0] at zc0 zc1 zc2
                          have hz11 : KvO w.heap.size w11 z (kcAt ls2 jb) := by
                            have := hR11.out.all.2 jb (by rw [hR11.out.all.1, hNL]; exact hjb)
                            rw [kvAt_is hz] at this
                            exact this
                          have hdep := hide (show depthL ls2 s = z.d from hdep.out.trans hz11.d.symm)
                          replace hz11 := hide hz11
                          have hvwv : vwz.val = .slice (some ⟨zq, 0, none⟩) N2 vwz.c := by show Value.slice vwz.A vwz.n vwz.c = _; rw [hvA, hvn2.out]
                          have hf00 : (z.d != z.d) = false := by simp
                          clear hz
                          clear hvn hNL
                          go_wp2
                          refine wp_region_slots [138, 139, 140, 141, 142, 143, 144, 145, 146, 147, 148, 149, 150, 151, 152, 153, 154, 155, 156, 157, 158, 159, 160, 161, 162, 163, 164, 165, 166, 167, 168, 169, 170, 171, 172, 173, 174, 175, 176, 177, 178, 179, 180] (fun D g wz => g 1 = .slice B m cd ∧ g 7 = .pointer (some ⟨p2, 0, none⟩) ∧ g 8 = .slice (some ⟨zq, 0, none⟩) N2 vwz.c ∧ g 17 = .int .i64 (jb : Int) ∧ g 18 = .pointer (some ⟨w10.heap.size, 0, none⟩) ∧ g 19 = .bool true ∧ Below w11.heap.size w11 wz ∧ (D 0 → g 138 = .bool true) ∧ (D 1 → g 139 = .int .i64 (jb : Int)) ∧ (D 2 → g 140 = .bool true) ∧ (D 3 → g 141 = .bool false) ∧ (D 4 → g 142 = .bool false) ∧ (D 5 → g 143 = .bool true) ∧ (D 6 → g 144 = .bool true) ∧ (D 7 → g 145 = .agg y.cells) ∧ (D 8 → g 146 = .slice (some ⟨zq, 0, none⟩) N2 vwz.c) ∧ (D 9 → g 147 = .int .i64 (jb : Int)) ∧ (D 10 → g 148 = .pointer (some ⟨zq, jb * 3, none⟩)) ∧ (D 11 → g 149 = .agg z.cells) ∧ (D 12 → g 150 = .bool true) ∧ (D 13 → g 151 = .bool false) ∧ (D 14 → g 152 = .bool false) ∧ (D 15 → g 153 = .pointer (some ⟨p2, 0, none⟩)) ∧ (D 16 → g 154 = .slice B m cd) ∧ (D 17 → g 155 = .int .i64 z.d) ∧ (D 18 → g 156 = .slice (some ⟨zq, 0, none⟩) N2 vwz.c) ∧ (D 19 → g 157 = .int .i64 (jb : Int)) ∧ (D 20 → g 158 = .pointer (some ⟨zq, jb * 3, none⟩)) ∧ (D 21 → g 159 = .pointer (some ⟨zq, jb * 3 + 1, none⟩)) ∧ (D 22 → g 160 = .int .i64 z.d) ∧ (D 23 → g 161 = .bool false) ∧ (D 24 → g 162 = .bool false) ∧ (D 25 → g 163 = .bool false) ∧ (D 26 → g 164 = .bool false) ∧ (D 27 → g 165 = .bool false) ∧ (D 28 → g 166 = .bool true) ∧ (D 29 → g 167 = .bool false) ∧ (D 30 → g 168 = .bool false) ∧ (D 31 → g 169 = undef) ∧ (D 32 → g 170 = undef) ∧ (D 33 → g 171 = undef) ∧ (D 34 → g 172 = undef) ∧ (D 35 → g 173 = undef) ∧ (D 36 → g 174 = undef) ∧ (D 37 → g 175 = undef) ∧ (D 38 → g 176 = undef) ∧ (D 39 → g 177 = undef) ∧ (D 40 → g 178 = undef) ∧ (D 41 → g 179 = .bool false) ∧ (D 42 → g 180 = .bool false)) (by kernel_rfl) (by kernel_rfl) 240 rfl (by kernel_rfl) ?h0 ?hstep ?hdone
                          case h0 => exact ⟨rfl, rfl, rfl, rfl, rfl, rfl, Dr.below (Dr.refl w11).drew _, nt0, nt0, nt0, nt0, nt0, nt0, nt0, nt0, nt0, nt0, nt0, nt0, nt0, nt0, nt0, nt0, nt0, nt0, nt0, nt0, nt0, nt0, nt0, nt0, nt0, nt0, nt0, nt0, nt0, nt0, nt0, nt0, nt0, nt0, nt0, nt0, nt0, nt0, nt0, nt0, nt0, nt0, nt0⟩
                          case hstep =>
                            intro D g wz i hi' hn hd' hI2
                            obtain ⟨r1, r7, r8, r17, r18, r19, hbz, f0, f1, f2, f3, f4, f5, f6, f7, f8, f9, f10, f11, f12, f13, f14, f15, f16, f17, f18, f19, f20, f21, f22, f23, f24, f25, f26, f27, f28, f29, f30, f31, f32, f33, f34, f35, f36, f37, f38, f39, f40, f41, f42⟩ := hI2
                            have hi' : i < 43 := hi'
                            rcases (show i = 0 ∨ i = 1 ∨ i = 2 ∨ i = 3 ∨ i = 4 ∨ i = 5 ∨ i = 6 ∨ i = 7 ∨ i = 8 ∨ i = 9 ∨ i = 10 ∨ i = 11 ∨ i = 12 ∨ i = 13 ∨ i = 14 ∨ i = 15 ∨ i = 16 ∨ i = 17 ∨ i = 18 ∨ i = 19 ∨ i = 20 ∨ i = 21 ∨ i = 22 ∨ i = 23 ∨ i = 24 ∨ i = 25 ∨ i = 26 ∨ i = 27 ∨ i = 28 ∨ i = 29 ∨ i = 30 ∨ i = 31 ∨ i = 32 ∨ i = 33 ∨ i = 34 ∨ i = 35 ∨ i = 36 ∨ i = 37 ∨ i = 38 ∨ i = 39 ∨ i = 40 ∨ i = 41 ∨ i = 42 by omega) with rfl | rfl | rfl | rfl | rfl | rfl | rfl | rfl | rfl | rfl | rfl | rfl | rfl | rfl | rfl | rfl | rfl | rfl | rfl | rfl | rfl | rfl | rfl | rfl | rfl | rfl | rfl | rfl | rfl | rfl | rfl | rfl | rfl | rfl | rfl | rfl | rfl | rfl | rfl | rfl | rfl | rfl | rfl
                            · -- 0
                              refine slot_step rfl rfl (fun az hs K hK => ?_)
                              have hK : Shut _ := hK
                              have e19 := hs.get 19
                              rw [r19] at e19
                              go_simp
                              exact hK.out _ _ ⟨r1, r7, r8, r17, r18, r19, hbz, fun _ => rfl, kp f1, kp f2, kp f3, kp f4, kp f5, kp f6, kp f7, kp f8, kp f9, kp f10, kp f11, kp f12, kp f13, kp f14, kp f15, kp f16, kp f17, kp f18, kp f19, kp f20, kp f21, kp f22, kp f23, kp f24, kp f25, kp f26, kp f27, kp f28, kp f29, kp f30, kp f31, kp f32, kp f33, kp f34, kp f35, kp f36, kp f37, kp f38, kp f39, kp f40, kp f41, kp f42⟩
                            · -- 1
                              refine slot_step rfl rfl (fun az hs K hK => ?_)
                              have hK : Shut _ := hK
                              have e17 := hs.get 17
                              rw [r17] at e17
                              go_simp
                              exact hK.out _ _ ⟨r1, r7, r8, r17, r18, r19, hbz, kp f0, fun _ => rfl, kp f2, kp f3, kp f4, kp f5, kp f6, kp f7, kp f8, kp f9, kp f10, kp f11, kp f12, kp f13, kp f14, kp f15, kp f16, kp f17, kp f18, kp f19, kp f20, kp f21, kp f22, kp f23, kp f24, kp f25, kp f26, kp f27, kp f28, kp f29, kp f30, kp f31, kp f32, kp f33, kp f34, kp f35, kp f36, kp f37, kp f38, kp f39, kp f40, kp f41, kp f42⟩
                            · -- 2
                              have d1 := f1 (hd' 1 (by kernel_rfl))
                              refine slot_step rfl rfl (fun az hs K hK => ?_)
                              have hK : Shut _ := hK
                              have e139 := hs.get 139
                              rw [d1] at e139
                              go_simp
                              exact hK.out _ _ ⟨r1, r7, r8, r17, r18, r19, hbz, kp f0, kp f1, fun _ => rfl, kp f3, kp f4, kp f5, kp f6, kp f7, kp f8, kp f9, kp f10, kp f11, kp f12, kp f13, kp f14, kp f15, kp f16, kp f17, kp f18, kp f19, kp f20, kp f21, kp f22, kp f23, kp f24, kp f25, kp f26, kp f27, kp f28, kp f29, kp f30, kp f31, kp f32, kp f33, kp f34, kp f35, kp f36, kp f37, kp f38, kp f39, kp f40, kp f41, kp f42⟩
                            · -- 3
                              have d0 := f0 (hd' 0 (by kernel_rfl))
                              have d2 := f2 (hd' 2 (by kernel_rfl))
                              refine slot_step rfl rfl (fun az hs K hK => ?_)
                              have hK : Shut _ := hK
                              have e138 := hs.get 138
                              rw [d0] at e138
                              have e140 := hs.get 140
                              rw [d2] at e140
                              go_simp
                              exact hK.out _ _ ⟨r1, r7, r8, r17, r18, r19, hbz, kp f0, kp f1, kp f2, fun _ => rfl, kp f4, kp f5, kp f6, kp f7, kp f8, kp f9, kp f10, kp f11, kp f12, kp f13, kp f14, kp f15, kp f16, kp f17, kp f18, kp f19, kp f20, kp f21, kp f22, kp f23, kp f24, kp f25, kp f26, kp f27, kp f28, kp f29, kp f30, kp f31, kp f32, kp f33, kp f34, kp f35, kp f36, kp f37, kp f38, kp f39, kp f40, kp f41, kp f42⟩
                            · -- 4
                              have d3 := f3 (hd' 3 (by kernel_rfl))
                              refine slot_step rfl rfl (fun az hs K hK => ?_)
                              have hK : Shut _ := hK
                              have e141 := hs.get 141
                              rw [d3] at e141
                              go_simp
                              exact hK.out _ _ ⟨r1, r7, r8, r17, r18, r19, hbz, kp f0, kp f1, kp f2, kp f3, fun _ => rfl, kp f5, kp f6, kp f7, kp f8, kp f9, kp f10, kp f11, kp f12, kp f13, kp f14, kp f15, kp f16, kp f17, kp f18, kp f19, kp f20, kp f21, kp f22, kp f23, kp f24, kp f25, kp f26, kp f27, kp f28, kp f29, kp f30, kp f31, kp f32, kp f33, kp f34, kp f35, kp f36, kp f37, kp f38, kp f39, kp f40, kp f41, kp f42⟩
                            · -- 5
                              have d4 := f4 (hd' 4 (by kernel_rfl))
                              refine slot_step_yes (j := 4) (d := 142) rfl rfl rfl (by decide) (d4) (fun az hs K hK => ?_)
                              have hK : Shut _ := hK
                              have e142 := hs.get 142
                              rw [d4] at e142
                              have e19 := hs.get 19
                              rw [r19] at e19
                              go_simp
                              exact hK.out _ _ ⟨r1, r7, r8, r17, r18, r19, hbz, kp f0, kp f1, kp f2, kp f3, kp f4, fun _ => rfl, kp f6, kp f7, kp f8, kp f9, kp f10, kp f11, kp f12, kp f13, kp f14, kp f15, kp f16, kp f17, kp f18, kp f19, kp f20, kp f21, kp f22, kp f23, kp f24, kp f25, kp f26, kp f27, kp f28, kp f29, kp f30, kp f31, kp f32, kp f33, kp f34, kp f35, kp f36, kp f37, kp f38, kp f39, kp f40, kp f41, kp f42⟩
                            · -- 6
                              have d4 := f4 (hd' 4 (by kernel_rfl))
                              have d5 := f5 (hd' 5 (by kernel_rfl))
                              refine slot_step_yes (j := 4) (d := 142) rfl rfl rfl (by decide) (d4) (fun az hs K hK => ?_)
                              have hK : Shut _ := hK
                              have e142 := hs.get 142
                              rw [d4] at e142
                              have e143 := hs.get 143
                              rw [d5] at e143
                              go_simp
                              exact hK.out _ _ ⟨r1, r7, r8, r17, r18, r19, hbz, kp f0, kp f1, kp f2, kp f3, kp f4, kp f5, fun _ => rfl, kp f7, kp f8, kp f9, kp f10, kp f11, kp f12, kp f13, kp f14, kp f15, kp f16, kp f17, kp f18, kp f19, kp f20, kp f21, kp f22, kp f23, kp f24, kp f25, kp f26, kp f27, kp f28, kp f29, kp f30, kp f31, kp f32, kp f33, kp f34, kp f35, kp f36, kp f37, kp f38, kp f39, kp f40, kp f41, kp f42⟩
                            · -- 7
                              have d6 := f6 (hd' 6 (by kernel_rfl))
                              refine slot_step_yes (j := 6) (d := 144) rfl rfl rfl (by decide) (d6) (fun az hs K hK => ?_)
                              have hK : Shut _ := hK
                              have b0 := keepCell hbz (show w11.cell? ⟨w10.heap.size, 0, none⟩ = some y.c.val from bx.out.cell 0)
                              have b1 := keepCell hbz (show w11.cell? ⟨w10.heap.size, 1, none⟩ = some (.int .i64 y.d) from bx.out.cell 1)
                              have b2 := keepCell hbz (show w11.cell? ⟨w10.heap.size, 2, none⟩ = some y.i.val from bx.out.cell 2)
                              have e144 := hs.get 144
                              rw [d6] at e144
                              have e18 := hs.get 18
                              rw [r18] at e18
                              go_simp
                              exact hK.out _ _ ⟨r1, r7, r8, r17, r18, r19, hbz, kp f0, kp f1, kp f2, kp f3, kp f4, kp f5, kp f6, fun _ => rfl, kp f8, kp f9, kp f10, kp f11, kp f12, kp f13, kp f14, kp f15, kp f16, kp f17, kp f18, kp f19, kp f20, kp f21, kp f22, kp f23, kp f24, kp f25, kp f26, kp f27, kp f28, kp f29, kp f30, kp f31, kp f32, kp f33, kp f34, kp f35, kp f36, kp f37, kp f38, kp f39, kp f40, kp f41, kp f42⟩
                            · -- 8
                              have d6 := f6 (hd' 6 (by kernel_rfl))
                              refine slot_step_yes (j := 6) (d := 144) rfl rfl rfl (by decide) (d6) (fun az hs K hK => ?_)
                              have hK : Shut _ := hK
                              have e144 := hs.get 144
                              rw [d6] at e144
                              have e8 := hs.get 8
                              rw [r8] at e8
                              go_simp
                              exact hK.out _ _ ⟨r1, r7, r8, r17, r18, r19, hbz, kp f0, kp f1, kp f2, kp f3, kp f4, kp f5, kp f6, kp f7, fun _ => rfl, kp f9, kp f10, kp f11, kp f12, kp f13, kp f14, kp f15, kp f16, kp f17, kp f18, kp f19, kp f20, kp f21, kp f22, kp f23, kp f24, kp f25, kp f26, kp f27, kp f28, kp f29, kp f30, kp f31, kp f32, kp f33, kp f34, kp f35, kp f36, kp f37, kp f38, kp f39, kp f40, kp f41, kp f42⟩
                            · -- 9
                              have d6 := f6 (hd' 6 (by kernel_rfl))
                              refine slot_step_yes (j := 6) (d := 144) rfl rfl rfl (by decide) (d6) (fun az hs K hK => ?_)
                              have hK : Shut _ := hK
                              have e144 := hs.get 144
                              rw [d6] at e144
                              have e17 := hs.get 17
                              rw [r17] at e17
                              go_simp
                              exact hK.out _ _ ⟨r1, r7, r8, r17, r18, r19, hbz, kp f0, kp f1, kp f2, kp f3, kp f4, kp f5, kp f6, kp f7, kp f8, fun _ => rfl, kp f10, kp f11, kp f12, kp f13, kp f14, kp f15, kp f16, kp f17, kp f18, kp f19, kp f20, kp f21, kp f22, kp f23, kp f24, kp f25, kp f26, kp f27, kp f28, kp f29, kp f30, kp f31, kp f32, kp f33, kp f34, kp f35, kp f36, kp f37, kp f38, kp f39, kp f40, kp f41, kp f42⟩
                            · -- 10
                              have d6 := f6 (hd' 6 (by kernel_rfl))
                              have d8 := f8 (hd' 8 (by kernel_rfl))
                              have d9 := f9 (hd' 9 (by kernel_rfl))
                              refine slot_step_yes (j := 6) (d := 144) rfl rfl rfl (by decide) (d6) (fun az hs K hK => ?_)
                              have hK : Shut _ := hK
                              have e144 := hs.get 144
                              rw [d6] at e144
                              have e146 := hs.get 146
                              rw [d8] at e146
                              have e147 := hs.get 147
                              rw [d9] at e147
                              go_simp
                              exact hK.out _ _ ⟨r1, r7, r8, r17, r18, r19, hbz, kp f0, kp f1, kp f2, kp f3, kp f4, kp f5, kp f6, kp f7, kp f8, kp f9, fun _ => rfl, kp f11, kp f12, kp f13, kp f14, kp f15, kp f16, kp f17, kp f18, kp f19, kp f20, kp f21, kp f22, kp f23, kp f24, kp f25, kp f26, kp f27, kp f28, kp f29, kp f30, kp f31, kp f32, kp f33, kp f34, kp f35, kp f36, kp f37, kp f38, kp f39, kp f40, kp f41, kp f42⟩
                            · -- 11
                              have d6 := f6 (hd' 6 (by kernel_rfl))
                              have d10 := f10 (hd' 10 (by kernel_rfl))
                              refine slot_step_yes (j := 6) (d := 144) rfl rfl rfl (by decide) (d6) (fun az hs K hK => ?_)
                              have hK : Shut _ := hK
                              have z0 := keepCell hbz zc0
                              have z1 := keepCell hbz zc1
                              have z2 := keepCell hbz zc2
                              have e144 := hs.get 144
                              rw [d6] at e144
                              have e148 := hs.get 148
                              rw [d10] at e148
                              go_simp
                              exact hK.out _ _ ⟨r1, r7, r8, r17, r18, r19, hbz, kp f0, kp f1, kp f2, kp f3, kp f4, kp f5, kp f6, kp f7, kp f8, kp f9, kp f10, fun _ => rfl, kp f12, kp f13, kp f14, kp f15, kp f16, kp f17, kp f18, kp f19, kp f20, kp f21, kp f22, kp f23, kp f24, kp f25, kp f26, kp f27, kp f28, kp f29, kp f30, kp f31, kp f32, kp f33, kp f34, kp f35, kp f36, kp f37, kp f38, kp f39, kp f40, kp f41, kp f42⟩
                            · -- 12
                              have d6 := f6 (hd' 6 (by kernel_rfl))
                              have d7 := f7 (hd' 7 (by kernel_rfl))
                              have d11 := f11 (hd' 11 (by kernel_rfl))
                              refine slot_step_yes (j := 6) (d := 144) rfl rfl rfl (by decide) (d6) (fun az hs K hK => ?_)
                              have hK : Shut _ := hK
                              have e144 := hs.get 144
                              rw [d6] at e144
                              have e145 := hs.get 145
                              rw [d7] at e145
                              have e149 := hs.get 149
                              rw [d11] at e149
                              go_wp2_with (go_at_call 51; refine (same_is y z (kcAt ls2 jb) (kcAt ls2 jb) wz (hy11.out.rd.below hbz (Nat.le_refl _)) (hz11.out.rd.below hbz (Nat.le_refl _)) hyc30 hyi30 (sameK_self _)).mono ?_; rintro e wy ⟨rfl, hbs⟩)
                              exact ⟨r1, r7, r8, r17, r18, r19, hbz.trans (hbs.mono hbz.size), kp f0, kp f1, kp f2, kp f3, kp f4, kp f5, kp f6, kp f7, kp f8, kp f9, kp f10, kp f11, fun _ => rfl, kp f13, kp f14, kp f15, kp f16, kp f17, kp f18, kp f19, kp f20, kp f21, kp f22, kp f23, kp f24, kp f25, kp f26, kp f27, kp f28, kp f29, kp f30, kp f31, kp f32, kp f33, kp f34, kp f35, kp f36, kp f37, kp f38, kp f39, kp f40, kp f41, kp f42⟩
                            · -- 13
                              have d6 := f6 (hd' 6 (by kernel_rfl))
                              have d12 := f12 (hd' 12 (by kernel_rfl))
                              refine slot_step_yes (j := 6) (d := 144) rfl rfl rfl (by decide) (d6) (fun az hs K hK => ?_)
                              have hK : Shut _ := hK
                              have e144 := hs.get 144
                              rw [d6] at e144
                              have e150 := hs.get 150
                              rw [d12] at e150
                              go_simp
                              exact hK.out _ _ ⟨r1, r7, r8, r17, r18, r19, hbz, kp f0, kp f1, kp f2, kp f3, kp f4, kp f5, kp f6, kp f7, kp f8, kp f9, kp f10, kp f11, kp f12, fun _ => rfl, kp f14, kp f15, kp f16, kp f17, kp f18, kp f19, kp f20, kp f21, kp f22, kp f23, kp f24, kp f25, kp f26, kp f27, kp f28, kp f29, kp f30, kp f31, kp f32, kp f33, kp f34, kp f35, kp f36, kp f37, kp f38, kp f39, kp f40, kp f41, kp f42⟩
                            · -- 14
                              have d6 := f6 (hd' 6 (by kernel_rfl))
                              have d13 := f13 (hd' 13 (by kernel_rfl))
                              refine slot_step_yes (j := 6) (d := 144) rfl rfl rfl (by decide) (d6) (fun az hs K hK => ?_)
                              have hK : Shut _ := hK
                              have e144 := hs.get 144
                              rw [d6] at e144
                              have e151 := hs.get 151
                              rw [d13] at e151
                              go_simp
                              exact hK.out _ _ ⟨r1, r7, r8, r17, r18, r19, hbz, kp f0, kp f1, kp f2, kp f3, kp f4, kp f5, kp f6, kp f7, kp f8, kp f9, kp f10, kp f11, kp f12, kp f13, fun _ => rfl, kp f15, kp f16, kp f17, kp f18, kp f19, kp f20, kp f21, kp f22, kp f23, kp f24, kp f25, kp f26, kp f27, kp f28, kp f29, kp f30, kp f31, kp f32, kp f33, kp f34, kp f35, kp f36, kp f37, kp f38, kp f39, kp f40, kp f41, kp f42⟩
                            · -- 15
                              have d14 := f14 (hd' 14 (by kernel_rfl))
                              refine slot_step_yes (j := 14) (d := 152) rfl rfl rfl (by decide) (d14) (fun az hs K hK => ?_)
                              have hK : Shut _ := hK
                              have e152 := hs.get 152
                              rw [d14] at e152
                              have e7 := hs.get 7
                              rw [r7] at e7
                              go_simp
                              exact hK.out _ _ ⟨r1, r7, r8, r17, r18, r19, hbz, kp f0, kp f1, kp f2, kp f3, kp f4, kp f5, kp f6, kp f7, kp f8, kp f9, kp f10, kp f11, kp f12, kp f13, kp f14, fun _ => rfl, kp f16, kp f17, kp f18, kp f19, kp f20, kp f21, kp f22, kp f23, kp f24, kp f25, kp f26, kp f27, kp f28, kp f29, kp f30, kp f31, kp f32, kp f33, kp f34, kp f35, kp f36, kp f37, kp f38, kp f39, kp f40, kp f41, kp f42⟩
                            · -- 16
                              have d14 := f14 (hd' 14 (by kernel_rfl))
                              refine slot_step_yes (j := 14) (d := 152) rfl rfl rfl (by decide) (d14) (fun az hs K hK => ?_)
                              have hK : Shut _ := hK
                              have e152 := hs.get 152
                              rw [d14] at e152
                              have e1 := hs.get 1
                              rw [r1] at e1
                              go_simp
                              exact hK.out _ _ ⟨r1, r7, r8, r17, r18, r19, hbz, kp f0, kp f1, kp f2, kp f3, kp f4, kp f5, kp f6, kp f7, kp f8, kp f9, kp f10, kp f11, kp f12, kp f13, kp f14, kp f15, fun _ => rfl, kp f17, kp f18, kp f19, kp f20, kp f21, kp f22, kp f23, kp f24, kp f25, kp f26, kp f27, kp f28, kp f29, kp f30, kp f31, kp f32, kp f33, kp f34, kp f35, kp f36, kp f37, kp f38, kp f39, kp f40, kp f41, kp f42⟩
                            · -- 17
                              have d14 := f14 (hd' 14 (by kernel_rfl))
                              have d15 := f15 (hd' 15 (by kernel_rfl))
                              have d16 := f16 (hd' 16 (by kernel_rfl))
                              refine slot_step_yes (j := 14) (d := 152) rfl rfl rfl (by decide) (d14) (fun az hs K hK => ?_)
                              have hK : Shut _ := hK
                              have e152 := hs.get 152
                              rw [d14] at e152
                              have e153 := hs.get 153
                              rw [d15] at e153
                              have e154 := hs.get 154
                              rw [d16] at e154
                              have hDp := store_Depth (some ⟨p2, 0, none⟩) L7 ls2 s B m cd wz (hS11.out.step hbz).keeps (hS11.out.step hbz).all.rd (hrs.below (hb11.out.trans (hbz.mono hb11.out.size)) (Nat.le_refl _)) (by omega) hI2.out.good (by have := hL7.out; omega)
                              rw [hdep.out] at hDp
                              go_wp2_with (go_at_call 40; refine hDp.mono ?_; rintro e wy ⟨rfl, hbs⟩)
                              exact ⟨r1, r7, r8, r17, r18, r19, hbz.trans (hbs.mono hbz.size), kp f0, kp f1, kp f2, kp f3, kp f4, kp f5, kp f6, kp f7, kp f8, kp f9, kp f10, kp f11, kp f12, kp f13, kp f14, kp f15, kp f16, fun _ => rfl, kp f18, kp f19, kp f20, kp f21, kp f22, kp f23, kp f24, kp f25, kp f26, kp f27, kp f28, kp f29, kp f30, kp f31, kp f32, kp f33, kp f34, kp f35, kp f36, kp f37, kp f38, kp f39, kp f40, kp f41, kp f42⟩
                            · -- 18
                              have d14 := f14 (hd' 14 (by kernel_rfl))
                              refine slot_step_yes (j := 14) (d := 152) rfl rfl rfl (by decide) (d14) (fun az hs K hK => ?_)
                              have hK : Shut _ := hK
                              have e152 := hs.get 152
                              rw [d14] at e152
                              have e8 := hs.get 8
                              rw [r8] at e8
                              go_simp
                              exact hK.out _ _ ⟨r1, r7, r8, r17, r18, r19, hbz, kp f0, kp f1, kp f2, kp f3, kp f4, kp f5, kp f6, kp f7, kp f8, kp f9, kp f10, kp f11, kp f12, kp f13, kp f14, kp f15, kp f16, kp f17, fun _ => rfl, kp f19, kp f20, kp f21, kp f22, kp f23, kp f24, kp f25, kp f26, kp f27, kp f28, kp f29, kp f30, kp f31, kp f32, kp f33, kp f34, kp f35, kp f36, kp f37, kp f38, kp f39, kp f40, kp f41, kp f42⟩
                            · -- 19
                              have d14 := f14 (hd' 14 (by kernel_rfl))
                              refine slot_step_yes (j := 14) (d := 152) rfl rfl rfl (by decide) (d14) (fun az hs K hK => ?_)
                              have hK : Shut _ := hK
                              have e152 := hs.get 152
                              rw [d14] at e152
                              have e17 := hs.get 17
                              rw [r17] at e17
                              go_simp
                              exact hK.out _ _ ⟨r1, r7, r8, r17, r18, r19, hbz, kp f0, kp f1, kp f2, kp f3, kp f4, kp f5, kp f6, kp f7, kp f8, kp f9, kp f10, kp f11, kp f12, kp f13, kp f14, kp f15, kp f16, kp f17, kp f18, fun _ => rfl, kp f20, kp f21, kp f22, kp f23, kp f24, kp f25, kp f26, kp f27, kp f28, kp f29, kp f30, kp f31, kp f32, kp f33, kp f34, kp f35, kp f36, kp f37, kp f38, kp f39, kp f40, kp f41, kp f42⟩
                            · -- 20
                              have d14 := f14 (hd' 14 (by kernel_rfl))
                              have d18 := f18 (hd' 18 (by kernel_rfl))
                              have d19 := f19 (hd' 19 (by kernel_rfl))
                              refine slot_step_yes (j := 14) (d := 152) rfl rfl rfl (by decide) (d14) (fun az hs K hK => ?_)
                              have hK : Shut _ := hK
                              have e152 := hs.get 152
                              rw [d14] at e152
                              have e156 := hs.get 156
                              rw [d18] at e156
                              have e157 := hs.get 157
                              rw [d19] at e157
                              go_simp
                              exact hK.out _ _ ⟨r1, r7, r8, r17, r18, r19, hbz, kp f0, kp f1, kp f2, kp f3, kp f4, kp f5, kp f6, kp f7, kp f8, kp f9, kp f10, kp f11, kp f12, kp f13, kp f14, kp f15, kp f16, kp f17, kp f18, kp f19, fun _ => rfl, kp f21, kp f22, kp f23, kp f24, kp f25, kp f26, kp f27, kp f28, kp f29, kp f30, kp f31, kp f32, kp f33, kp f34, kp f35, kp f36, kp f37, kp f38, kp f39, kp f40, kp f41, kp f42⟩
                            · -- 21
                              have d14 := f14 (hd' 14 (by kernel_rfl))
                              have d20 := f20 (hd' 20 (by kernel_rfl))
                              refine slot_step_yes (j := 14) (d := 152) rfl rfl rfl (by decide) (d14) (fun az hs K hK => ?_)
                              have hK : Shut _ := hK
                              have e152 := hs.get 152
                              rw [d14] at e152
                              have e158 := hs.get 158
                              rw [d20] at e158
                              go_simp
                              exact hK.out _ _ ⟨r1, r7, r8, r17, r18, r19, hbz, kp f0, kp f1, kp f2, kp f3, kp f4, kp f5, kp f6, kp f7, kp f8, kp f9, kp f10, kp f11, kp f12, kp f13, kp f14, kp f15, kp f16, kp f17, kp f18, kp f19, kp f20, fun _ => rfl, kp f22, kp f23, kp f24, kp f25, kp f26, kp f27, kp f28, kp f29, kp f30, kp f31, kp f32, kp f33, kp f34, kp f35, kp f36, kp f37, kp f38, kp f39, kp f40, kp f41, kp f42⟩
                            · -- 22
                              have d14 := f14 (hd' 14 (by kernel_rfl))
                              have d21 := f21 (hd' 21 (by kernel_rfl))
                              refine slot_step_yes (j := 14) (d := 152) rfl rfl rfl (by decide) (d14) (fun az hs K hK => ?_)
                              have hK : Shut _ := hK
                              have z0 := keepCell hbz zc0
                              have z1 := keepCell hbz zc1
                              have z2 := keepCell hbz zc2
                              have e152 := hs.get 152
                              rw [d14] at e152
                              have e159 := hs.get 159
                              rw [d21] at e159
                              go_simp
                              exact hK.out _ _ ⟨r1, r7, r8, r17, r18, r19, hbz, kp f0, kp f1, kp f2, kp f3, kp f4, kp f5, kp f6, kp f7, kp f8, kp f9, kp f10, kp f11, kp f12, kp f13, kp f14, kp f15, kp f16, kp f17, kp f18, kp f19, kp f20, kp f21, fun _ => rfl, kp f23, kp f24, kp f25, kp f26, kp f27, kp f28, kp f29, kp f30, kp f31, kp f32, kp f33, kp f34, kp f35, kp f36, kp f37, kp f38, kp f39, kp f40, kp f41, kp f42⟩
                            · -- 23
                              have d14 := f14 (hd' 14 (by kernel_rfl))
                              have d17 := f17 (hd' 17 (by kernel_rfl))
                              have d22 := f22 (hd' 22 (by kernel_rfl))
                              refine slot_step_yes (j := 14) (d := 152) rfl rfl rfl (by decide) (d14) (fun az hs K hK => ?_)
                              have hK : Shut _ := hK
                              have e152 := hs.get 152
                              rw [d14] at e152
                              have e155 := hs.get 155
                              rw [d17] at e155
                              have e160 := hs.get 160
                              rw [d22] at e160
                              go_simp
                              exact hK.out _ _ ⟨r1, r7, r8, r17, r18, r19, hbz, kp f0, kp f1, kp f2, kp f3, kp f4, kp f5, kp f6, kp f7, kp f8, kp f9, kp f10, kp f11, kp f12, kp f13, kp f14, kp f15, kp f16, kp f17, kp f18, kp f19, kp f20, kp f21, kp f22, fun _ => rfl, kp f24, kp f25, kp f26, kp f27, kp f28, kp f29, kp f30, kp f31, kp f32, kp f33, kp f34, kp f35, kp f36, kp f37, kp f38, kp f39, kp f40, kp f41, kp f42⟩
                            · -- 24
                              have d6 := f6 (hd' 6 (by kernel_rfl))
                              have d14 := f14 (hd' 14 (by kernel_rfl))
                              have d23 := f23 (hd' 23 (by kernel_rfl))
                              refine slot_step_yes (j := 6) (d := 144) rfl rfl rfl (by decide) (d6) (fun az hs K hK => ?_)
                              have hK : Shut _ := hK
                              have e144 := hs.get 144
                              rw [d6] at e144
                              have e152 := hs.get 152
                              rw [d14] at e152
                              have e161 := hs.get 161
                              rw [d23] at e161
                              go_simp
                              exact hK.out _ _ ⟨r1, r7, r8, r17, r18, r19, hbz, kp f0, kp f1, kp f2, kp f3, kp f4, kp f5, kp f6, kp f7, kp f8, kp f9, kp f10, kp f11, kp f12, kp f13, kp f14, kp f15, kp f16, kp f17, kp f18, kp f19, kp f20, kp f21, kp f22, kp f23, fun _ => rfl, kp f25, kp f26, kp f27, kp f28, kp f29, kp f30, kp f31, kp f32, kp f33, kp f34, kp f35, kp f36, kp f37, kp f38, kp f39, kp f40, kp f41, kp f42⟩
                            · -- 25
                              have d4 := f4 (hd' 4 (by kernel_rfl))
                              have d6 := f6 (hd' 6 (by kernel_rfl))
                              have d24 := f24 (hd' 24 (by kernel_rfl))
                              refine slot_step_yes (j := 4) (d := 142) rfl rfl rfl (by decide) (d4) (fun az hs K hK => ?_)
                              have hK : Shut _ := hK
                              have e142 := hs.get 142
                              rw [d4] at e142
                              have e144 := hs.get 144
                              rw [d6] at e144
                              have e162 := hs.get 162
                              rw [d24] at e162
                              go_simp
                              exact hK.out _ _ ⟨r1, r7, r8, r17, r18, r19, hbz, kp f0, kp f1, kp f2, kp f3, kp f4, kp f5, kp f6, kp f7, kp f8, kp f9, kp f10, kp f11, kp f12, kp f13, kp f14, kp f15, kp f16, kp f17, kp f18, kp f19, kp f20, kp f21, kp f22, kp f23, kp f24, fun _ => rfl, kp f26, kp f27, kp f28, kp f29, kp f30, kp f31, kp f32, kp f33, kp f34, kp f35, kp f36, kp f37, kp f38, kp f39, kp f40, kp f41, kp f42⟩
                            · -- 26
                              have d4 := f4 (hd' 4 (by kernel_rfl))
                              have d25 := f25 (hd' 25 (by kernel_rfl))
                              refine slot_step rfl rfl (fun az hs K hK => ?_)
                              have hK : Shut _ := hK
                              have e142 := hs.get 142
                              rw [d4] at e142
                              have e163 := hs.get 163
                              rw [d25] at e163
                              go_simp
                              exact hK.out _ _ ⟨r1, r7, r8, r17, r18, r19, hbz, kp f0, kp f1, kp f2, kp f3, kp f4, kp f5, kp f6, kp f7, kp f8, kp f9, kp f10, kp f11, kp f12, kp f13, kp f14, kp f15, kp f16, kp f17, kp f18, kp f19, kp f20, kp f21, kp f22, kp f23, kp f24, kp f25, fun _ => rfl, kp f27, kp f28, kp f29, kp f30, kp f31, kp f32, kp f33, kp f34, kp f35, kp f36, kp f37, kp f38, kp f39, kp f40, kp f41, kp f42⟩
                            · -- 27
                              have d26 := f26 (hd' 26 (by kernel_rfl))
                              refine slot_step rfl rfl (fun az hs K hK => ?_)
                              have hK : Shut _ := hK
                              have e164 := hs.get 164
                              rw [d26] at e164
                              go_simp
                              exact hK.out _ _ ⟨r1, r7, r8, r17, r18, r19, hbz, kp f0, kp f1, kp f2, kp f3, kp f4, kp f5, kp f6, kp f7, kp f8, kp f9, kp f10, kp f11, kp f12, kp f13, kp f14, kp f15, kp f16, kp f17, kp f18, kp f19, kp f20, kp f21, kp f22, kp f23, kp f24, kp f25, kp f26, fun _ => rfl, kp f28, kp f29, kp f30, kp f31, kp f32, kp f33, kp f34, kp f35, kp f36, kp f37, kp f38, kp f39, kp f40, kp f41, kp f42⟩
                            · -- 28
                              have d27 := f27 (hd' 27 (by kernel_rfl))
                              refine slot_step_yes (j := 27) (d := 165) rfl rfl rfl (by decide) (d27) (fun az hs K hK => ?_)
                              have hK : Shut _ := hK
                              have e165 := hs.get 165
                              rw [d27] at e165
                              have e19 := hs.get 19
                              rw [r19] at e19
                              go_simp
                              exact hK.out _ _ ⟨r1, r7, r8, r17, r18, r19, hbz, kp f0, kp f1, kp f2, kp f3, kp f4, kp f5, kp f6, kp f7, kp f8, kp f9, kp f10, kp f11, kp f12, kp f13, kp f14, kp f15, kp f16, kp f17, kp f18, kp f19, kp f20, kp f21, kp f22, kp f23, kp f24, kp f25, kp f26, kp f27, fun _ => rfl, kp f29, kp f30, kp f31, kp f32, kp f33, kp f34, kp f35, kp f36, kp f37, kp f38, kp f39, kp f40, kp f41, kp f42⟩
                            · -- 29
                              have d27 := f27 (hd' 27 (by kernel_rfl))
                              have d28 := f28 (hd' 28 (by kernel_rfl))
                              refine slot_step_yes (j := 27) (d := 165) rfl rfl rfl (by decide) (d27) (fun az hs K hK => ?_)
                              have hK : Shut _ := hK
                              have e165 := hs.get 165
                              rw [d27] at e165
                              have e166 := hs.get 166
                              rw [d28] at e166
                              go_simp
                              exact hK.out _ _ ⟨r1, r7, r8, r17, r18, r19, hbz, kp f0, kp f1, kp f2, kp f3, kp f4, kp f5, kp f6, kp f7, kp f8, kp f9, kp f10, kp f11, kp f12, kp f13, kp f14, kp f15, kp f16, kp f17, kp f18, kp f19, kp f20, kp f21, kp f22, kp f23, kp f24, kp f25, kp f26, kp f27, kp f28, fun _ => rfl, kp f30, kp f31, kp f32, kp f33, kp f34, kp f35, kp f36, kp f37, kp f38, kp f39, kp f40, kp f41, kp f42⟩
                            · -- 30
                              have d27 := f27 (hd' 27 (by kernel_rfl))
                              have d29 := f29 (hd' 29 (by kernel_rfl))
                              refine slot_step_yes (j := 27) (d := 165) rfl rfl rfl (by decide) (d27) (fun az hs K hK => ?_)
                              have hK : Shut _ := hK
                              have e165 := hs.get 165
                              rw [d27] at e165
                              have e167 := hs.get 167
                              rw [d29] at e167
                              go_simp
                              exact hK.out _ _ ⟨r1, r7, r8, r17, r18, r19, hbz, kp f0, kp f1, kp f2, kp f3, kp f4, kp f5, kp f6, kp f7, kp f8, kp f9, kp f10, kp f11, kp f12, kp f13, kp f14, kp f15, kp f16, kp f17, kp f18, kp f19, kp f20, kp f21, kp f22, kp f23, kp f24, kp f25, kp f26, kp f27, kp f28, kp f29, fun _ => rfl, kp f31, kp f32, kp f33, kp f34, kp f35, kp f36, kp f37, kp f38, kp f39, kp f40, kp f41, kp f42⟩
                            · -- 31
                              have d30 := f30 (hd' 30 (by kernel_rfl))
                              exact slot_step_no (j := 30) (d := 168) rfl rfl rfl (by decide) (d30) ⟨r1, r7, r8, r17, r18, r19, hbz, kp f0, kp f1, kp f2, kp f3, kp f4, kp f5, kp f6, kp f7, kp f8, kp f9, kp f10, kp f11, kp f12, kp f13, kp f14, kp f15, kp f16, kp f17, kp f18, kp f19, kp f20, kp f21, kp f22, kp f23, kp f24, kp f25, kp f26, kp f27, kp f28, kp f29, kp f30, fun _ => rfl, kp f32, kp f33, kp f34, kp f35, kp f36, kp f37, kp f38, kp f39, kp f40, kp f41, kp f42⟩
                            · -- 32
                              have d30 := f30 (hd' 30 (by kernel_rfl))
                              exact slot_step_no (j := 30) (d := 168) rfl rfl rfl (by decide) (d30) ⟨r1, r7, r8, r17, r18, r19, hbz, kp f0, kp f1, kp f2, kp f3, kp f4, kp f5, kp f6, kp f7, kp f8, kp f9, kp f10, kp f11, kp f12, kp f13, kp f14, kp f15, kp f16, kp f17, kp f18, kp f19, kp f20, kp f21, kp f22, kp f23, kp f24, kp f25, kp f26, kp f27, kp f28, kp f29, kp f30, kp f31, fun _ => rfl, kp f33, kp f34, kp f35, kp f36, kp f37, kp f38, kp f39, kp f40, kp f41, kp f42⟩
                            · -- 33
                              have d30 := f30 (hd' 30 (by kernel_rfl))
                              exact slot_step_no (j := 30) (d := 168) rfl rfl rfl (by decide) (d30) ⟨r1, r7, r8, r17, r18, r19, hbz, kp f0, kp f1, kp f2, kp f3, kp f4, kp f5, kp f6, kp f7, kp f8, kp f9, kp f10, kp f11, kp f12, kp f13, kp f14, kp f15, kp f16, kp f17, kp f18, kp f19, kp f20, kp f21, kp f22, kp f23, kp f24, kp f25, kp f26, kp f27, kp f28, kp f29, kp f30, kp f31, kp f32, fun _ => rfl, kp f34, kp f35, kp f36, kp f37, kp f38, kp f39, kp f40, kp f41, kp f42⟩
                            · -- 34
                              have d30 := f30 (hd' 30 (by kernel_rfl))
                              exact slot_step_no (j := 30) (d := 168) rfl rfl rfl (by decide) (d30) ⟨r1, r7, r8, r17, r18, r19, hbz, kp f0, kp f1, kp f2, kp f3, kp f4, kp f5, kp f6, kp f7, kp f8, kp f9, kp f10, kp f11, kp f12, kp f13, kp f14, kp f15, kp f16, kp f17, kp f18, kp f19, kp f20, kp f21, kp f22, kp f23, kp f24, kp f25, kp f26, kp f27, kp f28, kp f29, kp f30, kp f31, kp f32, kp f33, fun _ => rfl, kp f35, kp f36, kp f37, kp f38, kp f39, kp f40, kp f41, kp f42⟩
                            · -- 35
                              have d30 := f30 (hd' 30 (by kernel_rfl))
                              exact slot_step_no (j := 30) (d := 168) rfl rfl rfl (by decide) (d30) ⟨r1, r7, r8, r17, r18, r19, hbz, kp f0, kp f1, kp f2, kp f3, kp f4, kp f5, kp f6, kp f7, kp f8, kp f9, kp f10, kp f11, kp f12, kp f13, kp f14, kp f15, kp f16, kp f17, kp f18, kp f19, kp f20, kp f21, kp f22, kp f23, kp f24, kp f25, kp f26, kp f27, kp f28, kp f29, kp f30, kp f31, kp f32, kp f33, kp f34, fun _ => rfl, kp f36, kp f37, kp f38, kp f39, kp f40, kp f41, kp f42⟩
                            · -- 36
                              have d35 := f35 (hd' 35 (by kernel_rfl))
                              exact slot_step_nou (j := 35) (d := 173) rfl rfl rfl (by decide) (d35) ⟨r1, r7, r8, r17, r18, r19, hbz, kp f0, kp f1, kp f2, kp f3, kp f4, kp f5, kp f6, kp f7, kp f8, kp f9, kp f10, kp f11, kp f12, kp f13, kp f14, kp f15, kp f16, kp f17, kp f18, kp f19, kp f20, kp f21, kp f22, kp f23, kp f24, kp f25, kp f26, kp f27, kp f28, kp f29, kp f30, kp f31, kp f32, kp f33, kp f34, kp f35, fun _ => rfl, kp f37, kp f38, kp f39, kp f40, kp f41, kp f42⟩
                            · -- 37
                              have d35 := f35 (hd' 35 (by kernel_rfl))
                              exact slot_step_nou (j := 35) (d := 173) rfl rfl rfl (by decide) (d35) ⟨r1, r7, r8, r17, r18, r19, hbz, kp f0, kp f1, kp f2, kp f3, kp f4, kp f5, kp f6, kp f7, kp f8, kp f9, kp f10, kp f11, kp f12, kp f13, kp f14, kp f15, kp f16, kp f17, kp f18, kp f19, kp f20, kp f21, kp f22, kp f23, kp f24, kp f25, kp f26, kp f27, kp f28, kp f29, kp f30, kp f31, kp f32, kp f33, kp f34, kp f35, kp f36, fun _ => rfl, kp f38, kp f39, kp f40, kp f41, kp f42⟩
                            · -- 38
                              have d35 := f35 (hd' 35 (by kernel_rfl))
                              exact slot_step_nou (j := 35) (d := 173) rfl rfl rfl (by decide) (d35) ⟨r1, r7, r8, r17, r18, r19, hbz, kp f0, kp f1, kp f2, kp f3, kp f4, kp f5, kp f6, kp f7, kp f8, kp f9, kp f10, kp f11, kp f12, kp f13, kp f14, kp f15, kp f16, kp f17, kp f18, kp f19, kp f20, kp f21, kp f22, kp f23, kp f24, kp f25, kp f26, kp f27, kp f28, kp f29, kp f30, kp f31, kp f32, kp f33, kp f34, kp f35, kp f36, kp f37, fun _ => rfl, kp f39, kp f40, kp f41, kp f42⟩
                            · -- 39
                              have d35 := f35 (hd' 35 (by kernel_rfl))
                              exact slot_step_nou (j := 35) (d := 173) rfl rfl rfl (by decide) (d35) ⟨r1, r7, r8, r17, r18, r19, hbz, kp f0, kp f1, kp f2, kp f3, kp f4, kp f5, kp f6, kp f7, kp f8, kp f9, kp f10, kp f11, kp f12, kp f13, kp f14, kp f15, kp f16, kp f17, kp f18, kp f19, kp f20, kp f21, kp f22, kp f23, kp f24, kp f25, kp f26, kp f27, kp f28, kp f29, kp f30, kp f31, kp f32, kp f33, kp f34, kp f35, kp f36, kp f37, kp f38, fun _ => rfl, kp f40, kp f41, kp f42⟩
                            · -- 40
                              have d30 := f30 (hd' 30 (by kernel_rfl))
                              exact slot_step_no (j := 30) (d := 168) rfl rfl rfl (by decide) (d30) ⟨r1, r7, r8, r17, r18, r19, hbz, kp f0, kp f1, kp f2, kp f3, kp f4, kp f5, kp f6, kp f7, kp f8, kp f9, kp f10, kp f11, kp f12, kp f13, kp f14, kp f15, kp f16, kp f17, kp f18, kp f19, kp f20, kp f21, kp f22, kp f23, kp f24, kp f25, kp f26, kp f27, kp f28, kp f29, kp f30, kp f31, kp f32, kp f33, kp f34, kp f35, kp f36, kp f37, kp f38, kp f39, fun _ => rfl, kp f41, kp f42⟩
                            · -- 41
                              have d27 := f27 (hd' 27 (by kernel_rfl))
                              have d30 := f30 (hd' 30 (by kernel_rfl))
                              have d40 := f40 (hd' 40 (by kernel_rfl))
                              refine slot_step_yes (j := 27) (d := 165) rfl rfl rfl (by decide) (d27) (fun az hs K hK => ?_)
                              have hK : Shut _ := hK
                              have e165 := hs.get 165
                              rw [d27] at e165
                              have e168 := hs.get 168
                              rw [d30] at e168
                              have e178 := hs.get 178
                              rw [d40] at e178
                              go_simp
                              exact hK.out _ _ ⟨r1, r7, r8, r17, r18, r19, hbz, kp f0, kp f1, kp f2, kp f3, kp f4, kp f5, kp f6, kp f7, kp f8, kp f9, kp f10, kp f11, kp f12, kp f13, kp f14, kp f15, kp f16, kp f17, kp f18, kp f19, kp f20, kp f21, kp f22, kp f23, kp f24, kp f25, kp f26, kp f27, kp f28, kp f29, kp f30, kp f31, kp f32, kp f33, kp f34, kp f35, kp f36, kp f37, kp f38, kp f39, kp f40, fun _ => rfl, kp f42⟩
                            · -- 42
                              have d27 := f27 (hd' 27 (by kernel_rfl))
                              have d41 := f41 (hd' 41 (by kernel_rfl))
                              refine slot_step rfl rfl (fun az hs K hK => ?_)
                              have hK : Shut _ := hK
                              have e165 := hs.get 165
                              rw [d27] at e165
                              have e179 := hs.get 179
                              rw [d41] at e179
                              go_simp
                              exact hK.out _ _ ⟨r1, r7, r8, r17, r18, r19, hbz, kp f0, kp f1, kp f2, kp f3, kp f4, kp f5, kp f6, kp f7, kp f8, kp f9, kp f10, kp f11, kp f12, kp f13, kp f14, kp f15, kp f16, kp f17, kp f18, kp f19, kp f20, kp f21, kp f22, kp f23, kp f24, kp f25, kp f26, kp f27, kp f28, kp f29, kp f30, kp f31, kp f32, kp f33, kp f34, kp f35, kp f36, kp f37, kp f38, kp f39, kp f40, kp f41, fun _ => rfl⟩
                          case hdone =>
                            rintro D g wz hD ⟨r1, r7, r8, r17, r18, r19, hbz, f0, f1, f2, f3, f4, f5, f6, f7, f8, f9, f10, f11, f12, f13, f14, f15, f16, f17, f18, f19, f20, f21, f22, f23, f24, f25, f26, f27, f28, f29, f30, f31, f32, f33, f34, f35, f36, f37, f38, f39, f40, f41, f42⟩
                            simp only [setAll, List.foldl_cons, List.foldl_nil, List.setIfInBounds_toArray, List.set_cons_succ, List.set_cons_zero]
                            have hSf := hide (hS11.out.step hbz)
                            have hRf := hide (hR11.out.step hbz)
                            have hbf := hide (hb11.out.trans (hbz.mono hb11.out.size))
                            have ef := f42 (hD 42)
                            rw [ef]
                            clear f0 f1 f2 f3 f4 f5 f6 f7 f8 f9 f10 f11 f12 f13 f14 f15 f16 f17 f18 f19 f20 f21 f22 f23 f24 f25 f26 f27 f28 f29 f30 f31 f32 f33 f34 f35 f36 f37 f38 f39 f40 f41 f42 hbz hS11 hR11 hb11 ef hD
                            go_wp2
                            go_roundw
                            case rel => exact ⟨k + 1, p2, V7, L7, vwz, Lz, ls2, hlt, rfl, hvwv.symm, by go_num, hide ⟨hSf.out, hRf.out, hne7.out, hbf.out, hT.out.symm, hI2.out⟩⟩
                            case measure => simp [intOf]; omega
            · have h5a : ¬ (k : Int) % 5 = 4 := by omega
              have hS5 := hS
              have hR5 := hR2
              have hb5 := hbe
              have hne5 := hne3
              clear hS hR2 hbe hne3 hvl h5
              have c0 := keepCell hb5.out C0.out
              have c1 : w3.cell? ⟨(ad.add (k * 3)).block, (ad.add (k * 3)).off + 1, none⟩ = some (.int .i64 kc.d) := by rw [← hd.out]; exact keepCell hb5.out C1.out
              have c2 := keepCell hb5.out C2.out
              go_wp2
              refine wp_region_slots [74, 75, 76, 77, 78, 79, 80, 81, 82, 83, 84, 85, 86, 87, 13, 14] (fun D g wz => g 0 = .slice (some ad) n c ∧ g 9 = .int .i64 (k : Int) ∧ Below w3.heap.size w3 wz ∧ (D 0 → (∃ q, g 74 = .slice (some ⟨q, 0, none⟩) 0 0 ∧ w3.heap.size ≤ q ∧ Blk wz q 3 #[])) ∧ (D 1 → g 75 = .slice (some ad) n c) ∧ (D 2 → g 76 = .int .i64 (k : Int)) ∧ (D 3 → g 77 = .pointer (some (ad.add (k * 3)))) ∧ (D 4 → g 78 = .pointer (some (ad.add (k * 3)))) ∧ (D 5 → g 79 = x.c.val) ∧ (D 6 → OwnV w3.heap.size 3 (g 80) (ivs kc.c) wz) ∧ (D 7 → (∃ q, g 81 = .slice (some ⟨q, 0, none⟩) 0 0 ∧ w3.heap.size ≤ q ∧ Blk wz q 4 #[])) ∧ (D 8 → g 82 = .slice (some ad) n c) ∧ (D 9 → g 83 = .int .i64 (k : Int)) ∧ (D 10 → g 84 = .pointer (some (ad.add (k * 3)))) ∧ (D 11 → g 85 = .pointer (some ⟨(ad.add (k * 3)).block, (ad.add (k * 3)).off + 2, none⟩)) ∧ (D 12 → g 86 = x.i.val) ∧ (D 13 → OwnV w3.heap.size 4 (g 87) (bvs kc.i) wz) ∧ (D 14 → OwnV w3.heap.size 3 (g 13) (ivs kc.c) wz) ∧ (D 15 → OwnV w3.heap.size 4 (g 14) (bvs kc.i) wz)) (by kernel_rfl) (by kernel_rfl) 240 rfl (by kernel_rfl) ?h0 ?hstep ?hdone
              case h0 => exact ⟨rfl, rfl, Dr.below (Dr.refl w3).drew _, nt0, nt0, nt0, nt0, nt0, nt0, nt0, nt0, nt0, nt0, nt0, nt0, nt0, nt0, nt0, nt0⟩
              case hstep =>
                intro D g wz i hi' hn hd' hI2
                obtain ⟨r0, r9, hbz, f0, f1, f2, f3, f4, f5, f6, f7, f8, f9, f10, f11, f12, f13, f14, f15⟩ := hI2
                have hi' : i < 16 := hi'
                rcases (show i = 0 ∨ i = 1 ∨ i = 2 ∨ i = 3 ∨ i = 4 ∨ i = 5 ∨ i = 6 ∨ i = 7 ∨ i = 8 ∨ i = 9 ∨ i = 10 ∨ i = 11 ∨ i = 12 ∨ i = 13 ∨ i = 14 ∨ i = 15 by omega) with rfl | rfl | rfl | rfl | rfl | rfl | rfl | rfl | rfl | rfl | rfl | rfl | rfl | rfl | rfl | rfl
                · -- 0
                  refine slot_step rfl rfl (fun az hs K hK => ?_)
                  have hK : Shut _ := hK
                  have hbs := (Below.refl wz.heap.size wz).alloc (Nat.le_refl _) (.cells #[] 3)
                  go_simp
                  exact hK.out _ _ ⟨r0, r9, hbz.trans (hbs.mono hbz.size), fun _ => ⟨_, rfl, hbz.size, Blk.new wz 3 #[]⟩, kp f1, kp f2, kp f3, kp f4, kp f5, fun h => h.elim (fun e => absurd e (by decide)) (fun h => (f6 h).step hbs), fun h => h.elim (fun e => absurd e (by decide)) (fun h => by obtain ⟨q, a1, a2, a3⟩ := (f7 h); exact ⟨q, a1, a2, a3.below hbs a3.lt⟩), kp f8, kp f9, kp f10, kp f11, kp f12, fun h => h.elim (fun e => absurd e (by decide)) (fun h => (f13 h).step hbs), fun h => h.elim (fun e => absurd e (by decide)) (fun h => (f14 h).step hbs), fun h => h.elim (fun e => absurd e (by decide)) (fun h => (f15 h).step hbs)⟩
                · -- 1
                  refine slot_step rfl rfl (fun az hs K hK => ?_)
                  have hK : Shut _ := hK
                  have e0 := hs.get 0
                  rw [r0] at e0
                  go_simp
                  exact hK.out _ _ ⟨r0, r9, hbz, kp f0, fun _ => rfl, kp f2, kp f3, kp f4, kp f5, kp f6, kp f7, kp f8, kp f9, kp f10, kp f11, kp f12, kp f13, kp f14, kp f15⟩
                · -- 2
                  refine slot_step rfl rfl (fun az hs K hK => ?_)
                  have hK : Shut _ := hK
                  have e9 := hs.get 9
                  rw [r9] at e9
                  go_simp
                  exact hK.out _ _ ⟨r0, r9, hbz, kp f0, kp f1, fun _ => rfl, kp f3, kp f4, kp f5, kp f6, kp f7, kp f8, kp f9, kp f10, kp f11, kp f12, kp f13, kp f14, kp f15⟩
                · -- 3
                  have d1 := f1 (hd' 1 (by kernel_rfl))
                  have d2 := f2 (hd' 2 (by kernel_rfl))
                  refine slot_step rfl rfl (fun az hs K hK => ?_)
                  have hK : Shut _ := hK
                  have e75 := hs.get 75
                  rw [d1] at e75
                  have e76 := hs.get 76
                  rw [d2] at e76
                  go_simp
                  exact hK.out _ _ ⟨r0, r9, hbz, kp f0, kp f1, kp f2, fun _ => rfl, kp f4, kp f5, kp f6, kp f7, kp f8, kp f9, kp f10, kp f11, kp f12, kp f13, kp f14, kp f15⟩
                · -- 4
                  have d3 := f3 (hd' 3 (by kernel_rfl))
                  refine slot_step rfl rfl (fun az hs K hK => ?_)
                  have hK : Shut _ := hK
                  have e77 := hs.get 77
                  rw [d3] at e77
                  go_simp
                  exact hK.out _ _ ⟨r0, r9, hbz, kp f0, kp f1, kp f2, kp f3, fun _ => rfl, kp f5, kp f6, kp f7, kp f8, kp f9, kp f10, kp f11, kp f12, kp f13, kp f14, kp f15⟩
                · -- 5
                  have d4 := f4 (hd' 4 (by kernel_rfl))
                  refine slot_step rfl rfl (fun az hs K hK => ?_)
                  have hK : Shut _ := hK
                  have cz := keepCell hbz c0
                  have e78 := hs.get 78
                  rw [d4] at e78
                  go_simp
                  exact hK.out _ _ ⟨r0, r9, hbz, kp f0, kp f1, kp f2, kp f3, kp f4, fun _ => rfl, kp f6, kp f7, kp f8, kp f9, kp f10, kp f11, kp f12, kp f13, kp f14, kp f15⟩
                · -- 6
                  have d0 := f0 (hd' 0 (by kernel_rfl))
                  have d5 := f5 (hd' 5 (by kernel_rfl))
                  refine slot_step rfl rfl (fun az hs K hK => ?_)
                  have hK : Shut _ := hK
                  have e79 := hs.get 79
                  rw [d5] at e79
                  obtain ⟨q, hq1, hq2, hq3⟩ := d0
                  refine oper_append_lit (.tmp 74) (.tmp 79) 40 rfl (by kernel_rfl) k_int rfl (by decide) (hs.eval hq1) (hs.eval d5) hq3 hq2 (rd_rdS (hkv.out.c.below (hb5.out.trans (hbz.mono hb5.out.size)) (Nat.le_refl _))) (by intro u hu; obtain ⟨y, _, rfl⟩ := List.mem_map.1 hu; rfl) (by unfold maxLen; omega) (by omega) ?_
                  intro v1 w1 hown hbs
                  exact hK.out _ _ ⟨r0, r9, hbz.trans (hbs.mono hbz.size), fun h => h.elim (fun e => absurd e (by decide)) (fun h => by obtain ⟨q, a1, a2, a3⟩ := (f0 h); exact ⟨q, a1, a2, a3.below hbs a3.lt⟩), kp f1, kp f2, kp f3, kp f4, kp f5, fun _ => OwnV.of hown, fun h => h.elim (fun e => absurd e (by decide)) (fun h => by obtain ⟨q, a1, a2, a3⟩ := (f7 h); exact ⟨q, a1, a2, a3.below hbs a3.lt⟩), kp f8, kp f9, kp f10, kp f11, kp f12, fun h => h.elim (fun e => absurd e (by decide)) (fun h => (f13 h).step hbs), fun h => h.elim (fun e => absurd e (by decide)) (fun h => (f14 h).step hbs), fun h => h.elim (fun e => absurd e (by decide)) (fun h => (f15 h).step hbs)⟩
                · -- 7
                  refine slot_step rfl rfl (fun az hs K hK => ?_)
                  have hK : Shut _ := hK
                  have hbs := (Below.refl wz.heap.size wz).alloc (Nat.le_refl _) (.cells #[] 4)
                  go_simp
                  exact hK.out _ _ ⟨r0, r9, hbz.trans (hbs.mono hbz.size), fun h => h.elim (fun e => absurd e (by decide)) (fun h => by obtain ⟨q, a1, a2, a3⟩ := (f0 h); exact ⟨q, a1, a2, a3.below hbs a3.lt⟩), kp f1, kp f2, kp f3, kp f4, kp f5, fun h => h.elim (fun e => absurd e (by decide)) (fun h => (f6 h).step hbs), fun _ => ⟨_, rfl, hbz.size, Blk.new wz 4 #[]⟩, kp f8, kp f9, kp f10, kp f11, kp f12, fun h => h.elim (fun e => absurd e (by decide)) (fun h => (f13 h).step hbs), fun h => h.elim (fun e => absurd e (by decide)) (fun h => (f14 h).step hbs), fun h => h.elim (fun e => absurd e (by decide)) (fun h => (f15 h).step hbs)⟩
                · -- 8
                  refine slot_step rfl rfl (fun az hs K hK => ?_)
                  have hK : Shut _ := hK
                  have e0 := hs.get 0
                  rw [r0] at e0
                  go_simp
                  exact hK.out _ _ ⟨r0, r9, hbz, kp f0, kp f1, kp f2, kp f3, kp f4, kp f5, kp f6, kp f7, fun _ => rfl, kp f9, kp f10, kp f11, kp f12, kp f13, kp f14, kp f15⟩
                · -- 9
                  refine slot_step rfl rfl (fun az hs K hK => ?_)
                  have hK : Shut _ := hK
                  have e9 := hs.get 9
                  rw [r9] at e9
                  go_simp
                  exact hK.out _ _ ⟨r0, r9, hbz, kp f0, kp f1, kp f2, kp f3, kp f4, kp f5, kp f6, kp f7, kp f8, fun _ => rfl, kp f10, kp f11, kp f12, kp f13, kp f14, kp f15⟩
                · -- 10
                  have d8 := f8 (hd' 8 (by kernel_rfl))
                  have d9 := f9 (hd' 9 (by kernel_rfl))
                  refine slot_step rfl rfl (fun az hs K hK => ?_)
                  have hK : Shut _ := hK
                  have e82 := hs.get 82
                  rw [d8] at e82
                  have e83 := hs.get 83
                  rw [d9] at e83
                  go_simp
                  exact hK.out _ _ ⟨r0, r9, hbz, kp f0, kp f1, kp f2, kp f3, kp f4, kp f5, kp f6, kp f7, kp f8, kp f9, fun _ => rfl, kp f11, kp f12, kp f13, kp f14, kp f15⟩
                · -- 11
                  have d10 := f10 (hd' 10 (by kernel_rfl))
                  refine slot_step rfl rfl (fun az hs K hK => ?_)
                  have hK : Shut _ := hK
                  have e84 := hs.get 84
                  rw [d10] at e84
                  go_simp
                  exact hK.out _ _ ⟨r0, r9, hbz, kp f0, kp f1, kp f2, kp f3, kp f4, kp f5, kp f6, kp f7, kp f8, kp f9, kp f10, fun _ => rfl, kp f12, kp f13, kp f14, kp f15⟩
                · -- 12
                  have d11 := f11 (hd' 11 (by kernel_rfl))
                  refine slot_step rfl rfl (fun az hs K hK => ?_)
                  have hK : Shut _ := hK
                  have cz := keepCell hbz c2
                  have e85 := hs.get 85
                  rw [d11] at e85
                  go_simp
                  exact hK.out _ _ ⟨r0, r9, hbz, kp f0, kp f1, kp f2, kp f3, kp f4, kp f5, kp f6, kp f7, kp f8, kp f9, kp f10, kp f11, fun _ => rfl, kp f13, kp f14, kp f15⟩
                · -- 13
                  have d7 := f7 (hd' 7 (by kernel_rfl))
                  have d12 := f12 (hd' 12 (by kernel_rfl))
                  refine slot_step rfl rfl (fun az hs K hK => ?_)
                  have hK : Shut _ := hK
                  have e86 := hs.get 86
                  rw [d12] at e86
                  obtain ⟨q, hq1, hq2, hq3⟩ := d7
                  refine oper_append_lit (.tmp 81) (.tmp 86) 59 rfl (by kernel_rfl) k_bool rfl (by decide) (hs.eval hq1) (hs.eval d12) hq3 hq2 (rd_rdS (hkv.out.i.below (hb5.out.trans (hbz.mono hb5.out.size)) (Nat.le_refl _))) (by intro u hu; obtain ⟨y, _, rfl⟩ := List.mem_map.1 hu; rfl) (by unfold maxLen; omega) (by omega) ?_
                  intro v1 w1 hown hbs
                  exact hK.out _ _ ⟨r0, r9, hbz.trans (hbs.mono hbz.size), fun h => h.elim (fun e => absurd e (by decide)) (fun h => by obtain ⟨q, a1, a2, a3⟩ := (f0 h); exact ⟨q, a1, a2, a3.below hbs a3.lt⟩), kp f1, kp f2, kp f3, kp f4, kp f5, fun h => h.elim (fun e => absurd e (by decide)) (fun h => (f6 h).step hbs), fun h => h.elim (fun e => absurd e (by decide)) (fun h => by obtain ⟨q, a1, a2, a3⟩ := (f7 h); exact ⟨q, a1, a2, a3.below hbs a3.lt⟩), kp f8, kp f9, kp f10, kp f11, kp f12, fun _ => OwnV.of hown, fun h => h.elim (fun e => absurd e (by decide)) (fun h => (f14 h).step hbs), fun h => h.elim (fun e => absurd e (by decide)) (fun h => (f15 h).step hbs)⟩
                · -- 14
                  have d6 := f6 (hd' 6 (by kernel_rfl))
                  refine slot_step rfl rfl (fun az hs K hK => ?_)
                  have hK : Shut _ := hK
                  obtain ⟨s80, h80, o80⟩ := d6
                  have e80 := hs.get 80
                  rw [h80] at e80
                  go_simp
                  exact hK.out _ _ ⟨r0, r9, hbz, kp f0, kp f1, kp f2, kp f3, kp f4, kp f5, kp f6, kp f7, kp f8, kp f9, kp f10, kp f11, kp f12, kp f13, fun _ => ⟨s80, rfl, o80⟩, kp f15⟩
                · -- 15
                  have d13 := f13 (hd' 13 (by kernel_rfl))
                  refine slot_step rfl rfl (fun az hs K hK => ?_)
                  have hK : Shut _ := hK
                  obtain ⟨s87, h87, o87⟩ := d13
                  have e87 := hs.get 87
                  rw [h87] at e87
                  go_simp
                  exact hK.out _ _ ⟨r0, r9, hbz, kp f0, kp f1, kp f2, kp f3, kp f4, kp f5, kp f6, kp f7, kp f8, kp f9, kp f10, kp f11, kp f12, kp f13, kp f14, fun _ => ⟨s87, rfl, o87⟩⟩
              case hdone =>
                rintro D g wz hD ⟨r0, r9, hbz, f0, f1, f2, f3, f4, f5, f6, f7, f8, f9, f10, f11, f12, f13, f14, f15⟩
                simp only [setAll, List.foldl_cons, List.foldl_nil, List.setIfInBounds_toArray, List.set_cons_succ, List.set_cons_zero]
                obtain ⟨A13, n13, c13, h13, hn13, o13⟩ := (f14 (hD 14)).words
                obtain ⟨A14, n14, c14, h14, hn14, o14⟩ := (f15 (hD 15)).words
                rw [h13, h14]
                have hS6 := hide (hS5.out.step hbz)
                have hR6 := hide (hR5.out.step hbz)
                have hb6 := hide (hb5.out.trans (hbz.mono hb5.out.size))
                have hw56 := hbz.size
                replace o13 := hide o13
                replace o14 := hide o14
                have hm13 : n13 ≤ 1000 := by rw [hn13]; simp [ivs]; have := hkv.out.c.len; have := hx30.1; omega
                have hm14 : n14 ≤ 1000 := by rw [hn14]; simp [bvs]; have := hkv.out.i.len; have := hx30.2; omega
                replace hn13 := hide hn13
                replace hn14 := hide hn14
                clear hbz f0 f1 f2 f3 f4 f5 f6 f7 f8 f9 f10 f11 f12 f13 f14 f15 r0 r9 c0 c1 c2 h13 h14 hD
                obtain ⟨w6, hw6⟩ : ∃ w6, w6 = wz := ⟨_, rfl⟩
                subst hw6
                obtain ⟨g17, hg17⟩ : ∃ g17, g17 = g := ⟨_, rfl⟩
                subst hg17
                have c1 : w6.cell? ⟨(ad.add (k * 3)).block, (ad.add (k * 3)).off + 1, none⟩ = some (.int .i64 kc.d) := by rw [← hd.out]; exact keepCell hb6.out C1.out
                go_wp2_with fail
                refine (store_Add p w.heap.size V Lr ls A13 n13 c13 kc.c kc.d A14 n14 c14 kc.i w6 hS6.out (rd_own (s := ⟨A13, n13, c13⟩) o13.out) hm13 (rd_own (s := ⟨A14, n14, c14⟩) o14.out) (by omega) hgood.out (by omega) (.inr (fun a ha => ⟨fun e => blk_ne o14.out hS6.out.cell (by decide) (by rw [own_addr o14.out ha, e]), fun e => own_ne o14.out hS6.out.row (by decide) _ (own_addr o14.out ha) e⟩)) hb6.out.size).mono ?_
                rintro e w7 ⟨V7, L7, rfl, hS7, hf7, hm7, hl7⟩
                rw [hab.out]
                rw [hls2.out] at hS7
                have hR7 := hide (hR6.out.frV hS6.out.row hS6.out.cell hne5.out hf7)
                have hO13 := hide (hf7.own o13.out (fun g hg e => by rcases e with rfl | e; exact blk_ne o13.out hS6.out.cell (by decide) hg; exact own_ne o13.out hS6.out.row (by decide) g hg e))
                have hO14 := hide (hf7.own o14.out (fun g hg e => by rcases e with rfl | e; exact blk_ne o14.out hS6.out.cell (by decide) hg; exact own_ne o14.out hS6.out.row (by decide) g hg e))
                have hb7 := hide (hb6.out.trans (hf7.below (B := w.heap.size) hb6.out.size (fun k h => by
                  rcases h with h | h
                  · rw [h]; exact hS6.out.low
                  · exact (hS6.out.row.lt k h).1)))
                have hSb : ∀ k, S2 A13 A14 k → w3.heap.size ≤ k ∧ k < w6.heap.size := fun k h => by
                  rcases h with ⟨a, ha, rfl⟩ | ⟨a, ha, rfl⟩
                  · exact o13.out.lt _ (own_addr o13.out ha)
                  · exact o14.out.lt _ (own_addr o14.out ha)
                have hE7 := hide (offE_new (S := S2 A13 A14) (N := w3.heap.size) (M := w6.heap.size) (L := L7) (fun x hx => by
                  rcases hm7 x hx with h | h
                  · exact .inl (hS5.out.all.lt h)
                  · exact .inr h) (fun k h => (hSb k h).1) (fun k h => (hSb k h).2))
                have hEz := hide (offE_new (S := S2 A13 A14) (N := w3.heap.size) (M := w6.heap.size) (L := Lz) (fun x hx => .inl (hR5.out.all.lt hx)) (fun k h => (hSb k h).1) (fun k h => (hSb k h).2))
                have hV7 := hide (show ∀ g, V7.ownBlock = some g → ¬ S2 A13 A14 g from fun g h e => by
                  have h1 := hSb g e
                  rcases hl7 g h with h2 | h2
                  · have := (hS5.out.row.lt g h2).2; omega
                  · omega)
                have hvz7 := hide (show ∀ g, vwz.val.ownBlock = some g → ¬ S2 A13 A14 g from fun g h e => by have h1 := hSb g e; have := (hR5.out.own.lt g h).2; omega)
                have hp7 := hide (show ¬ S2 A13 A14 p from fun e => by have h1 := hSb _ e; have := hS5.out.cell.lt; omega)
                have hne7 := hide (show ∀ g, vwz.val.ownBlock = some g → V7.ownBlock ≠ some g from fun g h e => by
                  rcases hl7 g e with h2 | h2
                  · exact hne5.out g h h2
                  · have := (hR6.out.own.lt g h).2; omega)
                have hlow7 := hide (fun k h => Nat.le_trans hb5.out.size (hSb k h).1)
                have hL7 : L7.length = ls2.length := hS7.all.1
                have hvn : vwz.n = ls2.length := by rw [row_n hR7.out.own]; exact hR7.out.all.1
                have hN2 : ls2.length ≤ 1000 := by have := hI2.out.len; omega
                replace hS7 := hide hS7
                have hbb : (b != b) = false := by simp
                clear hm7 hl7 hSb hf7 hS5 hR5 hb5 hne5 hS6 hR6 hb6 o13 o14 c1 hw56 hLr
                obtain ⟨N2, hNN⟩ : ∃ N2, ls2.length = N2 := ⟨_, rfl⟩
                rw [hNN] at hL7 hvn hN2
                replace hNN := hide hNN
                have hvn2 := hide hvn
                go_wp2_with fail
                refine (store_Len (some ⟨p, 0, none⟩) L7 w7.heap.size w7 hS7.out.keeps (by omega)).mono ?_
                rintro e w' ⟨rfl, rfl⟩
                rw [hL7]
                replace hL7 := hide hL7
                have hNI : (N2 : Int) ≤ 1000 := by omega
                go_wp2
                go_loopw [15] (fun i wr => ∃ (j : Nat) (xs : List Value), j ≤ n13 ∧ i = .int .i64 j ∧ Hid (wr.ownsRow w3.heap.size 3 1 (.slice A13 n13 c13) n13 xs) ∧ Hid (Fr (S2 A13 none) w7 wr)) (fun i _ => n13 - (intOf i).toNat)
                case atStart => exact ⟨0, _, Nat.zero_le _, rfl, hO13, Fr.refl _ _⟩
                case round =>
                  obtain ⟨j, xs, hj, rfl, hO, hF⟩ := hrel
                  have hjI : (j : Int) ≤ 1000 := by omega
                  by_cases hltj : j < n13
                  · obtain ⟨q, u, rfl, cq, fq, _, hqb⟩ := own_place hO.out hltj
                    have hO' := hide (own_set hO.out j (.int .i64 9))
                    have hF' := hide (fr_set (j := j) (u := .int .i64 9) hF.out (q := q) (.inl ⟨_, rfl, rfl⟩))
                    clear hO hF
                    go_wp2
                    go_roundw
                    case rel => exact ⟨j + 1, _, hltj, by go_num, hO', hF'⟩
                    case measure => simp [intOf]; omega
                  · have hjn : j = n13 := by omega
                    subst hjn
                    have hO14' := hide (hF.out.own hO14.out (fun g hg e => by
                      rcases e with ⟨a, ha, rfl⟩ | ⟨a, ha, _⟩
                      · exact own_ne hO14.out hO13.out (by decide) _ hg (own_addr hO13.out ha)
                      · cases ha))
                    have hF2 := hide (hF.out.more (S' := S2 A13 A14) (fun k _ h => by
                      rcases h with h | ⟨a, ha, _⟩
                      · exact .inl h
                      · cases ha))
                    clear hO hF hO14 hO13 hj hjI hltj
                    go_wp2
                    go_loopw [16] (fun i wr => ∃ (j : Nat) (bl : List Bool), j ≤ n14 ∧ i = .int .i64 j ∧ Hid (wr.ownsRow w3.heap.size 4 1 (.slice A14 n14 c14) n14 (bvs bl)) ∧ Hid (Fr (S2 A13 A14) w7 wr)) (fun i _ => n14 - (intOf i).toNat)
                    case atStart => exact ⟨0, _, Nat.zero_le _, rfl, hO14', hF2⟩
                    case round =>
                      obtain ⟨j, bl, hj, rfl, hO, hF⟩ := hrel
                      have hjI : (j : Int) ≤ 1000 := by omega
                      by_cases hltj : j < n14
                      · obtain ⟨q, u, rfl, cq, fq, hu, hqb⟩ := own_place hO.out hltj
                        obtain ⟨v, rfl⟩ := bvs_at hu
                        have hO' := hide (own_set hO.out j (.bool (!v)))
                        rw [bvs_set] at hO'
                        have hF' := hide (fr_set (j := j) (u := .bool (!v)) hF.out (q := q) (.inr ⟨_, rfl, rfl⟩))
                        clear hO hF hu
                        go_wp2
                        go_roundw
                        case rel => exact ⟨j + 1, _, hltj, by go_num, hO', hF'⟩
                        case measure => simp [intOf]; omega
                      · have hjn : j = n14 := by omega
                        subst hjn
                        obtain ⟨w8, hw8⟩ : ∃ w8, w8 = wr := ⟨_, rfl⟩
                        subst hw8
                        have hS8 := hide (hS7.out.frE hF.out hp7.out hV7.out hE7.out)
                        have hR8 := hide (hR7.out.frE hF.out hvz7.out hEz.out)
                        have hb8 := hide (hb7.out.trans (hF.out.below (B := w.heap.size) hb7.out.size (fun k h => hlow7.out k h)))
                        clear hO hF hO14' hF2 hS7 hR7 hb7 hp7 hV7 hE7 hEz hvz7 hlow7 hj hjI hltj
                        have hNL := hNN.out
                        have hbst := hide (best_is ls2 s N2)
                        cases hob : bestN ls2 s (List.range N2) with
                        | none =>
                          have hF28 := ref_Find vwz.A vwz.n vwz.c Lz ls2 B m cd s w8 (rd_ofK hR8.out.own) hR8.out.all.rd (by have := hvn2.out; omega) hI2.out.good (hrs.below hb8.out (Nat.le_refl _)) (by omega)
                          rw [show bestN ls2 s (List.range vwz.n) = none by rw [hvn2.out]; exact hob, show atZ none = -1 from rfl] at hF28
                          have hF29 := fun w9 hS9 hk9 hr9 => store_Find (some ⟨p, 0, none⟩) L7 ls2 s B m cd w9 hS9 hk9 hr9 (by omega) hI2.out.good (by have := hL7.out; omega)
                          rw [hL7.out, hob] at hF29
                          have hdep := hide (show depthL ls2 s = -1 by unfold depthL; rw [hNL, hob])
                          go_wp2_with fail
                          refine hF28.mono ?_
                          rintro e w9 ⟨rfl, hd9⟩
                          have hS9 := hide (hS8.out.step (hd9.below _))
                          have hR9 := hide (hR8.out.step (hd9.below _))
                          have hb9 := hide (hb8.out.trans (hd9.below _))
                          clear hd9 hS8 hR8 hb8 hF28
                          go_wp2_with fail
                          refine (hF29 w9 hS9.out.keeps hS9.out.all.rd (hrs.below hb9.out (Nat.le_refl _))).mono ?_
                          rintro e w10 ⟨y, rfl, hyd, hyc, hyi, hb10⟩
                          simp only [Option.map_none, Option.isSome_none]
                          have hy10 : KvO w9.heap.size w10 y zKc := ⟨hyd, hyc, hyi⟩
                          have hba := (Below.refl w10.heap.size w10).alloc (Nat.le_refl _) (.cells y.cells 66)
                          have bx := hide (Blk.new w10 66 y.cells)
                          have hyc30 : y.c.n ≤ 1000000 := by have := hy10.rd.c.len; have := Nat.zero_le 0; have h9 : zKc.c.length = 0 := rfl; omega
                          have hyi30 : y.i.n ≤ 1000000 := by have := hy10.rd.i.len; have := Nat.zero_le 0; have h9 : zKc.i.length = 0 := rfl; omega
                          obtain ⟨w11, hw11⟩ : ∃ w11, w10.alloc (.cells y.cells 66) = w11 := ⟨_, rfl⟩
                          rw [hw11] at hba bx
                          have hS11 := hide ((hS9.out.step hb10).step hba)
                          have hR11 := hide ((hR9.out.step hb10).step hba)
                          have hb11 := hide ((hb9.out.trans (hb10.mono hb9.out.size)).trans (hba.mono (Nat.le_trans hb9.out.size hb10.size)))
                          have hy11 := hide (hy10.step hba)
                          clear hyd hyc hyi hb10 hba hS9 hR9 hb9 hy10 hF29
                          clear hvn hNL
                          go_wp2
                          refine wp_region_slots [138, 139, 140, 141, 142, 143, 144, 145, 146, 147, 148, 149, 150, 151, 152, 153, 154, 155, 156, 157, 158, 159, 160, 161, 162, 163, 164, 165, 166, 167, 168, 169, 170, 171, 172, 173, 174, 175, 176, 177, 178, 179, 180] (fun D g wz => g 1 = .slice B m cd ∧ g 7 = .pointer (some ⟨p, 0, none⟩) ∧ g 17 = .int .i64 (-1) ∧ g 18 = .pointer (some ⟨w10.heap.size, 0, none⟩) ∧ g 19 = .bool false ∧ Below w11.heap.size w11 wz ∧ (D 0 → g 138 = .bool false) ∧ (D 1 → g 139 = .int .i64 (-1)) ∧ (D 2 → g 140 = .bool false) ∧ (D 3 → g 141 = .bool false) ∧ (D 4 → g 142 = .bool false) ∧ (D 5 → g 143 = .bool false) ∧ (D 6 → g 144 = .bool false) ∧ (D 7 → g 145 = undef) ∧ (D 8 → g 146 = undef) ∧ (D 9 → g 147 = undef) ∧ (D 10 → g 148 = undef) ∧ (D 11 → g 149 = undef) ∧ (D 12 → g 150 = undef) ∧ (D 13 → g 151 = undef) ∧ (D 14 → g 152 = undef) ∧ (D 15 → g 153 = undef) ∧ (D 16 → g 154 = undef) ∧ (D 17 → g 155 = undef) ∧ (D 18 → g 156 = undef) ∧ (D 19 → g 157 = undef) ∧ (D 20 → g 158 = undef) ∧ (D 21 → g 159 = undef) ∧ (D 22 → g 160 = undef) ∧ (D 23 → g 161 = undef) ∧ (D 24 → g 162 = undef) ∧ (D 25 → g 163 = .bool false) ∧ (D 26 → g 164 = .bool false) ∧ (D 27 → g 165 = .bool false) ∧ (D 28 → g 166 = .bool false) ∧ (D 29 → g 167 = .bool true) ∧ (D 30 → g 168 = .bool true) ∧ (D 31 → g 169 = .agg y.cells) ∧ (D 32 → g 170 = .agg zKv.cells) ∧ (D 33 → g 171 = .bool true) ∧ (D 34 → g 172 = .bool false) ∧ (D 35 → g 173 = .bool false) ∧ (D 36 → g 174 = .pointer (some ⟨p, 0, none⟩)) ∧ (D 37 → g 175 = .slice B m cd) ∧ (D 38 → g 176 = .int .i64 (-1)) ∧ (D 39 → g 177 = .bool false) ∧ (D 40 → g 178 = .bool false) ∧ (D 41 → g 179 = .bool false) ∧ (D 42 → g 180 = .bool false)) (by kernel_rfl) (by kernel_rfl) 240 rfl (by kernel_rfl) ?h0 ?hstep ?hdone
                          case h0 => exact ⟨rfl, rfl, rfl, rfl, rfl, Dr.below (Dr.refl w11).drew _, nt0, nt0, nt0, nt0, nt0, nt0, nt0, nt0, nt0, nt0, nt0, nt0, nt0, nt0, nt0, nt0, nt0, nt0, nt0, nt0, nt0, nt0, nt0, nt0, nt0, nt0, nt0, nt0, nt0, nt0, nt0, nt0, nt0, nt0, nt0, nt0, nt0, nt0, nt0, nt0, nt0, nt0, nt0⟩
                          case hstep =>
                            intro D g wz i hi' hn hd' hI2
                            obtain ⟨r1, r7, r17, r18, r19, hbz, f0, f1, f2, f3, f4, f5, f6, f7, f8, f9, f10, f11, f12, f13, f14, f15, f16, f17, f18, f19, f20, f21, f22, f23, f24, f25, f26, f27, f28, f29, f30, f31, f32, f33, f34, f35, f36, f37, f38, f39, f40, f41, f42⟩ := hI2
                            have hi' : i < 43 := hi'
                            rcases (show i = 0 ∨ i = 1 ∨ i = 2 ∨ i = 3 ∨ i = 4 ∨ i = 5 ∨ i = 6 ∨ i = 7 ∨ i = 8 ∨ i = 9 ∨ i = 10 ∨ i = 11 ∨ i = 12 ∨ i = 13 ∨ i = 14 ∨ i = 15 ∨ i = 16 ∨ i = 17 ∨ i = 18 ∨ i = 19 ∨ i = 20 ∨ i = 21 ∨ i = 22 ∨ i = 23 ∨ i = 24 ∨ i = 25 ∨ i = 26 ∨ i = 27 ∨ i = 28 ∨ i = 29 ∨ i = 30 ∨ i = 31 ∨ i = 32 ∨ i = 33 ∨ i = 34 ∨ i = 35 ∨ i = 36 ∨ i = 37 ∨ i = 38 ∨ i = 39 ∨ i = 40 ∨ i = 41 ∨ i = 42 by omega) with rfl | rfl | rfl | rfl | rfl | rfl | rfl | rfl | rfl | rfl | rfl | rfl | rfl | rfl | rfl | rfl | rfl | rfl | rfl | rfl | rfl | rfl | rfl | rfl | rfl | rfl | rfl | rfl | rfl | rfl | rfl | rfl | rfl | rfl | rfl | rfl | rfl | rfl | rfl | rfl | rfl | rfl | rfl
                            · -- 0
                              refine slot_step rfl rfl (fun az hs K hK => ?_)
                              have hK : Shut _ := hK
                              have e19 := hs.get 19
                              rw [r19] at e19
                              go_simp
                              exact hK.out _ _ ⟨r1, r7, r17, r18, r19, hbz, fun _ => rfl, kp f1, kp f2, kp f3, kp f4, kp f5, kp f6, kp f7, kp f8, kp f9, kp f10, kp f11, kp f12, kp f13, kp f14, kp f15, kp f16, kp f17, kp f18, kp f19, kp f20, kp f21, kp f22, kp f23, kp f24, kp f25, kp f26, kp f27, kp f28, kp f29, kp f30, kp f31, kp f32, kp f33, kp f34, kp f35, kp f36, kp f37, kp f38, kp f39, kp f40, kp f41, kp f42⟩
                            · -- 1
                              refine slot_step rfl rfl (fun az hs K hK => ?_)
                              have hK : Shut _ := hK
                              have e17 := hs.get 17
                              rw [r17] at e17
                              go_simp
                              exact hK.out _ _ ⟨r1, r7, r17, r18, r19, hbz, kp f0, fun _ => rfl, kp f2, kp f3, kp f4, kp f5, kp f6, kp f7, kp f8, kp f9, kp f10, kp f11, kp f12, kp f13, kp f14, kp f15, kp f16, kp f17, kp f18, kp f19, kp f20, kp f21, kp f22, kp f23, kp f24, kp f25, kp f26, kp f27, kp f28, kp f29, kp f30, kp f31, kp f32, kp f33, kp f34, kp f35, kp f36, kp f37, kp f38, kp f39, kp f40, kp f41, kp f42⟩
                            · -- 2
                              have d1 := f1 (hd' 1 (by kernel_rfl))
                              refine slot_step rfl rfl (fun az hs K hK => ?_)
                              have hK : Shut _ := hK
                              have e139 := hs.get 139
                              rw [d1] at e139
                              go_simp
                              exact hK.out _ _ ⟨r1, r7, r17, r18, r19, hbz, kp f0, kp f1, fun _ => rfl, kp f3, kp f4, kp f5, kp f6, kp f7, kp f8, kp f9, kp f10, kp f11, kp f12, kp f13, kp f14, kp f15, kp f16, kp f17, kp f18, kp f19, kp f20, kp f21, kp f22, kp f23, kp f24, kp f25, kp f26, kp f27, kp f28, kp f29, kp f30, kp f31, kp f32, kp f33, kp f34, kp f35, kp f36, kp f37, kp f38, kp f39, kp f40, kp f41, kp f42⟩
                            · -- 3
                              have d0 := f0 (hd' 0 (by kernel_rfl))
                              have d2 := f2 (hd' 2 (by kernel_rfl))
                              refine slot_step rfl rfl (fun az hs K hK => ?_)
                              have hK : Shut _ := hK
                              have e138 := hs.get 138
                              rw [d0] at e138
                              have e140 := hs.get 140
                              rw [d2] at e140
                              go_simp
                              exact hK.out _ _ ⟨r1, r7, r17, r18, r19, hbz, kp f0, kp f1, kp f2, fun _ => rfl, kp f4, kp f5, kp f6, kp f7, kp f8, kp f9, kp f10, kp f11, kp f12, kp f13, kp f14, kp f15, kp f16, kp f17, kp f18, kp f19, kp f20, kp f21, kp f22, kp f23, kp f24, kp f25, kp f26, kp f27, kp f28, kp f29, kp f30, kp f31, kp f32, kp f33, kp f34, kp f35, kp f36, kp f37, kp f38, kp f39, kp f40, kp f41, kp f42⟩
                            · -- 4
                              have d3 := f3 (hd' 3 (by kernel_rfl))
                              refine slot_step rfl rfl (fun az hs K hK => ?_)
                              have hK : Shut _ := hK
                              have e141 := hs.get 141
                              rw [d3] at e141
                              go_simp
                              exact hK.out _ _ ⟨r1, r7, r17, r18, r19, hbz, kp f0, kp f1, kp f2, kp f3, fun _ => rfl, kp f5, kp f6, kp f7, kp f8, kp f9, kp f10, kp f11, kp f12, kp f13, kp f14, kp f15, kp f16, kp f17, kp f18, kp f19, kp f20, kp f21, kp f22, kp f23, kp f24, kp f25, kp f26, kp f27, kp f28, kp f29, kp f30, kp f31, kp f32, kp f33, kp f34, kp f35, kp f36, kp f37, kp f38, kp f39, kp f40, kp f41, kp f42⟩
                            · -- 5
                              have d4 := f4 (hd' 4 (by kernel_rfl))
                              refine slot_step_yes (j := 4) (d := 142) rfl rfl rfl (by decide) (d4) (fun az hs K hK => ?_)
                              have hK : Shut _ := hK
                              have e142 := hs.get 142
                              rw [d4] at e142
                              have e19 := hs.get 19
                              rw [r19] at e19
                              go_simp
                              exact hK.out _ _ ⟨r1, r7, r17, r18, r19, hbz, kp f0, kp f1, kp f2, kp f3, kp f4, fun _ => rfl, kp f6, kp f7, kp f8, kp f9, kp f10, kp f11, kp f12, kp f13, kp f14, kp f15, kp f16, kp f17, kp f18, kp f19, kp f20, kp f21, kp f22, kp f23, kp f24, kp f25, kp f26, kp f27, kp f28, kp f29, kp f30, kp f31, kp f32, kp f33, kp f34, kp f35, kp f36, kp f37, kp f38, kp f39, kp f40, kp f41, kp f42⟩
                            · -- 6
                              have d4 := f4 (hd' 4 (by kernel_rfl))
                              have d5 := f5 (hd' 5 (by kernel_rfl))
                              refine slot_step_yes (j := 4) (d := 142) rfl rfl rfl (by decide) (d4) (fun az hs K hK => ?_)
                              have hK : Shut _ := hK
                              have e142 := hs.get 142
                              rw [d4] at e142
                              have e143 := hs.get 143
                              rw [d5] at e143
                              go_simp
                              exact hK.out _ _ ⟨r1, r7, r17, r18, r19, hbz, kp f0, kp f1, kp f2, kp f3, kp f4, kp f5, fun _ => rfl, kp f7, kp f8, kp f9, kp f10, kp f11, kp f12, kp f13, kp f14, kp f15, kp f16, kp f17, kp f18, kp f19, kp f20, kp f21, kp f22, kp f23, kp f24, kp f25, kp f26, kp f27, kp f28, kp f29, kp f30, kp f31, kp f32, kp f33, kp f34, kp f35, kp f36, kp f37, kp f38, kp f39, kp f40, kp f41, kp f42⟩
                            · -- 7
                              have d6 := f6 (hd' 6 (by kernel_rfl))
                              exact slot_step_no (j := 6) (d := 144) rfl rfl rfl (by decide) (d6) ⟨r1, r7, r17, r18, r19, hbz, kp f0, kp f1, kp f2, kp f3, kp f4, kp f5, kp f6, fun _ => rfl, kp f8, kp f9, kp f10, kp f11, kp f12, kp f13, kp f14, kp f15, kp f16, kp f17, kp f18, kp f19, kp f20, kp f21, kp f22, kp f23, kp f24, kp f25, kp f26, kp f27, kp f28, kp f29, kp f30, kp f31, kp f32, kp f33, kp f34, kp f35, kp f36, kp f37, kp f38, kp f39, kp f40, kp f41, kp f42⟩
                            · -- 8
                              have d6 := f6 (hd' 6 (by kernel_rfl))
                              exact slot_step_no (j := 6) (d := 144) rfl rfl rfl (by decide) (d6) ⟨r1, r7, r17, r18, r19, hbz, kp f0, kp f1, kp f2, kp f3, kp f4, kp f5, kp f6, kp f7, fun _ => rfl, kp f9, kp f10, kp f11, kp f12, kp f13, kp f14, kp f15, kp f16, kp f17, kp f18, kp f19, kp f20, kp f21, kp f22, kp f23, kp f24, kp f25, kp f26, kp f27, kp f28, kp f29, kp f30, kp f31, kp f32, kp f33, kp f34, kp f35, kp f36, kp f37, kp f38, kp f39, kp f40, kp f41, kp f42⟩
                            · -- 9
                              have d6 := f6 (hd' 6 (by kernel_rfl))
                              exact slot_step_no (j := 6) (d := 144) rfl rfl rfl (by decide) (d6) ⟨r1, r7, r17, r18, r19, hbz, kp f0, kp f1, kp f2, kp f3, kp f4, kp f5, kp f6, kp f7, kp f8, fun _ => rfl, kp f10, kp f11, kp f12, kp f13, kp f14, kp f15, kp f16, kp f17, kp f18, kp f19, kp f20, kp f21, kp f22, kp f23, kp f24, kp f25, kp f26, kp f27, kp f28, kp f29, kp f30, kp f31, kp f32, kp f33, kp f34, kp f35, kp f36, kp f37, kp f38, kp f39, kp f40, kp f41, kp f42⟩
                            · -- 10
                              have d6 := f6 (hd' 6 (by kernel_rfl))
                              exact slot_step_no (j := 6) (d := 144) rfl rfl rfl (by decide) (d6) ⟨r1, r7, r17, r18, r19, hbz, kp f0, kp f1, kp f2, kp f3, kp f4, kp f5, kp f6, kp f7, kp f8, kp f9, fun _ => rfl, kp f11, kp f12, kp f13, kp f14, kp f15, kp f16, kp f17, kp f18, kp f19, kp f20, kp f21, kp f22, kp f23, kp f24, kp f25, kp f26, kp f27, kp f28, kp f29, kp f30, kp f31, kp f32, kp f33, kp f34, kp f35, kp f36, kp f37, kp f38, kp f39, kp f40, kp f41, kp f42⟩
                            · -- 11
                              have d6 := f6 (hd' 6 (by kernel_rfl))
                              exact slot_step_no (j := 6) (d := 144) rfl rfl rfl (by decide) (d6) ⟨r1, r7, r17, r18, r19, hbz, kp f0, kp f1, kp f2, kp f3, kp f4, kp f5, kp f6, kp f7, kp f8, kp f9, kp f10, fun _ => rfl, kp f12, kp f13, kp f14, kp f15, kp f16, kp f17, kp f18, kp f19, kp f20, kp f21, kp f22, kp f23, kp f24, kp f25, kp f26, kp f27, kp f28, kp f29, kp f30, kp f31, kp f32, kp f33, kp f34, kp f35, kp f36, kp f37, kp f38, kp f39, kp f40, kp f41, kp f42⟩
                            · -- 12
                              have d6 := f6 (hd' 6 (by kernel_rfl))
                              exact slot_step_no (j := 6) (d := 144) rfl rfl rfl (by decide) (d6) ⟨r1, r7, r17, r18, r19, hbz, kp f0, kp f1, kp f2, kp f3, kp f4, kp f5, kp f6, kp f7, kp f8, kp f9, kp f10, kp f11, fun _ => rfl, kp f13, kp f14, kp f15, kp f16, kp f17, kp f18, kp f19, kp f20, kp f21, kp f22, kp f23, kp f24, kp f25, kp f26, kp f27, kp f28, kp f29, kp f30, kp f31, kp f32, kp f33, kp f34, kp f35, kp f36, kp f37, kp f38, kp f39, kp f40, kp f41, kp f42⟩
                            · -- 13
                              have d6 := f6 (hd' 6 (by kernel_rfl))
                              exact slot_step_no (j := 6) (d := 144) rfl rfl rfl (by decide) (d6) ⟨r1, r7, r17, r18, r19, hbz, kp f0, kp f1, kp f2, kp f3, kp f4, kp f5, kp f6, kp f7, kp f8, kp f9, kp f10, kp f11, kp f12, fun _ => rfl, kp f14, kp f15, kp f16, kp f17, kp f18, kp f19, kp f20, kp f21, kp f22, kp f23, kp f24, kp f25, kp f26, kp f27, kp f28, kp f29, kp f30, kp f31, kp f32, kp f33, kp f34, kp f35, kp f36, kp f37, kp f38, kp f39, kp f40, kp f41, kp f42⟩
                            · -- 14
                              have d6 := f6 (hd' 6 (by kernel_rfl))
                              exact slot_step_no (j := 6) (d := 144) rfl rfl rfl (by decide) (d6) ⟨r1, r7, r17, r18, r19, hbz, kp f0, kp f1, kp f2, kp f3, kp f4, kp f5, kp f6, kp f7, kp f8, kp f9, kp f10, kp f11, kp f12, kp f13, fun _ => rfl, kp f15, kp f16, kp f17, kp f18, kp f19, kp f20, kp f21, kp f22, kp f23, kp f24, kp f25, kp f26, kp f27, kp f28, kp f29, kp f30, kp f31, kp f32, kp f33, kp f34, kp f35, kp f36, kp f37, kp f38, kp f39, kp f40, kp f41, kp f42⟩
                            · -- 15
                              have d14 := f14 (hd' 14 (by kernel_rfl))
                              exact slot_step_nou (j := 14) (d := 152) rfl rfl rfl (by decide) (d14) ⟨r1, r7, r17, r18, r19, hbz, kp f0, kp f1, kp f2, kp f3, kp f4, kp f5, kp f6, kp f7, kp f8, kp f9, kp f10, kp f11, kp f12, kp f13, kp f14, fun _ => rfl, kp f16, kp f17, kp f18, kp f19, kp f20, kp f21, kp f22, kp f23, kp f24, kp f25, kp f26, kp f27, kp f28, kp f29, kp f30, kp f31, kp f32, kp f33, kp f34, kp f35, kp f36, kp f37, kp f38, kp f39, kp f40, kp f41, kp f42⟩
                            · -- 16
                              have d14 := f14 (hd' 14 (by kernel_rfl))
                              exact slot_step_nou (j := 14) (d := 152) rfl rfl rfl (by decide) (d14) ⟨r1, r7, r17, r18, r19, hbz, kp f0, kp f1, kp f2, kp f3, kp f4, kp f5, kp f6, kp f7, kp f8, kp f9, kp f10, kp f11, kp f12, kp f13, kp f14, kp f15, fun _ => rfl, kp f17, kp f18, kp f19, kp f20, kp f21, kp f22, kp f23, kp f24, kp f25, kp f26, kp f27, kp f28, kp f29, kp f30, kp f31, kp f32, kp f33, kp f34, kp f35, kp f36, kp f37, kp f38, kp f39, kp f40, kp f41, kp f42⟩
                            · -- 17
                              have d14 := f14 (hd' 14 (by kernel_rfl))
                              exact slot_step_nou (j := 14) (d := 152) rfl rfl rfl (by decide) (d14) ⟨r1, r7, r17, r18, r19, hbz, kp f0, kp f1, kp f2, kp f3, kp f4, kp f5, kp f6, kp f7, kp f8, kp f9, kp f10, kp f11, kp f12, kp f13, kp f14, kp f15, kp f16, fun _ => rfl, kp f18, kp f19, kp f20, kp f21, kp f22, kp f23, kp f24, kp f25, kp f26, kp f27, kp f28, kp f29, kp f30, kp f31, kp f32, kp f33, kp f34, kp f35, kp f36, kp f37, kp f38, kp f39, kp f40, kp f41, kp f42⟩
                            · -- 18
                              have d14 := f14 (hd' 14 (by kernel_rfl))
                              exact slot_step_nou (j := 14) (d := 152) rfl rfl rfl (by decide) (d14) ⟨r1, r7, r17, r18, r19, hbz, kp f0, kp f1, kp f2, kp f3, kp f4, kp f5, kp f6, kp f7, kp f8, kp f9, kp f10, kp f11, kp f12, kp f13, kp f14, kp f15, kp f16, kp f17, fun _ => rfl, kp f19, kp f20, kp f21, kp f22, kp f23, kp f24, kp f25, kp f26, kp f27, kp f28, kp f29, kp f30, kp f31, kp f32, kp f33, kp f34, kp f35, kp f36, kp f37, kp f38, kp f39, kp f40, kp f41, kp f42⟩
                            · -- 19
                              have d14 := f14 (hd' 14 (by kernel_rfl))
                              exact slot_step_nou (j := 14) (d := 152) rfl rfl rfl (by decide) (d14) ⟨r1, r7, r17, r18, r19, hbz, kp f0, kp f1, kp f2, kp f3, kp f4, kp f5, kp f6, kp f7, kp f8, kp f9, kp f10, kp f11, kp f12, kp f13, kp f14, kp f15, kp f16, kp f17, kp f18, fun _ => rfl, kp f20, kp f21, kp f22, kp f23, kp f24, kp f25, kp f26, kp f27, kp f28, kp f29, kp f30, kp f31, kp f32, kp f33, kp f34, kp f35, kp f36, kp f37, kp f38, kp f39, kp f40, kp f41, kp f42⟩
                            · -- 20
                              have d14 := f14 (hd' 14 (by kernel_rfl))
                              exact slot_step_nou (j := 14) (d := 152) rfl rfl rfl (by decide) (d14) ⟨r1, r7, r17, r18, r19, hbz, kp f0, kp f1, kp f2, kp f3, kp f4, kp f5, kp f6, kp f7, kp f8, kp f9, kp f10, kp f11, kp f12, kp f13, kp f14, kp f15, kp f16, kp f17, kp f18, kp f19, fun _ => rfl, kp f21, kp f22, kp f23, kp f24, kp f25, kp f26, kp f27, kp f28, kp f29, kp f30, kp f31, kp f32, kp f33, kp f34, kp f35, kp f36, kp f37, kp f38, kp f39, kp f40, kp f41, kp f42⟩
                            · -- 21
                              have d14 := f14 (hd' 14 (by kernel_rfl))
                              exact slot_step_nou (j := 14) (d := 152) rfl rfl rfl (by decide) (d14) ⟨r1, r7, r17, r18, r19, hbz, kp f0, kp f1, kp f2, kp f3, kp f4, kp f5, kp f6, kp f7, kp f8, kp f9, kp f10, kp f11, kp f12, kp f13, kp f14, kp f15, kp f16, kp f17, kp f18, kp f19, kp f20, fun _ => rfl, kp f22, kp f23, kp f24, kp f25, kp f26, kp f27, kp f28, kp f29, kp f30, kp f31, kp f32, kp f33, kp f34, kp f35, kp f36, kp f37, kp f38, kp f39, kp f40, kp f41, kp f42⟩
                            · -- 22
                              have d14 := f14 (hd' 14 (by kernel_rfl))
                              exact slot_step_nou (j := 14) (d := 152) rfl rfl rfl (by decide) (d14) ⟨r1, r7, r17, r18, r19, hbz, kp f0, kp f1, kp f2, kp f3, kp f4, kp f5, kp f6, kp f7, kp f8, kp f9, kp f10, kp f11, kp f12, kp f13, kp f14, kp f15, kp f16, kp f17, kp f18, kp f19, kp f20, kp f21, fun _ => rfl, kp f23, kp f24, kp f25, kp f26, kp f27, kp f28, kp f29, kp f30, kp f31, kp f32, kp f33, kp f34, kp f35, kp f36, kp f37, kp f38, kp f39, kp f40, kp f41, kp f42⟩
                            · -- 23
                              have d14 := f14 (hd' 14 (by kernel_rfl))
                              exact slot_step_nou (j := 14) (d := 152) rfl rfl rfl (by decide) (d14) ⟨r1, r7, r17, r18, r19, hbz, kp f0, kp f1, kp f2, kp f3, kp f4, kp f5, kp f6, kp f7, kp f8, kp f9, kp f10, kp f11, kp f12, kp f13, kp f14, kp f15, kp f16, kp f17, kp f18, kp f19, kp f20, kp f21, kp f22, fun _ => rfl, kp f24, kp f25, kp f26, kp f27, kp f28, kp f29, kp f30, kp f31, kp f32, kp f33, kp f34, kp f35, kp f36, kp f37, kp f38, kp f39, kp f40, kp f41, kp f42⟩
                            · -- 24
                              have d6 := f6 (hd' 6 (by kernel_rfl))
                              exact slot_step_no (j := 6) (d := 144) rfl rfl rfl (by decide) (d6) ⟨r1, r7, r17, r18, r19, hbz, kp f0, kp f1, kp f2, kp f3, kp f4, kp f5, kp f6, kp f7, kp f8, kp f9, kp f10, kp f11, kp f12, kp f13, kp f14, kp f15, kp f16, kp f17, kp f18, kp f19, kp f20, kp f21, kp f22, kp f23, fun _ => rfl, kp f25, kp f26, kp f27, kp f28, kp f29, kp f30, kp f31, kp f32, kp f33, kp f34, kp f35, kp f36, kp f37, kp f38, kp f39, kp f40, kp f41, kp f42⟩
                            · -- 25
                              have d4 := f4 (hd' 4 (by kernel_rfl))
                              have d6 := f6 (hd' 6 (by kernel_rfl))
                              have d24 := f24 (hd' 24 (by kernel_rfl))
                              refine slot_step_yes (j := 4) (d := 142) rfl rfl rfl (by decide) (d4) (fun az hs K hK => ?_)
                              have hK : Shut _ := hK
                              have e142 := hs.get 142
                              rw [d4] at e142
                              have e144 := hs.get 144
                              rw [d6] at e144
                              have e162 := hs.get 162
                              rw [d24] at e162
                              go_simp
                              exact hK.out _ _ ⟨r1, r7, r17, r18, r19, hbz, kp f0, kp f1, kp f2, kp f3, kp f4, kp f5, kp f6, kp f7, kp f8, kp f9, kp f10, kp f11, kp f12, kp f13, kp f14, kp f15, kp f16, kp f17, kp f18, kp f19, kp f20, kp f21, kp f22, kp f23, kp f24, fun _ => rfl, kp f26, kp f27, kp f28, kp f29, kp f30, kp f31, kp f32, kp f33, kp f34, kp f35, kp f36, kp f37, kp f38, kp f39, kp f40, kp f41, kp f42⟩
                            · -- 26
                              have d4 := f4 (hd' 4 (by kernel_rfl))
                              have d25 := f25 (hd' 25 (by kernel_rfl))
                              refine slot_step rfl rfl (fun az hs K hK => ?_)
                              have hK : Shut _ := hK
                              have e142 := hs.get 142
                              rw [d4] at e142
                              have e163 := hs.get 163
                              rw [d25] at e163
                              go_simp
                              exact hK.out _ _ ⟨r1, r7, r17, r18, r19, hbz, kp f0, kp f1, kp f2, kp f3, kp f4, kp f5, kp f6, kp f7, kp f8, kp f9, kp f10, kp f11, kp f12, kp f13, kp f14, kp f15, kp f16, kp f17, kp f18, kp f19, kp f20, kp f21, kp f22, kp f23, kp f24, kp f25, fun _ => rfl, kp f27, kp f28, kp f29, kp f30, kp f31, kp f32, kp f33, kp f34, kp f35, kp f36, kp f37, kp f38, kp f39, kp f40, kp f41, kp f42⟩
                            · -- 27
                              have d26 := f26 (hd' 26 (by kernel_rfl))
                              refine slot_step rfl rfl (fun az hs K hK => ?_)
                              have hK : Shut _ := hK
                              have e164 := hs.get 164
                              rw [d26] at e164
                              go_simp
                              exact hK.out _ _ ⟨r1, r7, r17, r18, r19, hbz, kp f0, kp f1, kp f2, kp f3, kp f4, kp f5, kp f6, kp f7, kp f8, kp f9, kp f10, kp f11, kp f12, kp f13, kp f14, kp f15, kp f16, kp f17, kp f18, kp f19, kp f20, kp f21, kp f22, kp f23, kp f24, kp f25, kp f26, fun _ => rfl, kp f28, kp f29, kp f30, kp f31, kp f32, kp f33, kp f34, kp f35, kp f36, kp f37, kp f38, kp f39, kp f40, kp f41, kp f42⟩
                            · -- 28
                              have d27 := f27 (hd' 27 (by kernel_rfl))
                              refine slot_step_yes (j := 27) (d := 165) rfl rfl rfl (by decide) (d27) (fun az hs K hK => ?_)
                              have hK : Shut _ := hK
                              have e165 := hs.get 165
                              rw [d27] at e165
                              have e19 := hs.get 19
                              rw [r19] at e19
                              go_simp
                              exact hK.out _ _ ⟨r1, r7, r17, r18, r19, hbz, kp f0, kp f1, kp f2, kp f3, kp f4, kp f5, kp f6, kp f7, kp f8, kp f9, kp f10, kp f11, kp f12, kp f13, kp f14, kp f15, kp f16, kp f17, kp f18, kp f19, kp f20, kp f21, kp f22, kp f23, kp f24, kp f25, kp f26, kp f27, fun _ => rfl, kp f29, kp f30, kp f31, kp f32, kp f33, kp f34, kp f35, kp f36, kp f37, kp f38, kp f39, kp f40, kp f41, kp f42⟩
                            · -- 29
                              have d27 := f27 (hd' 27 (by kernel_rfl))
                              have d28 := f28 (hd' 28 (by kernel_rfl))
                              refine slot_step_yes (j := 27) (d := 165) rfl rfl rfl (by decide) (d27) (fun az hs K hK => ?_)
                              have hK : Shut _ := hK
                              have e165 := hs.get 165
                              rw [d27] at e165
                              have e166 := hs.get 166
                              rw [d28] at e166
                              go_simp
                              exact hK.out _ _ ⟨r1, r7, r17, r18, r19, hbz, kp f0, kp f1, kp f2, kp f3, kp f4, kp f5, kp f6, kp f7, kp f8, kp f9, kp f10, kp f11, kp f12, kp f13, kp f14, kp f15, kp f16, kp f17, kp f18, kp f19, kp f20, kp f21, kp f22, kp f23, kp f24, kp f25, kp f26, kp f27, kp f28, fun _ => rfl, kp f30, kp f31, kp f32, kp f33, kp f34, kp f35, kp f36, kp f37, kp f38, kp f39, kp f40, kp f41, kp f42⟩
                            · -- 30
                              have d27 := f27 (hd' 27 (by kernel_rfl))
                              have d29 := f29 (hd' 29 (by kernel_rfl))
                              refine slot_step_yes (j := 27) (d := 165) rfl rfl rfl (by decide) (d27) (fun az hs K hK => ?_)
                              have hK : Shut _ := hK
                              have e165 := hs.get 165
                              rw [d27] at e165
                              have e167 := hs.get 167
                              rw [d29] at e167
                              go_simp
                              exact hK.out _ _ ⟨r1, r7, r17, r18, r19, hbz, kp f0, kp f1, kp f2, kp f3, kp f4, kp f5, kp f6, kp f7, kp f8, kp f9, kp f10, kp f11, kp f12, kp f13, kp f14, kp f15, kp f16, kp f17, kp f18, kp f19, kp f20, kp f21, kp f22, kp f23, kp f24, kp f25, kp f26, kp f27, kp f28, kp f29, fun _ => rfl, kp f31, kp f32, kp f33, kp f34, kp f35, kp f36, kp f37, kp f38, kp f39, kp f40, kp f41, kp f42⟩
                            · -- 31
                              have d30 := f30 (hd' 30 (by kernel_rfl))
                              refine slot_step_yes (j := 30) (d := 168) rfl rfl rfl (by decide) (d30) (fun az hs K hK => ?_)
                              have hK : Shut _ := hK
                              have b0 := keepCell hbz (show w11.cell? ⟨w10.heap.size, 0, none⟩ = some y.c.val from bx.out.cell 0)
                              have b1 := keepCell hbz (show w11.cell? ⟨w10.heap.size, 1, none⟩ = some (.int .i64 y.d) from bx.out.cell 1)
                              have b2 := keepCell hbz (show w11.cell? ⟨w10.heap.size, 2, none⟩ = some y.i.val from bx.out.cell 2)
                              have e168 := hs.get 168
                              rw [d30] at e168
                              have e18 := hs.get 18
                              rw [r18] at e18
                              go_simp
                              exact hK.out _ _ ⟨r1, r7, r17, r18, r19, hbz, kp f0, kp f1, kp f2, kp f3, kp f4, kp f5, kp f6, kp f7, kp f8, kp f9, kp f10, kp f11, kp f12, kp f13, kp f14, kp f15, kp f16, kp f17, kp f18, kp f19, kp f20, kp f21, kp f22, kp f23, kp f24, kp f25, kp f26, kp f27, kp f28, kp f29, kp f30, fun _ => rfl, kp f32, kp f33, kp f34, kp f35, kp f36, kp f37, kp f38, kp f39, kp f40, kp f41, kp f42⟩
                            · -- 32
                              have d30 := f30 (hd' 30 (by kernel_rfl))
                              refine slot_step_yes (j := 30) (d := 168) rfl rfl rfl (by decide) (d30) (fun az hs K hK => ?_)
                              have hK : Shut _ := hK
                              have e168 := hs.get 168
                              rw [d30] at e168
                              go_simp
                              exact hK.out _ _ ⟨r1, r7, r17, r18, r19, hbz, kp f0, kp f1, kp f2, kp f3, kp f4, kp f5, kp f6, kp f7, kp f8, kp f9, kp f10, kp f11, kp f12, kp f13, kp f14, kp f15, kp f16, kp f17, kp f18, kp f19, kp f20, kp f21, kp f22, kp f23, kp f24, kp f25, kp f26, kp f27, kp f28, kp f29, kp f30, kp f31, fun _ => rfl, kp f33, kp f34, kp f35, kp f36, kp f37, kp f38, kp f39, kp f40, kp f41, kp f42⟩
                            · -- 33
                              have d30 := f30 (hd' 30 (by kernel_rfl))
                              have d31 := f31 (hd' 31 (by kernel_rfl))
                              have d32 := f32 (hd' 32 (by kernel_rfl))
                              refine slot_step_yes (j := 30) (d := 168) rfl rfl rfl (by decide) (d30) (fun az hs K hK => ?_)
                              have hK : Shut _ := hK
                              have e168 := hs.get 168
                              rw [d30] at e168
                              have e169 := hs.get 169
                              rw [d31] at e169
                              have e170 := hs.get 170
                              rw [d32] at e170
                              go_wp2_with (go_at_call 51; refine (same_is y zKv (zKc) (zKc) wz (hy11.out.rd.below hbz (Nat.le_refl _)) ⟨rfl, Rd.nil _ _, Rd.nil _ _⟩ hyc30 hyi30 (sameK_self _)).mono ?_; rintro e wy ⟨rfl, hbs⟩)
                              exact ⟨r1, r7, r17, r18, r19, hbz.trans (hbs.mono hbz.size), kp f0, kp f1, kp f2, kp f3, kp f4, kp f5, kp f6, kp f7, kp f8, kp f9, kp f10, kp f11, kp f12, kp f13, kp f14, kp f15, kp f16, kp f17, kp f18, kp f19, kp f20, kp f21, kp f22, kp f23, kp f24, kp f25, kp f26, kp f27, kp f28, kp f29, kp f30, kp f31, kp f32, fun _ => rfl, kp f34, kp f35, kp f36, kp f37, kp f38, kp f39, kp f40, kp f41, kp f42⟩
                            · -- 34
                              have d30 := f30 (hd' 30 (by kernel_rfl))
                              have d33 := f33 (hd' 33 (by kernel_rfl))
                              refine slot_step_yes (j := 30) (d := 168) rfl rfl rfl (by decide) (d30) (fun az hs K hK => ?_)
                              have hK : Shut _ := hK
                              have e168 := hs.get 168
                              rw [d30] at e168
                              have e171 := hs.get 171
                              rw [d33] at e171
                              go_simp
                              exact hK.out _ _ ⟨r1, r7, r17, r18, r19, hbz, kp f0, kp f1, kp f2, kp f3, kp f4, kp f5, kp f6, kp f7, kp f8, kp f9, kp f10, kp f11, kp f12, kp f13, kp f14, kp f15, kp f16, kp f17, kp f18, kp f19, kp f20, kp f21, kp f22, kp f23, kp f24, kp f25, kp f26, kp f27, kp f28, kp f29, kp f30, kp f31, kp f32, kp f33, fun _ => rfl, kp f35, kp f36, kp f37, kp f38, kp f39, kp f40, kp f41, kp f42⟩
                            · -- 35
                              have d30 := f30 (hd' 30 (by kernel_rfl))
                              have d34 := f34 (hd' 34 (by kernel_rfl))
                              refine slot_step_yes (j := 30) (d := 168) rfl rfl rfl (by decide) (d30) (fun az hs K hK => ?_)
                              have hK : Shut _ := hK
                              have e168 := hs.get 168
                              rw [d30] at e168
                              have e172 := hs.get 172
                              rw [d34] at e172
                              go_simp
                              exact hK.out _ _ ⟨r1, r7, r17, r18, r19, hbz, kp f0, kp f1, kp f2, kp f3, kp f4, kp f5, kp f6, kp f7, kp f8, kp f9, kp f10, kp f11, kp f12, kp f13, kp f14, kp f15, kp f16, kp f17, kp f18, kp f19, kp f20, kp f21, kp f22, kp f23, kp f24, kp f25, kp f26, kp f27, kp f28, kp f29, kp f30, kp f31, kp f32, kp f33, kp f34, fun _ => rfl, kp f36, kp f37, kp f38, kp f39, kp f40, kp f41, kp f42⟩
                            · -- 36
                              have d35 := f35 (hd' 35 (by kernel_rfl))
                              refine slot_step_yes (j := 35) (d := 173) rfl rfl rfl (by decide) (d35) (fun az hs K hK => ?_)
                              have hK : Shut _ := hK
                              have e173 := hs.get 173
                              rw [d35] at e173
                              have e7 := hs.get 7
                              rw [r7] at e7
                              go_simp
                              exact hK.out _ _ ⟨r1, r7, r17, r18, r19, hbz, kp f0, kp f1, kp f2, kp f3, kp f4, kp f5, kp f6, kp f7, kp f8, kp f9, kp f10, kp f11, kp f12, kp f13, kp f14, kp f15, kp f16, kp f17, kp f18, kp f19, kp f20, kp f21, kp f22, kp f23, kp f24, kp f25, kp f26, kp f27, kp f28, kp f29, kp f30, kp f31, kp f32, kp f33, kp f34, kp f35, fun _ => rfl, kp f37, kp f38, kp f39, kp f40, kp f41, kp f42⟩
                            · -- 37
                              have d35 := f35 (hd' 35 (by kernel_rfl))
                              refine slot_step_yes (j := 35) (d := 173) rfl rfl rfl (by decide) (d35) (fun az hs K hK => ?_)
                              have hK : Shut _ := hK
                              have e173 := hs.get 173
                              rw [d35] at e173
                              have e1 := hs.get 1
                              rw [r1] at e1
                              go_simp
                              exact hK.out _ _ ⟨r1, r7, r17, r18, r19, hbz, kp f0, kp f1, kp f2, kp f3, kp f4, kp f5, kp f6, kp f7, kp f8, kp f9, kp f10, kp f11, kp f12, kp f13, kp f14, kp f15, kp f16, kp f17, kp f18, kp f19, kp f20, kp f21, kp f22, kp f23, kp f24, kp f25, kp f26, kp f27, kp f28, kp f29, kp f30, kp f31, kp f32, kp f33, kp f34, kp f35, kp f36, fun _ => rfl, kp f38, kp f39, kp f40, kp f41, kp f42⟩
                            · -- 38
                              have d35 := f35 (hd' 35 (by kernel_rfl))
                              have d36 := f36 (hd' 36 (by kernel_rfl))
                              have d37 := f37 (hd' 37 (by kernel_rfl))
                              refine slot_step_yes (j := 35) (d := 173) rfl rfl rfl (by decide) (d35) (fun az hs K hK => ?_)
                              have hK : Shut _ := hK
                              have e173 := hs.get 173
                              rw [d35] at e173
                              have e174 := hs.get 174
                              rw [d36] at e174
                              have e175 := hs.get 175
                              rw [d37] at e175
                              have hDp := store_Depth (some ⟨p, 0, none⟩) L7 ls2 s B m cd wz (hS11.out.step hbz).keeps (hS11.out.step hbz).all.rd (hrs.below (hb11.out.trans (hbz.mono hb11.out.size)) (Nat.le_refl _)) (by omega) hI2.out.good (by have := hL7.out; omega)
                              rw [hdep.out] at hDp
                              go_wp2_with (go_at_call 40; refine hDp.mono ?_; rintro e wy ⟨rfl, hbs⟩)
                              exact ⟨r1, r7, r17, r18, r19, hbz.trans (hbs.mono hbz.size), kp f0, kp f1, kp f2, kp f3, kp f4, kp f5, kp f6, kp f7, kp f8, kp f9, kp f10, kp f11, kp f12, kp f13, kp f14, kp f15, kp f16, kp f17, kp f18, kp f19, kp f20, kp f21, kp f22, kp f23, kp f24, kp f25, kp f26, kp f27, kp f28, kp f29, kp f30, kp f31, kp f32, kp f33, kp f34, kp f35, kp f36, kp f37, fun _ => rfl, kp f39, kp f40, kp f41, kp f42⟩
                            · -- 39
                              have d35 := f35 (hd' 35 (by kernel_rfl))
                              have d38 := f38 (hd' 38 (by kernel_rfl))
                              refine slot_step_yes (j := 35) (d := 173) rfl rfl rfl (by decide) (d35) (fun az hs K hK => ?_)
                              have hK : Shut _ := hK
                              have e173 := hs.get 173
                              rw [d35] at e173
                              have e176 := hs.get 176
                              rw [d38] at e176
                              go_simp
                              exact hK.out _ _ ⟨r1, r7, r17, r18, r19, hbz, kp f0, kp f1, kp f2, kp f3, kp f4, kp f5, kp f6, kp f7, kp f8, kp f9, kp f10, kp f11, kp f12, kp f13, kp f14, kp f15, kp f16, kp f17, kp f18, kp f19, kp f20, kp f21, kp f22, kp f23, kp f24, kp f25, kp f26, kp f27, kp f28, kp f29, kp f30, kp f31, kp f32, kp f33, kp f34, kp f35, kp f36, kp f37, kp f38, fun _ => rfl, kp f40, kp f41, kp f42⟩
                            · -- 40
                              have d30 := f30 (hd' 30 (by kernel_rfl))
                              have d35 := f35 (hd' 35 (by kernel_rfl))
                              have d39 := f39 (hd' 39 (by kernel_rfl))
                              refine slot_step_yes (j := 30) (d := 168) rfl rfl rfl (by decide) (d30) (fun az hs K hK => ?_)
                              have hK : Shut _ := hK
                              have e168 := hs.get 168
                              rw [d30] at e168
                              have e173 := hs.get 173
                              rw [d35] at e173
                              have e177 := hs.get 177
                              rw [d39] at e177
                              go_simp
                              exact hK.out _ _ ⟨r1, r7, r17, r18, r19, hbz, kp f0, kp f1, kp f2, kp f3, kp f4, kp f5, kp f6, kp f7, kp f8, kp f9, kp f10, kp f11, kp f12, kp f13, kp f14, kp f15, kp f16, kp f17, kp f18, kp f19, kp f20, kp f21, kp f22, kp f23, kp f24, kp f25, kp f26, kp f27, kp f28, kp f29, kp f30, kp f31, kp f32, kp f33, kp f34, kp f35, kp f36, kp f37, kp f38, kp f39, fun _ => rfl, kp f41, kp f42⟩
                            · -- 41
                              have d27 := f27 (hd' 27 (by kernel_rfl))
                              have d30 := f30 (hd' 30 (by kernel_rfl))
                              have d40 := f40 (hd' 40 (by kernel_rfl))
                              refine slot_step_yes (j := 27) (d := 165) rfl rfl rfl (by decide) (d27) (fun az hs K hK => ?_)
                              have hK : Shut _ := hK
                              have e165 := hs.get 165
                              rw [d27] at e165
                              have e168 := hs.get 168
                              rw [d30] at e168
                              have e178 := hs.get 178
                              rw [d40] at e178
                              go_simp
                              exact hK.out _ _ ⟨r1, r7, r17, r18, r19, hbz, kp f0, kp f1, kp f2, kp f3, kp f4, kp f5, kp f6, kp f7, kp f8, kp f9, kp f10, kp f11, kp f12, kp f13, kp f14, kp f15, kp f16, kp f17, kp f18, kp f19, kp f20, kp f21, kp f22, kp f23, kp f24, kp f25, kp f26, kp f27, kp f28, kp f29, kp f30, kp f31, kp f32, kp f33, kp f34, kp f35, kp f36, kp f37, kp f38, kp f39, kp f40, fun _ => rfl, kp f42⟩
                            · -- 42
                              have d27 := f27 (hd' 27 (by kernel_rfl))
                              have d41 := f41 (hd' 41 (by kernel_rfl))
                              refine slot_step rfl rfl (fun az hs K hK => ?_)
                              have hK : Shut _ := hK
                              have e165 := hs.get 165
                              rw [d27] at e165
                              have e179 := hs.get 179
                              rw [d41] at e179
                              go_simp
                              exact hK.out _ _ ⟨r1, r7, r17, r18, r19, hbz, kp f0, kp f1, kp f2, kp f3, kp f4, kp f5, kp f6, kp f7, kp f8, kp f9, kp f10, kp f11, kp f12, kp f13, kp f14, kp f15, kp f16, kp f17, kp f18, kp f19, kp f20, kp f21, kp f22, kp f23, kp f24, kp f25, kp f26, kp f27, kp f28, kp f29, kp f30, kp f31, kp f32, kp f33, kp f34, kp f35, kp f36, kp f37, kp f38, kp f39, kp f40, kp f41, fun _ => rfl⟩
                          case hdone =>
                            rintro D g wz hD ⟨r1, r7, r17, r18, r19, hbz, f0, f1, f2, f3, f4, f5, f6, f7, f8, f9, f10, f11, f12, f13, f14, f15, f16, f17, f18, f19, f20, f21, f22, f23, f24, f25, f26, f27, f28, f29, f30, f31, f32, f33, f34, f35, f36, f37, f38, f39, f40, f41, f42⟩
                            simp only [setAll, List.foldl_cons, List.foldl_nil, List.setIfInBounds_toArray, List.set_cons_succ, List.set_cons_zero]
                            have hSf := hide (hS11.out.step hbz)
                            have hRf := hide (hR11.out.step hbz)
                            have hbf := hide (hb11.out.trans (hbz.mono hb11.out.size))
                            have ef := f42 (hD 42)
                            rw [ef]
                            clear f0 f1 f2 f3 f4 f5 f6 f7 f8 f9 f10 f11 f12 f13 f14 f15 f16 f17 f18 f19 f20 f21 f22 f23 f24 f25 f26 f27 f28 f29 f30 f31 f32 f33 f34 f35 f36 f37 f38 f39 f40 f41 f42 hbz hS11 hR11 hb11 ef hD
                            go_wp2
                            go_roundw
                            case rel => exact ⟨k + 1, p, V7, L7, vwz, Lz, ls2, hlt, rfl, rfl, by go_num, hide ⟨hSf.out, hRf.out, hne7.out, hbf.out, hT.out.symm, hI2.out⟩⟩
                            case measure => simp [intOf]; omega
                        | some jb =>
                          have hF28 := ref_Find vwz.A vwz.n vwz.c Lz ls2 B m cd s w8 (rd_ofK hR8.out.own) hR8.out.all.rd (by have := hvn2.out; omega) hI2.out.good (hrs.below hb8.out (Nat.le_refl _)) (by omega)
                          rw [show bestN ls2 s (List.range vwz.n) = some jb by rw [hvn2.out]; exact hob, show atZ (some jb) = (jb : Int) from rfl] at hF28
                          have hF29 := fun w9 hS9 hk9 hr9 => store_Find (some ⟨p, 0, none⟩) L7 ls2 s B m cd w9 hS9 hk9 hr9 (by omega) hI2.out.good (by have := hL7.out; omega)
                          rw [hL7.out, hob] at hF29
                          have hdep := hide (show depthL ls2 s = (kcAt ls2 jb).d by unfold depthL; rw [hNL, hob])
                          go_wp2_with fail
                          refine hF28.mono ?_
                          rintro e w9 ⟨rfl, hd9⟩
                          have hS9 := hide (hS8.out.step (hd9.below _))
                          have hR9 := hide (hR8.out.step (hd9.below _))
                          have hb9 := hide (hb8.out.trans (hd9.below _))
                          clear hd9 hS8 hR8 hb8 hF28
                          go_wp2_with fail
                          refine (hF29 w9 hS9.out.keeps hS9.out.all.rd (hrs.below hb9.out (Nat.le_refl _))).mono ?_
                          rintro e w10 ⟨y, rfl, hyd, hyc, hyi, hb10⟩
                          simp only [Option.map_some, Option.isSome_some]
                          have hy10 : KvO w9.heap.size w10 y (kcAt ls2 jb) := ⟨hyd, hyc, hyi⟩
                          have hba := (Below.refl w10.heap.size w10).alloc (Nat.le_refl _) (.cells y.cells 66)
                          have bx := hide (Blk.new w10 66 y.cells)
                          have hyc30 : y.c.n ≤ 1000000 := by have := hy10.rd.c.len; have := (hI2.out.good.at (j := jb) (by rw [hNL]; exact best_lt hob)).c; omega
                          have hyi30 : y.i.n ≤ 1000000 := by have := hy10.rd.i.len; have := (hI2.out.good.at (j := jb) (by rw [hNL]; exact best_lt hob)).i; omega
                          obtain ⟨w11, hw11⟩ : ∃ w11, w10.alloc (.cells y.cells 66) = w11 := ⟨_, rfl⟩
                          rw [hw11] at hba bx
                          have hS11 := hide ((hS9.out.step hb10).step hba)
                          have hR11 := hide ((hR9.out.step hb10).step hba)
                          have hb11 := hide ((hb9.out.trans (hb10.mono hb9.out.size)).trans (hba.mono (Nat.le_trans hb9.out.size hb10.size)))
                          have hy11 := hide (hy10.step hba)
                          clear hyd hyc hyi hb10 hba hS9 hR9 hb9 hy10 hF29
                          have hjb : jb < N2 := best_lt hob
                          have hjbI : (jb : Int) < N2 := by omega
                          obtain ⟨za, z, hvA, hzB, hz, zc0, zc1, zc2⟩ := (rd_ofK hR11.out.own).2 jb (by rw [← hR11.out.all.1] at hNL; omega)
                          have hzq : ∃ zq, za = ⟨zq, 0, none⟩ := by
                            rcases own_cases hR11.out.own with ⟨h1, h2⟩ | ⟨q, cap, h1, _⟩
                            · have := hR11.out.all.1; omega
                            · injection h1 with h1 _ _; rw [hvA] at h1; injection h1 with h1; exact ⟨q, h1⟩
                          obtain ⟨zq, rfl⟩ := hzq
                          rw [add0] at zc0 zc1 zc2
                          have hz11 : KvO w.heap.size w11 z (kcAt ls2 jb) := by
                            have := hR11.out.all.2 jb (by rw [hR11.out.all.1, hNL]; exact hjb)
                            rw [kvAt_is hz] at this
                            exact this
                          have hdep := hide (show depthL ls2 s = z.d from hdep.out.trans hz11.d.symm)
                          replace hz11 := hide hz11
                          have hvwv : vwz.val = .slice (some ⟨zq, 0, none⟩) N2 vwz.c := by show Value.slice vwz.A vwz.n vwz.c = _; rw [hvA, hvn2.out]
                          have hf00 : (z.d != z.d) = false := by simp
                          clear hz
                          clear hvn hNL
                          go_wp2
                          refine wp_region_slots [138, 139, 140, 141, 142, 143, 144, 145, 146, 147, 148, 149, 150, 151, 152, 153, 154, 155, 156, 157, 158, 159, 160, 161, 162, 163, 164, 165, 166, 167, 168, 169, 170, 171, 172, 173, 174, 175, 176, 177, 178, 179, 180] (fun D g wz => g 1 = .slice B m cd ∧ g 7 = .pointer (some ⟨p, 0, none⟩) ∧ g 8 = .slice (some ⟨zq, 0, none⟩) N2 vwz.c ∧ g 17 = .int .i64 (jb : Int) ∧ g 18 = .pointer (some ⟨w10.heap.size, 0, none⟩) ∧ g 19 = .bool true ∧ Below w11.heap.size w11 wz ∧ (D 0 → g 138 = .bool true) ∧ (D 1 → g 139 = .int .i64 (jb : Int)) ∧ (D 2 → g 140 = .bool true) ∧ (D 3 → g 141 = .bool false) ∧ (D 4 → g 142 = .bool false) ∧ (D 5 → g 143 = .bool true) ∧ (D 6 → g 144 = .bool true) ∧ (D 7 → g 145 = .agg y.cells) ∧ (D 8 → g 146 = .slice (some ⟨zq, 0, none⟩) N2 vwz.c) ∧ (D 9 → g 147 = .int .i64 (jb : Int)) ∧ (D 10 → g 148 = .pointer (some ⟨zq, jb * 3, none⟩)) ∧ (D 11 → g 149 = .agg z.cells) ∧ (D 12 → g 150 = .bool true) ∧ (D 13 → g 151 = .bool false) ∧ (D 14 → g 152 = .bool false) ∧ (D 15 → g 153 = .pointer (some ⟨p, 0, none⟩)) ∧ (D 16 → g 154 = .slice B m cd) ∧ (D 17 → g 155 = .int .i64 z.d) ∧ (D 18 → g 156 = .slice (some ⟨zq, 0, none⟩) N2 vwz.c) ∧ (D 19 → g 157 = .int .i64 (jb : Int)) ∧ (D 20 → g 158 = .pointer (some ⟨zq, jb * 3, none⟩)) ∧ (D 21 → g 159 = .pointer (some ⟨zq, jb * 3 + 1, none⟩)) ∧ (D 22 → g 160 = .int .i64 z.d) ∧ (D 23 → g 161 = .bool false) ∧ (D 24 → g 162 = .bool false) ∧ (D 25 → g 163 = .bool false) ∧ (D 26 → g 164 = .bool false) ∧ (D 27 → g 165 = .bool false) ∧ (D 28 → g 166 = .bool true) ∧ (D 29 → g 167 = .bool false) ∧ (D 30 → g 168 = .bool false) ∧ (D 31 → g 169 = undef) ∧ (D 32 → g 170 = undef) ∧ (D 33 → g 171 = undef) ∧ (D 34 → g 172 = undef) ∧ (D 35 → g 173 = undef) ∧ (D 36 → g 174 = undef) ∧ (D 37 → g 175 = undef) ∧ (D 38 → g 176 = undef) ∧ (D 39 → g 177 = undef) ∧ (D 40 → g 178 = undef) ∧ (D 41 → g 179 = .bool false) ∧ (D 42 → g 180 = .bool false)) (by kernel_rfl) (by kernel_rfl) 240 rfl (by kernel_rfl) ?h0 ?hstep ?hdone
                          case h0 => exact ⟨rfl, rfl, rfl, rfl, rfl, rfl, Dr.below (Dr.refl w11).drew _, nt0, nt0, nt0, nt0, nt0, nt0, nt0, nt0, nt0, nt0, nt0, nt0, nt0, nt0, nt0, nt0, nt0, nt0, nt0, nt0, nt0, nt0, nt0, nt0, nt0, nt0, nt0, nt0, nt0, nt0, nt0, nt0, nt0, nt0, nt0, nt0, nt0, nt0, nt0, nt0, nt0, nt0, nt0⟩
                          case hstep =>
                            intro D g wz i hi' hn hd' hI2
                            obtain ⟨r1, r7, r8, r17, r18, r19, hbz, f0, f1, f2, f3, f4, f5, f6, f7, f8, f9, f10, f11, f12, f13, f14, f15, f16, f17, f18, f19, f20, f21, f22, f23, f24, f25, f26, f27, f28, f29, f30, f31, f32, f33, f34, f35, f36, f37, f38, f39, f40, f41, f42⟩ := hI2
                            have hi' : i < 43 := hi'
                            rcases (show i = 0 ∨ i = 1 ∨ i = 2 ∨ i = 3 ∨ i = 4 ∨ i = 5 ∨ i = 6 ∨ i = 7 ∨ i = 8 ∨ i = 9 ∨ i = 10 ∨ i = 11 ∨ i = 12 ∨ i = 13 ∨ i = 14 ∨ i = 15 ∨ i = 16 ∨ i = 17 ∨ i = 18 ∨ i = 19 ∨ i = 20 ∨ i = 21 ∨ i = 22 ∨ i = 23 ∨ i = 24 ∨ i = 25 ∨ i = 26 ∨ i = 27 ∨ i = 28 ∨ i = 29 ∨ i = 30 ∨ i = 31 ∨ i = 32 ∨ i = 33 ∨ i = 34 ∨ i = 35 ∨ i = 36 ∨ i = 37 ∨ i = 38 ∨ i = 39 ∨ i = 40 ∨ i = 41 ∨ i = 42 by omega) with rfl | rfl | rfl | rfl | rfl | rfl | rfl | rfl | rfl | rfl | rfl | rfl | rfl | rfl | rfl | rfl | rfl | rfl | rfl | rfl | rfl | rfl | rfl | rfl | rfl | rfl | rfl | rfl | rfl | rfl | rfl | rfl | rfl | rfl | rfl | rfl | rfl | rfl | rfl | rfl | rfl | rfl | rfl
                            · -- 0
                              refine slot_step rfl rfl (fun az hs K hK => ?_)
                              have hK : Shut _ := hK
                              have e19 := hs.get 19
                              rw [r19] at e19
                              go_simp
                              exact hK.out _ _ ⟨r1, r7, r8, r17, r18, r19, hbz, fun _ => rfl, kp f1, kp f2, kp f3, kp f4, kp f5, kp f6, kp f7, kp f8, kp f9, kp f10, kp f11, kp f12, kp f13, kp f14, kp f15, kp f16, kp f17, kp f18, kp f19, kp f20, kp f21, kp f22, kp f23, kp f24, kp f25, kp f26, kp f27, kp f28, kp f29, kp f30, kp f31, kp f32, kp f33, kp f34, kp f35, kp f36, kp f37, kp f38, kp f39, kp f40, kp f41, kp f42⟩
                            · -- 1
                              refine slot_step rfl rfl (fun az hs K hK => ?_)
                              have hK : Shut _ := hK
                              have e17 := hs.get 17
                              rw [r17] at e17
                              go_simp
                              exact hK.out _ _ ⟨r1, r7, r8, r17, r18, r19, hbz, kp f0, fun _ => rfl, kp f2, kp f3, kp f4, kp f5, kp f6, kp f7, kp f8, kp f9, kp f10, kp f11, kp f12, kp f13, kp f14, kp f15, kp f16, kp f17, kp f18, kp f19, kp f20, kp f21, kp f22, kp f23, kp f24, kp f25, kp f26, kp f27, kp f28, kp f29, kp f30, kp f31, kp f32, kp f33, kp f34, kp f35, kp f36, kp f37, kp f38, kp f39, kp f40, kp f41, kp f42⟩
                            · -- 2
                              have d1 := f1 (hd' 1 (by kernel_rfl))
                              refine slot_step rfl rfl (fun az hs K hK => ?_)
                              have hK : Shut _ := hK
                              have e139 := hs.get 139
                              rw [d1] at e139
                              go_simp
                              exact hK.out _ _ ⟨r1, r7, r8, r17, r18, r19, hbz, kp f0, kp f1, fun _ => rfl, kp f3, kp f4, kp f5, kp f6, kp f7, kp f8, kp f9, kp f10, kp f11, kp f12, kp f13, kp f14, kp f15, kp f16, kp f17, kp f18, kp f19, kp f20, kp f21, kp f22, kp f23, kp f24, kp f25, kp f26, kp f27, kp f28, kp f29, kp f30, kp f31, kp f32, kp f33, kp f34, kp f35, kp f36, kp f37, kp f38, kp f39, kp f40, kp f41, kp f42⟩
                            · -- 3
                              have d0 := f0 (hd' 0 (by kernel_rfl))
                              have d2 := f2 (hd' 2 (by kernel_rfl))
                              refine slot_step rfl rfl (fun az hs K hK => ?_)
                              have hK : Shut _ := hK
                              have e138 := hs.get 138
                              rw [d0] at e138
                              have e140 := hs.get 140
                              rw [d2] at e140
                              go_simp
                              exact hK.out _ _ ⟨r1, r7, r8, r17, r18, r19, hbz, kp f0, kp f1, kp f2, fun _ => rfl, kp f4, kp f5, kp f6, kp f7, kp f8, kp f9, kp f10, kp f11, kp f12, kp f13, kp f14, kp f15, kp f16, kp f17, kp f18, kp f19, kp f20, kp f21, kp f22, kp f23, kp f24, kp f25, kp f26, kp f27, kp f28, kp f29, kp f30, kp f31, kp f32, kp f33, kp f34, kp f35, kp f36, kp f37, kp f38, kp f39, kp f40, kp f41, kp f42⟩
                            · -- 4
                              have d3 := f3 (hd' 3 (by kernel_rfl))
                              refine slot_step rfl rfl (fun az hs K hK => ?_)
                              have hK : Shut _ := hK
                              have e141 := hs.get 141
                              rw [d3] at e141
                              go_simp
                              exact hK.out _ _ ⟨r1, r7, r8, r17, r18, r19, hbz, kp f0, kp f1, kp f2, kp f3, fun _ => rfl, kp f5, kp f6, kp f7, kp f8, kp f9, kp f10, kp f11, kp f12, kp f13, kp f14, kp f15, kp f16, kp f17, kp f18, kp f19, kp f20, kp f21, kp f22, kp f23, kp f24, kp f25, kp f26, kp f27, kp f28, kp f29, kp f30, kp f31, kp f32, kp f33, kp f34, kp f35, kp f36, kp f37, kp f38, kp f39, kp f40, kp f41, kp f42⟩
                            · -- 5
                              have d4 := f4 (hd' 4 (by kernel_rfl))
                              refine slot_step_yes (j := 4) (d := 142) rfl rfl rfl (by decide) (d4) (fun az hs K hK => ?_)
                              have hK : Shut _ := hK
                              have e142 := hs.get 142
                              rw [d4] at e142
                              have e19 := hs.get 19
                              rw [r19] at e19
                              go_simp
                              exact hK.out _ _ ⟨r1, r7, r8, r17, r18, r19, hbz, kp f0, kp f1, kp f2, kp f3, kp f4, fun _ => rfl, kp f6, kp f7, kp f8, kp f9, kp f10, kp f11, kp f12, kp f13, kp f14, kp f15, kp f16, kp f17, kp f18, kp f19, kp f20, kp f21, kp f22, kp f23, kp f24, kp f25, kp f26, kp f27, kp f28, kp f29, kp f30, kp f31, kp f32, kp f33, kp f34, kp f35, kp f36, kp f37, kp f38, kp f39, kp f40, kp f41, kp f42⟩
                            · -- 6
                              have d4 := f4 (hd' 4 (by kernel_rfl))
                              have d5 := f5 (hd' 5 (by kernel_rfl))
                              refine slot_step_yes (j := 4) (d := 142) rfl rfl rfl (by decide) (d4) (fun az hs K hK => ?_)
                              have hK : Shut _ := hK
                              have e142 := hs.get 142
                              rw [d4] at e142
                              have e143 := hs.get 143
                              rw [d5] at e143
                              go_simp
                              exact hK.out _ _ ⟨r1, r7, r8, r17, r18, r19, hbz, kp f0, kp f1, kp f2, kp f3, kp f4, kp f5, fun _ => rfl, kp f7, kp f8, kp f9, kp f10, kp f11, kp f12, kp f13, kp f14, kp f15, kp f16, kp f17, kp f18, kp f19, kp f20, kp f21, kp f22, kp f23, kp f24, kp f25, kp f26, kp f27, kp f28, kp f29, kp f30, kp f31, kp f32, kp f33, kp f34, kp f35, kp f36, kp f37, kp f38, kp f39, kp f40, kp f41, kp f42⟩
                            · -- 7
                              have d6 := f6 (hd' 6 (by kernel_rfl))
                              refine slot_step_yes (j := 6) (d := 144) rfl rfl rfl (by decide) (d6) (fun az hs K hK => ?_)
                              have hK : Shut _ := hK
                              have b0 := keepCell hbz (show w11.cell? ⟨w10.heap.size, 0, none⟩ = some y.c.val from bx.out.cell 0)
                              have b1 := keepCell hbz (show w11.cell? ⟨w10.heap.size, 1, none⟩ = some (.int .i64 y.d) from bx.out.cell 1)
                              have b2 := keepCell hbz (show w11.cell? ⟨w10.heap.size, 2, none⟩ = some y.i.val from bx.out.cell 2)
                              have e144 := hs.get 144
                              rw [d6] at e144
                              have e18 := hs.get 18
                              rw [r18] at e18
                              go_simp
                              exact hK.out _ _ ⟨r1, r7, r8, r17, r18, r19, hbz, kp f0, kp f1, kp f2, kp f3, kp f4, kp f5, kp f6, fun _ => rfl, kp f8, kp f9, kp f10, kp f11, kp f12, kp f13, kp f14, kp f15, kp f16, kp f17, kp f18, kp f19, kp f20, kp f21, kp f22, kp f23, kp f24, kp f25, kp f26, kp f27, kp f28, kp f29, kp f30, kp f31, kp f32, kp f33, kp f34, kp f35, kp f36, kp f37, kp f38, kp f39, kp f40, kp f41, kp f42⟩
                            · -- 8
                              have d6 := f6 (hd' 6 (by kernel_rfl))
                              refine slot_step_yes (j := 6) (d := 144) rfl rfl rfl (by decide) (d6) (fun az hs K hK => ?_)
                              have hK : Shut _ := hK
                              have e144 := hs.get 144
                              rw [d6] at e144
                              have e8 := hs.get 8
                              rw [r8] at e8
                              go_simp
                              exact hK.out _ _ ⟨r1, r7, r8, r17, r18, r19, hbz, kp f0, kp f1, kp f2, kp f3, kp f4, kp f5, kp f6, kp f7, fun _ => rfl, kp f9, kp f10, kp f11, kp f12, kp f13, kp f14, kp f15, kp f16, kp f17, kp f18, kp f19, kp f20, kp f21, kp f22, kp f23, kp f24, kp f25, kp f26, kp f27, kp f28, kp f29, kp f30, kp f31, kp f32, kp f33, kp f34, kp f35, kp f36, kp f37, kp f38, kp f39, kp f40, kp f41, kp f42⟩
                            · -- 9
                              have d6 := f6 (hd' 6 (by kernel_rfl))
                              refine slot_step_yes (j := 6) (d := 144) rfl rfl rfl (by decide) (d6) (fun az hs K hK => ?_)
                              have hK : Shut _ := hK
                              have e144 := hs.get 144
                              rw [d6] at e144
                              have e17 := hs.get 17
                              rw [r17] at e17
                              go_simp
                              exact hK.out _ _ ⟨r1, r7, r8, r17, r18, r19, hbz, kp f0, kp f1, kp f2, kp f3, kp f4, kp f5, kp f6, kp f7, kp f8, fun _ => rfl, kp f10, kp f11, kp f12, kp f13, kp f14, kp f15, kp f16, kp f17, kp f18, kp f19, kp f20, kp f21, kp f22, kp f23, kp f24, kp f25, kp f26, kp f27, kp f28, kp f29, kp f30, kp f31, kp f32, kp f33, kp f34, kp f35, kp f36, kp f37, kp f38, kp f39, kp f40, kp f41, kp f42⟩
                            · -- 10
                              have d6 := f6 (hd' 6 (by kernel_rfl))
                              have d8 := f8 (hd' 8 (by kernel_rfl))
                              have d9 := f9 (hd' 9 (by kernel_rfl))
                              refine slot_step_yes (j := 6) (d := 144) rfl rfl rfl (by decide) (d6) (fun az hs K hK => ?_)
                              have hK : Shut _ := hK
                              have e144 := hs.get 144
                              rw [d6] at e144
                              have e146 := hs.get 146
                              rw [d8] at e146
                              have e147 := hs.get 147
                              rw [d9] at e147
                              go_simp
                              exact hK.out _ _ ⟨r1, r7, r8, r17, r18, r19, hbz, kp f0, kp f1, kp f2, kp f3, kp f4, kp f5, kp f6, kp f7, kp f8, kp f9, fun _ => rfl, kp f11, kp f12, kp f13, kp f14, kp f15, kp f16, kp f17, kp f18, kp f19, kp f20, kp f21, kp f22, kp f23, kp f24, kp f25, kp f26, kp f27, kp f28, kp f29, kp f30, kp f31, kp f32, kp f33, kp f34, kp f35, kp f36, kp f37, kp f38, kp f39, kp f40, kp f41, kp f42⟩
                            · -- 11
                              have d6 := f6 (hd' 6 (by kernel_rfl))
                              have d10 := f10 (hd' 10 (by kernel_rfl))
                              refine slot_step_yes (j := 6) (d := 144) rfl rfl rfl (by decide) (d6) (fun az hs K hK => ?_)
                              have hK : Shut _ := hK
                              have z0 := keepCell hbz zc0
                              have z1 := keepCell hbz zc1
                              have z2 := keepCell hbz zc2
                              have e144 := hs.get 144
                              rw [d6] at e144
                              have e148 := hs.get 148
                              rw [d10] at e148
                              go_simp
                              exact hK.out _ _ ⟨r1, r7, r8, r17, r18, r19, hbz, kp f0, kp f1, kp f2, kp f3, kp f4, kp f5, kp f6, kp f7, kp f8, kp f9, kp f10, fun _ => rfl, kp f12, kp f13, kp f14, kp f15, kp f16, kp f17, kp f18, kp f19, kp f20, kp f21, kp f22, kp f23, kp f24, kp f25, kp f26, kp f27, kp f28, kp f29, kp f30, kp f31, kp f32, kp f33, kp f34, kp f35, kp f36, kp f37, kp f38, kp f39, kp f40, kp f41, kp f42⟩
                            · -- 12
                              have d6 := f6 (hd' 6 (by kernel_rfl))
                              have d7 := f7 (hd' 7 (by kernel_rfl))
                              have d11 := f11 (hd' 11 (by kernel_rfl))
                              refine slot_step_yes (j := 6) (d := 144) rfl rfl rfl (by decide) (d6) (fun az hs K hK => ?_)
                              have hK : Shut _ := hK
                              have e144 := hs.get 144
                              rw [d6] at e144
                              have e145 := hs.get 145
                              rw [d7] at e145
                              have e149 := hs.get 149
                              rw [d11] at e149
                              go_wp2_with (go_at_call 51; refine (same_is y z (kcAt ls2 jb) (kcAt ls2 jb) wz (hy11.out.rd.below hbz (Nat.le_refl _)) (hz11.out.rd.below hbz (Nat.le_refl _)) hyc30 hyi30 (sameK_self _)).mono ?_; rintro e wy ⟨rfl, hbs⟩)
                              exact ⟨r1, r7, r8, r17, r18, r19, hbz.trans (hbs.mono hbz.size), kp f0, kp f1, kp f2, kp f3, kp f4, kp f5, kp f6, kp f7, kp f8, kp f9, kp f10, kp f11, fun _ => rfl, kp f13, kp f14, kp f15, kp f16, kp f17, kp f18, kp f19, kp f20, kp f21, kp f22, kp f23, kp f24, kp f25, kp f26, kp f27, kp f28, kp f29, kp f30, kp f31, kp f32, kp f33, kp f34, kp f35, kp f36, kp f37, kp f38, kp f39, kp f40, kp f41, kp f42⟩
                            · -- 13
                              have d6 := f6 (hd' 6 (by kernel_rfl))
                              have d12 := f12 (hd' 12 (by kernel_rfl))
                              refine slot_step_yes (j := 6) (d := 144) rfl rfl rfl (by decide) (d6) (fun az hs K hK => ?_)
                              have hK : Shut _ := hK
                              have e144 := hs.get 144
                              rw [d6] at e144
                              have e150 := hs.get 150
                              rw [d12] at e150
                              go_simp
                              exact hK.out _ _ ⟨r1, r7, r8, r17, r18, r19, hbz, kp f0, kp f1, kp f2, kp f3, kp f4, kp f5, kp f6, kp f7, kp f8, kp f9, kp f10, kp f11, kp f12, fun _ => rfl, kp f14, kp f15, kp f16, kp f17, kp f18, kp f19, kp f20, kp f21, kp f22, kp f23, kp f24, kp f25, kp f26, kp f27, kp f28, kp f29, kp f30, kp f31, kp f32, kp f33, kp f34, kp f35, kp f36, kp f37, kp f38, kp f39, kp f40, kp f41, kp f42⟩
                            · -- 14
                              have d6 := f6 (hd' 6 (by kernel_rfl))
                              have d13 := f13 (hd' 13 (by kernel_rfl))
                              refine slot_step_yes (j := 6) (d := 144) rfl rfl rfl (by decide) (d6) (fun az hs K hK => ?_)
                              have hK : Shut _ := hK
                              have e144 := hs.get 144
                              rw [d6] at e144
                              have e151 := hs.get 151
                              rw [d13] at e151
                              go_simp
                              exact hK.out _ _ ⟨r1, r7, r8, r17, r18, r19, hbz, kp f0, kp f1, kp f2, kp f3, kp f4, kp f5, kp f6, kp f7, kp f8, kp f9, kp f10, kp f11, kp f12, kp f13, fun _ => rfl, kp f15, kp f16, kp f17, kp f18, kp f19, kp f20, kp f21, kp f22, kp f23, kp f24, kp f25, kp f26, kp f27, kp f28, kp f29, kp f30, kp f31, kp f32, kp f33, kp f34, kp f35, kp f36, kp f37, kp f38, kp f39, kp f40, kp f41, kp f42⟩
                            · -- 15
                              have d14 := f14 (hd' 14 (by kernel_rfl))
                              refine slot_step_yes (j := 14) (d := 152) rfl rfl rfl (by decide) (d14) (fun az hs K hK => ?_)
                              have hK : Shut _ := hK
                              have e152 := hs.get 152
                              rw [d14] at e152
                              have e7 := hs.get 7
                              rw [r7] at e7
                              go_simp
                              exact hK.out _ _ ⟨r1, r7, r8, r17, r18, r19, hbz, kp f0, kp f1, kp f2, kp f3, kp f4, kp f5, kp f6, kp f7, kp f8, kp f9, kp f10, kp f11, kp f12, kp f13, kp f14, fun _ => rfl, kp f16, kp f17, kp f18, kp f19, kp f20, kp f21, kp f22, kp f23, kp f24, kp f25, kp f26, kp f27, kp f28, kp f29, kp f30, kp f31, kp f32, kp f33, kp f34, kp f35, kp f36, kp f37, kp f38, kp f39, kp f40, kp f41, kp f42⟩
                            · -- 16
                              have d14 := f14 (hd' 14 (by kernel_rfl))
                              refine slot_step_yes (j := 14) (d := 152) rfl rfl rfl (by decide) (d14) (fun az hs K hK => ?_)
                              have hK : Shut _ := hK
                              have e152 := hs.get 152
                              rw [d14] at e152
                              have e1 := hs.get 1
                              rw [r1] at e1
                              go_simp
                              exact hK.out _ _ ⟨r1, r7, r8, r17, r18, r19, hbz, kp f0, kp f1, kp f2, kp f3, kp f4, kp f5, kp f6, kp f7, kp f8, kp f9, kp f10, kp f11, kp f12, kp f13, kp f14, kp f15, fun _ => rfl, kp f17, kp f18, kp f19, kp f20, kp f21, kp f22, kp f23, kp f24, kp f25, kp f26, kp f27, kp f28, kp f29, kp f30, kp f31, kp f32, kp f33, kp f34, kp f35, kp f36, kp f37, kp f38, kp f39, kp f40, kp f41, kp f42⟩
                            · -- 17
                              have d14 := f14 (hd' 14 (by kernel_rfl))
                              have d15 := f15 (hd' 15 (by kernel_rfl))
                              have d16 := f16 (hd' 16 (by kernel_rfl))
                              refine slot_step_yes (j := 14) (d := 152) rfl rfl rfl (by decide) (d14) (fun az hs K hK => ?_)
                              have hK : Shut _ := hK
                              have e152 := hs.get 152
                              rw [d14] at e152
                              have e153 := hs.get 153
                              rw [d15] at e153
                              have e154 := hs.get 154
                              rw [d16] at e154
                              have hDp := store_Depth (some ⟨p, 0, none⟩) L7 ls2 s B m cd wz (hS11.out.step hbz).keeps (hS11.out.step hbz).all.rd (hrs.below (hb11.out.trans (hbz.mono hb11.out.size)) (Nat.le_refl _)) (by omega) hI2.out.good (by have := hL7.out; omega)
                              rw [hdep.out] at hDp
                              go_wp2_with (go_at_call 40; refine hDp.mono ?_; rintro e wy ⟨rfl, hbs⟩)
                              exact ⟨r1, r7, r8, r17, r18, r19, hbz.trans (hbs.mono hbz.size), kp f0, kp f1, kp f2, kp f3, kp f4, kp f5, kp f6, kp f7, kp f8, kp f9, kp f10, kp f11, kp f12, kp f13, kp f14, kp f15, kp f16, fun _ => rfl, kp f18, kp f19, kp f20, kp f21, kp f22, kp f23, kp f24, kp f25, kp f26, kp f27, kp f28, kp f29, kp f30, kp f31, kp f32, kp f33, kp f34, kp f35, kp f36, kp f37, kp f38, kp f39, kp f40, kp f41, kp f42⟩
                            · -- 18
                              have d14 := f14 (hd' 14 (by kernel_rfl))
                              refine slot_step_yes (j := 14) (d := 152) rfl rfl rfl (by decide) (d14) (fun az hs K hK => ?_)
                              have hK : Shut _ := hK
                              have e152 := hs.get 152
                              rw [d14] at e152
                              have e8 := hs.get 8
                              rw [r8] at e8
                              go_simp
                              exact hK.out _ _ ⟨r1, r7, r8, r17, r18, r19, hbz, kp f0, kp f1, kp f2, kp f3, kp f4, kp f5, kp f6, kp f7, kp f8, kp f9, kp f10, kp f11, kp f12, kp f13, kp f14, kp f15, kp f16, kp f17, fun _ => rfl, kp f19, kp f20, kp f21, kp f22, kp f23, kp f24, kp f25, kp f26, kp f27, kp f28, kp f29, kp f30, kp f31, kp f32, kp f33, kp f34, kp f35, kp f36, kp f37, kp f38, kp f39, kp f40, kp f41, kp f42⟩
                            · -- 19
                              have d14 := f14 (hd' 14 (by kernel_rfl))
                              refine slot_step_yes (j := 14) (d := 152) rfl rfl rfl (by decide) (d14) (fun az hs K hK => ?_)
                              have hK : Shut _ := hK
                              have e152 := hs.get 152
                              rw [d14] at e152
                              have e17 := hs.get 17
                              rw [r17] at e17
                              go_simp
                              exact hK.out _ _ ⟨r1, r7, r8, r17, r18, r19, hbz, kp f0, kp f1, kp f2, kp f3, kp f4, kp f5, kp f6, kp f7, kp f8, kp f9, kp f10, kp f11, kp f12, kp f13, kp f14, kp f15, kp f16, kp f17, kp f18, fun _ => rfl, kp f20, kp f21, kp f22, kp f23, kp f24, kp f25, kp f26, kp f27, kp f28, kp f29, kp f30, kp f31, kp f32, kp f33, kp f34, kp f35, kp f36, kp f37, kp f38, kp f39, kp f40, kp f41, kp f42⟩
                            · -- 20
                              have d14 := f14 (hd' 14 (by kernel_rfl))
                              have d18 := f18 (hd' 18 (by kernel_rfl))
                              have d19 := f19 (hd' 19 (by kernel_rfl))
                              refine slot_step_yes (j := 14) (d := 152) rfl rfl rfl (by decide) (d14) (fun az hs K hK => ?_)
                              have hK : Shut _ := hK
                              have e152 := hs.get 152
                              rw [d14] at e152
                              have e156 := hs.get 156
                              rw [d18] at e156
                              have e157 := hs.get 157
                              rw [d19] at e157
                              go_simp
                              exact hK.out _ _ ⟨r1, r7, r8, r17, r18, r19, hbz, kp f0, kp f1, kp f2, kp f3, kp f4, kp f5, kp f6, kp f7, kp f8, kp f9, kp f10, kp f11, kp f12, kp f13, kp f14, kp f15, kp f16, kp f17, kp f18, kp f19, fun _ => rfl, kp f21, kp f22, kp f23, kp f24, kp f25, kp f26, kp f27, kp f28, kp f29, kp f30, kp f31, kp f32, kp f33, kp f34, kp f35, kp f36, kp f37, kp f38, kp f39, kp f40, kp f41, kp f42⟩
                            · -- 21
                              have d14 := f14 (hd' 14 (by kernel_rfl))
                              have d20 := f20 (hd' 20 (by kernel_rfl))
                              refine slot_step_yes (j := 14) (d := 152) rfl rfl rfl (by decide) (d14) (fun az hs K hK => ?_)
                              have hK : Shut _ := hK
                              have e152 := hs.get 152
                              rw [d14] at e152
                              have e158 := hs.get 158
                              rw [d20] at e158
                              go_simp
                              exact hK.out _ _ ⟨r1, r7, r8, r17, r18, r19, hbz, kp f0, kp f1, kp f2, kp f3, kp f4, kp f5, kp f6, kp f7, kp f8, kp f9, kp f10, kp f11, kp f12, kp f13, kp f14, kp f15, kp f16, kp f17, kp f18, kp f19, kp f20, fun _ => rfl, kp f22, kp f23, kp f24, kp f25, kp f26, kp f27, kp f28, kp f29, kp f30, kp f31, kp f32, kp f33, kp f34, kp f35, kp f36, kp f37, kp f38, kp f39, kp f40, kp f41, kp f42⟩
                            · -- 22
                              have d14 := f14 (hd' 14 (by kernel_rfl))
                              have d21 := f21 (hd' 21 (by kernel_rfl))
                              refine slot_step_yes (j := 14) (d := 152) rfl rfl rfl (by decide) (d14) (fun az hs K hK => ?_)
                              have hK : Shut _ := hK
                              have z0 := keepCell hbz zc0
                              have z1 := keepCell hbz zc1
                              have z2 := keepCell hbz zc2
                              have e152 := hs.get 152
                              rw [d14] at e152
                              have e159 := hs.get 159
                              rw [d21] at e159
                              go_simp
                              exact hK.out _ _ ⟨r1, r7, r8, r17, r18, r19, hbz, kp f0, kp f1, kp f2, kp f3, kp f4, kp f5, kp f6, kp f7, kp f8, kp f9, kp f10, kp f11, kp f12, kp f13, kp f14, kp f15, kp f16, kp f17, kp f18, kp f19, kp f20, kp f21, fun _ => rfl, kp f23, kp f24, kp f25, kp f26, kp f27, kp f28, kp f29, kp f30, kp f31, kp f32, kp f33, kp f34, kp f35, kp f36, kp f37, kp f38, kp f39, kp f40, kp f41, kp f42⟩
                            · -- 23
                              have d14 := f14 (hd' 14 (by kernel_rfl))
                              have d17 := f17 (hd' 17 (by kernel_rfl))
                              have d22 := f22 (hd' 22 (by kernel_rfl))
                              refine slot_step_yes (j := 14) (d := 152) rfl rfl rfl (by decide) (d14) (fun az hs K hK => ?_)
                              have hK : Shut _ := hK
                              have e152 := hs.get 152
                              rw [d14] at e152
                              have e155 := hs.get 155
                              rw [d17] at e155
                              have e160 := hs.get 160
                              rw [d22] at e160
                              go_simp
                              exact hK.out _ _ ⟨r1, r7, r8, r17, r18, r19, hbz, kp f0, kp f1, kp f2, kp f3, kp f4, kp f5, kp f6, kp f7, kp f8, kp f9, kp f10, kp f11, kp f12, kp f13, kp f14, kp f15, kp f16, kp f17, kp f18, kp f19, kp f20, kp f21, kp f22, fun _ => rfl, kp f24, kp f25, kp f26, kp f27, kp f28, kp f29, kp f30, kp f31, kp f32, kp f33, kp f34, kp f35, kp f36, kp f37, kp f38, kp f39, kp f40, kp f41, kp f42⟩
                            · -- 24
                              have d6 := f6 (hd' 6 (by kernel_rfl))
                              have d14 := f14 (hd' 14 (by kernel_rfl))
                              have d23 := f23 (hd' 23 (by kernel_rfl))
                              refine slot_step_yes (j := 6) (d := 144) rfl rfl rfl (by decide) (d6) (fun az hs K hK => ?_)
                              have hK : Shut _ := hK
                              have e144 := hs.get 144
                              rw [d6] at e144
                              have e152 := hs.get 152
                              rw [d14] at e152
                              have e161 := hs.get 161
                              rw [d23] at e161
                              go_simp
                              exact hK.out _ _ ⟨r1, r7, r8, r17, r18, r19, hbz, kp f0, kp f1, kp f2, kp f3, kp f4, kp f5, kp f6, kp f7, kp f8, kp f9, kp f10, kp f11, kp f12, kp f13, kp f14, kp f15, kp f16, kp f17, kp f18, kp f19, kp f20, kp f21, kp f22, kp f23, fun _ => rfl, kp f25, kp f26, kp f27, kp f28, kp f29, kp f30, kp f31, kp f32, kp f33, kp f34, kp f35, kp f36, kp f37, kp f38, kp f39, kp f40, kp f41, kp f42⟩
                            · -- 25
                              have d4 := f4 (hd' 4 (by kernel_rfl))
                              have d6 := f6 (hd' 6 (by kernel_rfl))
                              have d24 := f24 (hd' 24 (by kernel_rfl))
                              refine slot_step_yes (j := 4) (d := 142) rfl rfl rfl (by decide) (d4) (fun az hs K hK => ?_)
                              have hK : Shut _ := hK
                              have e142 := hs.get 142
                              rw [d4] at e142
                              have e144 := hs.get 144
                              rw [d6] at e144
                              have e162 := hs.get 162
                              rw [d24] at e162
                              go_simp
                              exact hK.out _ _ ⟨r1, r7, r8, r17, r18, r19, hbz, kp f0, kp f1, kp f2, kp f3, kp f4, kp f5, kp f6, kp f7, kp f8, kp f9, kp f10, kp f11, kp f12, kp f13, kp f14, kp f15, kp f16, kp f17, kp f18, kp f19, kp f20, kp f21, kp f22, kp f23, kp f24, fun _ => rfl, kp f26, kp f27, kp f28, kp f29, kp f30, kp f31, kp f32, kp f33, kp f34, kp f35, kp f36, kp f37, kp f38, kp f39, kp f40, kp f41, kp f42⟩
                            · -- 26
                              have d4 := f4 (hd' 4 (by kernel_rfl))
                              have d25 := f25 (hd' 25 (by kernel_rfl))
                              refine slot_step rfl rfl (fun az hs K hK => ?_)
                              have hK : Shut _ := hK
                              have e142 := hs.get 142
                              rw [d4] at e142
                              have e163 := hs.get 163
                              rw [d25] at e163
                              go_simp
                              exact hK.out _ _ ⟨r1, r7, r8, r17, r18, r19, hbz, kp f0, kp f1, kp f2, kp f3, kp f4, kp f5, kp f6, kp f7, kp f8, kp f9, kp f10, kp f11, kp f12, kp f13, kp f14, kp f15, kp f16, kp f17, kp f18, kp f19, kp f20, kp f21, kp f22, kp f23, kp f24, kp f25, fun _ => rfl, kp f27, kp f28, kp f29, kp f30, kp f31, kp f32, kp f33, kp f34, kp f35, kp f36, kp f37, kp f38, kp f39, kp f40, kp f41, kp f42⟩
                            · -- 27
                              have d26 := f26 (hd' 26 (by kernel_rfl))
                              refine slot_step rfl rfl (fun az hs K hK => ?_)
                              have hK : Shut _ := hK
                              have e164 := hs.get 164
                              rw [d26] at e164
                              go_simp
                              exact hK.out _ _ ⟨r1, r7, r8, r17, r18, r19, hbz, kp f0, kp f1, kp f2, kp f3, kp f4, kp f5, kp f6, kp f7, kp f8, kp f9, kp f10, kp f11, kp f12, kp f13, kp f14, kp f15, kp f16, kp f17, kp f18, kp f19, kp f20, kp f21, kp f22, kp f23, kp f24, kp f25, kp f26, fun _ => rfl, kp f28, kp f29, kp f30, kp f31, kp f32, kp f33, kp f34, kp f35, kp f36, kp f37, kp f38, kp f39, kp f40, kp f41, kp f42⟩
                            · -- 28
                              have d27 := f27 (hd' 27 (by kernel_rfl))
                              refine slot_step_yes (j := 27) (d := 165) rfl rfl rfl (by decide) (d27) (fun az hs K hK => ?_)
                              have hK : Shut _ := hK
                              have e165 := hs.get 165
                              rw [d27] at e165
                              have e19 := hs.get 19
                              rw [r19] at e19
                              go_simp
                              exact hK.out _ _ ⟨r1, r7, r8, r17, r18, r19, hbz, kp f0, kp f1, kp f2, kp f3, kp f4, kp f5, kp f6, kp f7, kp f8, kp f9, kp f10, kp f11, kp f12, kp f13, kp f14, kp f15, kp f16, kp f17, kp f18, kp f19, kp f20, kp f21, kp f22, kp f23, kp f24, kp f25, kp f26, kp f27, fun _ => rfl, kp f29, kp f30, kp f31, kp f32, kp f33, kp f34, kp f35, kp f36, kp f37, kp f38, kp f39, kp f40, kp f41, kp f42⟩
                            · -- 29
                              have d27 := f27 (hd' 27 (by kernel_rfl))
                              have d28 := f28 (hd' 28 (by kernel_rfl))
                              refine slot_step_yes (j := 27) (d := 165) rfl rfl rfl (by decide) (d27) (fun az hs K hK => ?_)
                              have hK : Shut _ := hK
                              have e165 := hs.get 165
                              rw [d27] at e165
                              have e166 := hs.get 166
                              rw [d28] at e166
                              go_simp
                              exact hK.out _ _ ⟨r1, r7, r8, r17, r18, r19, hbz, kp f0, kp f1, kp f2, kp f3, kp f4, kp f5, kp f6, kp f7, kp f8, kp f9, kp f10, kp f11, kp f12, kp f13, kp f14, kp f15, kp f16, kp f17, kp f18, kp f19, kp f20, kp f21, kp f22, kp f23, kp f24, kp f25, kp f26, kp f27, kp f28, fun _ => rfl, kp f30, kp f31, kp f32, kp f33, kp f34, kp f35, kp f36, kp f37, kp f38, kp f39, kp f40, kp f41, kp f42⟩
                            · -- 30
                              have d27 := f27 (hd' 27 (by kernel_rfl))
                              have d29 := f29 (hd' 29 (by kernel_rfl))
                              refine slot_step_yes (j := 27) (d := 165) rfl rfl rfl (by decide) (d27) (fun az hs K hK => ?_)
                              have hK : Shut _ := hK
                              have e165 := hs.get 165
                              rw [d27] at e165
                              have e167 := hs.get 167
                              rw [d29] at e167
                              go_simp
                              exact hK.out _ _ ⟨r1, r7, r8, r17, r18, r19, hbz, kp f0, kp f1, kp f2, kp f3, kp f4, kp f5, kp f6, kp f7, kp f8, kp f9, kp f10, kp f11, kp f12, kp f13, kp f14, kp f15, kp f16, kp f17, kp f18, kp f19, kp f20, kp f21, kp f22, kp f23, kp f24, kp f25, kp f26, kp f27, kp f28, kp f29, fun _ => rfl, kp f31, kp f32, kp f33, kp f34, kp f35, kp f36, kp f37, kp f38, kp f39, kp f40, kp f41, kp f42⟩
                            · -- 31
                              have d30 := f30 (hd' 30 (by kernel_rfl))
                              exact slot_step_no (j := 30) (d := 168) rfl rfl rfl (by decide) (d30) ⟨r1, r7, r8, r17, r18, r19, hbz, kp f0, kp f1, kp f2, kp f3, kp f4, kp f5, kp f6, kp f7, kp f8, kp f9, kp f10, kp f11, kp f12, kp f13, kp f14, kp f15, kp f16, kp f17, kp f18, kp f19, kp f20, kp f21, kp f22, kp f23, kp f24, kp f25, kp f26, kp f27, kp f28, kp f29, kp f30, fun _ => rfl, kp f32, kp f33, kp f34, kp f35, kp f36, kp f37, kp f38, kp f39, kp f40, kp f41, kp f42⟩
                            · -- 32
                              have d30 := f30 (hd' 30 (by kernel_rfl))
                              exact slot_step_no (j := 30) (d := 168) rfl rfl rfl (by decide) (d30) ⟨r1, r7, r8, r17, r18, r19, hbz, kp f0, kp f1, kp f2, kp f3, kp f4, kp f5, kp f6, kp f7, kp f8, kp f9, kp f10, kp f11, kp f12, kp f13, kp f14, kp f15, kp f16, kp f17, kp f18, kp f19, kp f20, kp f21, kp f22, kp f23, kp f24, kp f25, kp f26, kp f27, kp f28, kp f29, kp f30, kp f31, fun _ => rfl, kp f33, kp f34, kp f35, kp f36, kp f37, kp f38, kp f39, kp f40, kp f41, kp f42⟩
                            · -- 33
                              have d30 := f30 (hd' 30 (by kernel_rfl))
                              exact slot_step_no (j := 30) (d := 168) rfl rfl rfl (by decide) (d30) ⟨r1, r7, r8, r17, r18, r19, hbz, kp f0, kp f1, kp f2, kp f3, kp f4, kp f5, kp f6, kp f7, kp f8, kp f9, kp f10, kp f11, kp f12, kp f13, kp f14, kp f15, kp f16, kp f17, kp f18, kp f19, kp f20, kp f21, kp f22, kp f23, kp f24, kp f25, kp f26, kp f27, kp f28, kp f29, kp f30, kp f31, kp f32, fun _ => rfl, kp f34, kp f35, kp f36, kp f37, kp f38, kp f39, kp f40, kp f41, kp f42⟩
                            · -- 34
                              have d30 := f30 (hd' 30 (by kernel_rfl))
                              exact slot_step_no (j := 30) (d := 168) rfl rfl rfl (by decide) (d30) ⟨r1, r7, r8, r17, r18, r19, hbz, kp f0, kp f1, kp f2, kp f3, kp f4, kp f5, kp f6, kp f7, kp f8, kp f9, kp f10, kp f11, kp f12, kp f13, kp f14, kp f15, kp f16, kp f17, kp f18, kp f19, kp f20, kp f21, kp f22, kp f23, kp f24, kp f25, kp f26, kp f27, kp f28, kp f29, kp f30, kp f31, kp f32, kp f33, fun _ => rfl, kp f35, kp f36, kp f37, kp f38, kp f39, kp f40, kp f41, kp f42⟩
                            · -- 35
                              have d30 := f30 (hd' 30 (by kernel_rfl))
                              exact slot_step_no (j := 30) (d := 168) rfl rfl rfl (by decide) (d30) ⟨r1, r7, r8, r17, r18, r19, hbz, kp f0, kp f1, kp f2, kp f3, kp f4, kp f5, kp f6, kp f7, kp f8, kp f9, kp f10, kp f11, kp f12, kp f13, kp f14, kp f15, kp f16, kp f17, kp f18, kp f19, kp f20, kp f21, kp f22, kp f23, kp f24, kp f25, kp f26, kp f27, kp f28, kp f29, kp f30, kp f31, kp f32, kp f33, kp f34, fun _ => rfl, kp f36, kp f37, kp f38, kp f39, kp f40, kp f41, kp f42⟩
                            · -- 36
                              have d35 := f35 (hd' 35 (by kernel_rfl))
                              exact slot_step_nou (j := 35) (d := 173) rfl rfl rfl (by decide) (d35) ⟨r1, r7, r8, r17, r18, r19, hbz, kp f0, kp f1, kp f2, kp f3, kp f4, kp f5, kp f6, kp f7, kp f8, kp f9, kp f10, kp f11, kp f12, kp f13, kp f14, kp f15, kp f16, kp f17, kp f18, kp f19, kp f20, kp f21, kp f22, kp f23, kp f24, kp f25, kp f26, kp f27, kp f28, kp f29, kp f30, kp f31, kp f32, kp f33, kp f34, kp f35, fun _ => rfl, kp f37, kp f38, kp f39, kp f40, kp f41, kp f42⟩
                            · -- 37
                              have d35 := f35 (hd' 35 (by kernel_rfl))
                              exact slot_step_nou (j := 35) (d := 173) rfl rfl rfl (by decide) (d35) ⟨r1, r7, r8, r17, r18, r19, hbz, kp f0, kp f1, kp f2, kp f3, kp f4, kp f5, kp f6, kp f7, kp f8, kp f9, kp f10, kp f11, kp f12, kp f13, kp f14, kp f15, kp f16, kp f17, kp f18, kp f19, kp f20, kp f21, kp f22, kp f23, kp f24, kp f25, kp f26, kp f27, kp f28, kp f29, kp f30, kp f31, kp f32, kp f33, kp f34, kp f35, kp f36, fun _ => rfl, kp f38, kp f39, kp f40, kp f41, kp f42⟩
                            · -- 38
                              have d35 := f35 (hd' 35 (by kernel_rfl))
                              exact slot_step_nou (j := 35) (d := 173) rfl rfl rfl (by decide) (d35) ⟨r1, r7, r8, r17, r18, r19, hbz, kp f0, kp f1, kp f2, kp f3, kp f4, kp f5, kp f6, kp f7, kp f8, kp f9, kp f10, kp f11, kp f12, kp f13, kp f14, kp f15, kp f16, kp f17, kp f18, kp f19, kp f20, kp f21, kp f22, kp f23, kp f24, kp f25, kp f26, kp f27, kp f28, kp f29, kp f30, kp f31, kp f32, kp f33, kp f34, kp f35, kp f36, kp f37, fun _ => rfl, kp f39, kp f40, kp f41, kp f42⟩
                            · -- 39
                              have d35 := f35 (hd' 35 (by kernel_rfl))
                              exact slot_step_nou (j := 35) (d := 173) rfl rfl rfl (by decide) (d35) ⟨r1, r7, r8, r17, r18, r19, hbz, kp f0, kp f1, kp f2, kp f3, kp f4, kp f5, kp f6, kp f7, kp f8, kp f9, kp f10, kp f11, kp f12, kp f13, kp f14, kp f15, kp f16, kp f17, kp f18, kp f19, kp f20, kp f21, kp f22, kp f23, kp f24, kp f25, kp f26, kp f27, kp f28, kp f29, kp f30, kp f31, kp f32, kp f33, kp f34, kp f35, kp f36, kp f37, kp f38, fun _ => rfl, kp f40, kp f41, kp f42⟩
                            · -- 40
                              have d30 := f30 (hd' 30 (by kernel_rfl))
                              exact slot_step_no (j := 30) (d := 168) rfl rfl rfl (by decide) (d30) ⟨r1, r7, r8, r17, r18, r19, hbz, kp f0, kp f1, kp f2, kp f3, kp f4, kp f5, kp f6, kp f7, kp f8, kp f9, kp f10, kp f11, kp f12, kp f13, kp f14, kp f15, kp f16, kp f17, kp f18, kp f19, kp f20, kp f21, kp f22, kp f23, kp f24, kp f25, kp f26, kp f27, kp f28, kp f29, kp f30, kp f31, kp f32, kp f33, kp f34, kp f35, kp f36, kp f37, kp f38, kp f39, fun _ => rfl, kp f41, kp f42⟩
                            · -- 41
                              have d27 := f27 (hd' 27 (by kernel_rfl))
                              have d30 := f30 (hd' 30 (by kernel_rfl))
                              have d40 := f40 (hd' 40 (by kernel_rfl))
                              refine slot_step_yes (j := 27) (d := 165) rfl rfl rfl (by decide) (d27) (fun az hs K hK => ?_)
                              have hK : Shut _ := hK
                              have e165 := hs.get 165
                              rw [d27] at e165
                              have e168 := hs.get 168
                              rw [d30] at e168
                              have e178 := hs.get 178
                              rw [d40] at e178
                              go_simp
                              exact hK.out _ _ ⟨r1, r7, r8, r17, r18, r19, hbz, kp f0, kp f1, kp f2, kp f3, kp f4, kp f5, kp f6, kp f7, kp f8, kp f9, kp f10, kp f11, kp f12, kp f13, kp f14, kp f15, kp f16, kp f17, kp f18, kp f19, kp f20, kp f21, kp f22, kp f23, kp f24, kp f25, kp f26, kp f27, kp f28, kp f29, kp f30, kp f31, kp f32, kp f33, kp f34, kp f35, kp f36, kp f37, kp f38, kp f39, kp f40, fun _ => rfl, kp f42⟩
                            · -- 42
                              have d27 := f27 (hd' 27 (by kernel_rfl))
                              have d41 := f41 (hd' 41 (by kernel_rfl))
                              refine slot_step rfl rfl (fun az hs K hK => ?_)
                              have hK : Shut _ := hK
                              have e165 := hs.get 165
                              rw [d27] at e165
                              have e179 := hs.get 179
                              rw [d41] at e179
                              go_simp
                              exact hK.out _ _ ⟨r1, r7, r8, r17, r18, r19, hbz, kp f0, kp f1, kp f2, kp f3, kp f4, kp f5, kp f6, kp f7, kp f8, kp f9, kp f10, kp f11, kp f12, kp f13, kp f14, kp f15, kp f16, kp f17, kp f18, kp f19, kp f20, kp f21, kp f22, kp f23, kp f24, kp f25, kp f26, kp f27, kp f28, kp f29, kp f30, kp f31, kp f32, kp f33, kp f34, kp f35, kp f36, kp f37, kp f38, kp f39, kp f40, kp f41, fun _ => rfl⟩
                          case hdone =>
                            rintro D g wz hD ⟨r1, r7, r8, r17, r18, r19, hbz, f0, f1, f2, f3, f4, f5, f6, f7, f8, f9, f10, f11, f12, f13, f14, f15, f16, f17, f18, f19, f20, f21, f22, f23, f24, f25, f26, f27, f28, f29, f30, f31, f32, f33, f34, f35, f36, f37, f38, f39, f40, f41, f42⟩
                            simp only [setAll, List.foldl_cons, List.foldl_nil, List.setIfInBounds_toArray, List.set_cons_succ, List.set_cons_zero]
                            have hSf := hide (hS11.out.step hbz)
                            have hRf := hide (hR11.out.step hbz)
                            have hbf := hide (hb11.out.trans (hbz.mono hb11.out.size))
                            have ef := f42 (hD 42)
                            rw [ef]
                            clear f0 f1 f2 f3 f4 f5 f6 f7 f8 f9 f10 f11 f12 f13 f14 f15 f16 f17 f18 f19 f20 f21 f22 f23 f24 f25 f26 f27 f28 f29 f30 f31 f32 f33 f34 f35 f36 f37 f38 f39 f40 f41 f42 hbz hS11 hR11 hb11 ef hD
                            go_wp2
                            go_roundw
                            case rel => exact ⟨k + 1, p, V7, L7, vwz, Lz, ls2, hlt, rfl, hvwv.symm, by go_num, hide ⟨hSf.out, hRf.out, hne7.out, hbf.out, hT.out.symm, hI2.out⟩⟩
                            case measure => simp [intOf]; omega
        · have hkn : n = k := by omega
          subst hkn
          have hLs : addAll l = ls := by rw [hP.out.eq, ← hll.out, List.take_length]
          have hgood := hide hP.out.alls.good
          have hlen := hP.out.alls.len
          have hLr : Lr.length ≤ 1000 := by have := hP.out.st.all.1; omega
          go_wp2_with fail
          refine (store_List (some ⟨p, 0, none⟩) Lr ls wr hP.out.st.keeps hP.out.st.all.rd hgood.out (by omega)).mono ?_
          rintro e w2 ⟨v, rfl, ⟨La, hLo, hLa⟩, hb2⟩
          obtain ⟨sa, rfl, hsan⟩ := own_sl hLo
          clear hsan
          have hS2 := hide (hP.out.st.step hb2)
          have hR2 := hide (hP.out.rw.step hb2)
          have hbw2 := hide (hP.out.bel.trans (hb2.mono hP.out.bel.size))
          replace hLo := hide hLo
          replace hLa := hide hLa
          clear hb2 hP
          go_wp2_with fail
          refine (store_At (some ⟨p, 0, none⟩) Lr ls depth w2 hS2.out.keeps hS2.out.all.rd hgood.out (by omega)).mono ?_
          rintro e w3 ⟨v, rfl, ⟨ss, hso, hsa⟩, hb3⟩
          obtain ⟨sb, rfl, hsbn⟩ := own_sl hso
          have hR3 := hide (hR2.out.step hb3)
          have hL3 := hide (own_keep hLo.out hb3)
          have hA3 := hide (hLa.out.step hb3)
          have hbw3 := hide (hbw2.out.trans (hb3.mono hbw2.out.size))
          have hn1 : sa.n = ls.length := by rw [row_n hL3.out]; exact hA3.out.1
          have hn2 : vw.n = ls.length := by rw [row_n hR3.out.own]; exact hR3.out.all.1
          have hn3 : sb.n = (atL depth ls).length := by rw [hsbn]; exact hsa.1
          have hss : ss.length = (atL depth ls).length := hsa.1
          replace hso := hide hso
          replace hsa := hide hsa
          have hal := atL_len depth ls
          obtain ⟨N, hN⟩ : ∃ N, ls.length = N := ⟨_, rfl⟩
          obtain ⟨M, hM⟩ : ∃ M, (atL depth ls).length = M := ⟨_, rfl⟩
          rw [hN] at hn1 hn2
          rw [hM] at hn3 hss
          have hN60 : N ≤ 60 := by omega
          have hM60 : M ≤ 60 := by omega
          have hNI : (N : Int) ≤ 60 := by omega
          obtain ⟨Aa, na, ca⟩ := sa
          obtain ⟨Aw, nw, cw⟩ := vw
          obtain ⟨Ab, nb, cb⟩ := sb
          obtain rfl : na = N := hn1
          obtain rfl : nw = na := hn2
          obtain rfl : nb = M := hn3
          replace hN := hide hN
          replace hM := hide hM
          replace hss := hide hss
          clear hb3 hLo hLa hS2 hR2 hbw2 hsbn hLs hlen hal hLr
          have hra : RdK w3 Aa nw La := rd_ofK (s := ⟨Aa, nw, ca⟩) hL3.out
          have hrw : RdK w3 Aw nw Lw := rd_ofK (s := ⟨Aw, nw, cw⟩) hR3.out.own
          have hrb : Rd w3 Ab nb (ss.map Sl.val) := rd_own (s := ⟨Ab, nb, cb⟩) hso.out
          dsimp only [Sl.val]
          go_wp2
          go_loopw [22, 23] (fun q i wr => ∃ i' q' : Nat, i' ≤ nw ∧ i = .int .i64 i' ∧ q = .int .i64 q' ∧ Hid (q' = (atL depth (ls.take i')).length) ∧ Hid (Below w3.heap.size w3 wr)) (fun _ i _ => nw - (intOf i).toNat)
          case atStart => exact ⟨0, 0, Nat.zero_le _, rfl, rfl, hide rfl, Below.refl _ _⟩
          case round =>
            obtain ⟨i, q, hi, rfl, rfl, hq, hb⟩ := hrel
            have hiI : (i : Int) ≤ 60 := by omega
            by_cases hlti : i < nw
            · obtain ⟨a1, x, rfl, hB1, hx, k0, k1, k2⟩ := hra.get hlti
              obtain ⟨a2, y, rfl, hB2, hy, e0, e1, e2⟩ := hrw.get hlti
              have hil : i < ls.length := by have := hN.out; omega
              have hxk := hA3.out.2 i (by rw [hA3.out.1]; exact hil)
              have hyk := hR3.out.all.2 i (by rw [hR3.out.all.1]; exact hil)
              rw [kvAt_is hx] at hxk
              rw [kvAt_is hy] at hyk
              have hgk := hgood.out.at hil
              have hqT := hide (congrArg (atL depth) (take_kc hil))
              have hqM : q ≤ 60 := by have h1 := atL_len depth (ls.take i); have h2 : (ls.take i).length ≤ i := List.length_take_le _ _; have := hq.out; omega
              have hqI : (q : Int) ≤ 60 := by omega
              have hat := hide (fun h => atL_at (dep := depth) hil h)
              obtain ⟨kc, hkc⟩ : ∃ kc, kcAt ls i = kc := ⟨_, rfl⟩
              rw [hkc] at hxk hyk hgk hqT hat
              have hyd : y.d = kc.d := hyk.d
              have hxc30 : x.c.n ≤ 1000000 := by have := hxk.rd.c.len; have := hgk.c; omega
              have hxi30 : x.i.n ≤ 1000000 := by have := hxk.rd.i.len; have := hgk.i; omega
              have k0 := keepCell hb.out k0
              have k1 := keepCell hb.out k1
              have k2 := keepCell hb.out k2
              have K0 := hide e0
              have K1 := hide e1
              have e0 := keepCell hb.out e0
              have e1 := keepCell hb.out e1
              have e2 := keepCell hb.out e2
              have hxR := hide (fun W (hbW : Below w3.heap.size w3 W) => hxk.rd.below hbW (Nat.le_refl _))
              have hyR := hide (fun W (hbW : Below w3.heap.size w3 W) => hyk.rd.below hbW (Nat.le_refl _))
              replace hyd := hide hyd
              clear hx hy hxk hyk hgk hkc
              go_wp2
              refine wp_region_slots [197, 198, 199, 200, 201, 202, 203, 204, 205, 206] (fun D g wz => g 20 = .slice (some a1) nw ca ∧ g 23 = .int .i64 (i : Int) ∧ g 8 = .slice (some a2) nw cw ∧ Below wr.heap.size wr wz ∧ (D 0 → g 197 = .slice (some a1) nw ca) ∧ (D 1 → g 198 = .int .i64 (i : Int)) ∧ (D 2 → g 199 = .pointer (some (a1.add (i * 3)))) ∧ (D 3 → g 200 = .agg x.cells) ∧ (D 4 → g 201 = .slice (some a2) nw cw) ∧ (D 5 → g 202 = .int .i64 (i : Int)) ∧ (D 6 → g 203 = .pointer (some (a2.add (i * 3)))) ∧ (D 7 → g 204 = .agg y.cells) ∧ (D 8 → g 205 = .bool true) ∧ (D 9 → g 206 = .bool false)) (by kernel_rfl) (by kernel_rfl) 240 rfl (by kernel_rfl) ?h0 ?hstep ?hdone
              case h0 => exact ⟨rfl, rfl, rfl, Dr.below (Dr.refl wr).drew _, nt0, nt0, nt0, nt0, nt0, nt0, nt0, nt0, nt0, nt0⟩
              case hstep =>
                intro D g wz i hi' hn hd' hI2
                obtain ⟨r20, r23, r8, hbz, f0, f1, f2, f3, f4, f5, f6, f7, f8, f9⟩ := hI2
                have hi' : i < 10 := hi'
                rcases (show i = 0 ∨ i = 1 ∨ i = 2 ∨ i = 3 ∨ i = 4 ∨ i = 5 ∨ i = 6 ∨ i = 7 ∨ i = 8 ∨ i = 9 by omega) with rfl | rfl | rfl | rfl | rfl | rfl | rfl | rfl | rfl | rfl
                · -- 0
                  refine slot_step rfl rfl (fun az hs K hK => ?_)
                  have hK : Shut _ := hK
                  have e20 := hs.get 20
                  rw [r20] at e20
                  go_simp
                  exact hK.out _ _ ⟨r20, r23, r8, hbz, fun _ => rfl, kp f1, kp f2, kp f3, kp f4, kp f5, kp f6, kp f7, kp f8, kp f9⟩
                · -- 1
                  refine slot_step rfl rfl (fun az hs K hK => ?_)
                  have hK : Shut _ := hK
                  have e23 := hs.get 23
                  rw [r23] at e23
                  go_simp
                  exact hK.out _ _ ⟨r20, r23, r8, hbz, kp f0, fun _ => rfl, kp f2, kp f3, kp f4, kp f5, kp f6, kp f7, kp f8, kp f9⟩
                · -- 2
                  have d0 := f0 (hd' 0 (by kernel_rfl))
                  have d1 := f1 (hd' 1 (by kernel_rfl))
                  refine slot_step rfl rfl (fun az hs K hK => ?_)
                  have hK : Shut _ := hK
                  have e197 := hs.get 197
                  rw [d0] at e197
                  have e198 := hs.get 198
                  rw [d1] at e198
                  go_simp
                  exact hK.out _ _ ⟨r20, r23, r8, hbz, kp f0, kp f1, fun _ => rfl, kp f3, kp f4, kp f5, kp f6, kp f7, kp f8, kp f9⟩
                · -- 3
                  have d2 := f2 (hd' 2 (by kernel_rfl))
                  refine slot_step rfl rfl (fun az hs K hK => ?_)
                  have hK : Shut _ := hK
                  have z0 := keepCell hbz k0
                  have z1 := keepCell hbz k1
                  have z2 := keepCell hbz k2
                  have e199 := hs.get 199
                  rw [d2] at e199
                  go_simp
                  exact hK.out _ _ ⟨r20, r23, r8, hbz, kp f0, kp f1, kp f2, fun _ => rfl, kp f4, kp f5, kp f6, kp f7, kp f8, kp f9⟩
                · -- 4
                  refine slot_step rfl rfl (fun az hs K hK => ?_)
                  have hK : Shut _ := hK
                  have e8 := hs.get 8
                  rw [r8] at e8
                  go_simp
                  exact hK.out _ _ ⟨r20, r23, r8, hbz, kp f0, kp f1, kp f2, kp f3, fun _ => rfl, kp f5, kp f6, kp f7, kp f8, kp f9⟩
                · -- 5
                  refine slot_step rfl rfl (fun az hs K hK => ?_)
                  have hK : Shut _ := hK
                  have e23 := hs.get 23
                  rw [r23] at e23
                  go_simp
                  exact hK.out _ _ ⟨r20, r23, r8, hbz, kp f0, kp f1, kp f2, kp f3, kp f4, fun _ => rfl, kp f6, kp f7, kp f8, kp f9⟩
                · -- 6
                  have d4 := f4 (hd' 4 (by kernel_rfl))
                  have d5 := f5 (hd' 5 (by kernel_rfl))
                  refine slot_step rfl rfl (fun az hs K hK => ?_)
                  have hK : Shut _ := hK
                  have e201 := hs.get 201
                  rw [d4] at e201
                  have e202 := hs.get 202
                  rw [d5] at e202
                  go_simp
                  exact hK.out _ _ ⟨r20, r23, r8, hbz, kp f0, kp f1, kp f2, kp f3, kp f4, kp f5, fun _ => rfl, kp f7, kp f8, kp f9⟩
                · -- 7
                  have d6 := f6 (hd' 6 (by kernel_rfl))
                  refine slot_step rfl rfl (fun az hs K hK => ?_)
                  have hK : Shut _ := hK
                  have z0 := keepCell hbz e0
                  have z1 := keepCell hbz e1
                  have z2 := keepCell hbz e2
                  have e203 := hs.get 203
                  rw [d6] at e203
                  go_simp
                  exact hK.out _ _ ⟨r20, r23, r8, hbz, kp f0, kp f1, kp f2, kp f3, kp f4, kp f5, kp f6, fun _ => rfl, kp f8, kp f9⟩
                · -- 8
                  have d3 := f3 (hd' 3 (by kernel_rfl))
                  have d7 := f7 (hd' 7 (by kernel_rfl))
                  refine slot_step rfl rfl (fun az hs K hK => ?_)
                  have hK : Shut _ := hK
                  have hbw := hb.out.trans (hbz.mono hb.out.size)
                  have e200 := hs.get 200
                  rw [d3] at e200
                  have e204 := hs.get 204
                  rw [d7] at e204
                  go_wp2_with (go_at_call 51; refine (same_is x y kc kc wz (hxR.out _ hbw) (hyR.out _ hbw) hxc30 hxi30 (sameK_self kc)).mono ?_; rintro e wy ⟨rfl, hbs⟩)
                  exact ⟨r20, r23, r8, hbz.trans (hbs.mono hbz.size), kp f0, kp f1, kp f2, kp f3, kp f4, kp f5, kp f6, kp f7, fun _ => rfl, kp f9⟩
                · -- 9
                  have d8 := f8 (hd' 8 (by kernel_rfl))
                  refine slot_step rfl rfl (fun az hs K hK => ?_)
                  have hK : Shut _ := hK
                  have e205 := hs.get 205
                  rw [d8] at e205
                  go_simp
                  exact hK.out _ _ ⟨r20, r23, r8, hbz, kp f0, kp f1, kp f2, kp f3, kp f4, kp f5, kp f6, kp f7, kp f8, fun _ => rfl⟩
              case hdone =>
                rintro D g wz hD ⟨r20, r23, r8, hbz, f0, f1, f2, f3, f4, f5, f6, f7, f8, f9⟩
                simp only [setAll, List.foldl_cons, List.foldl_nil, List.setIfInBounds_toArray, List.set_cons_succ, List.set_cons_zero]
                have hb5 := hide (hb.out.trans (hbz.mono hb.out.size))
                have ef := f9 (hD 9)
                rw [ef]
                clear f0 f1 f2 f3 f4 f5 f6 f7 f8 f9 hbz r20 r23 r8 ef hD k0 k1 k2 e0 e1 e2
                obtain ⟨w5, hw5⟩ : ∃ w5, w5 = wz := ⟨_, rfl⟩
                subst hw5
                obtain ⟨g38, hg38⟩ : ∃ g38, g38 = g := ⟨_, rfl⟩
                subst hg38
                have e1 := keepCell hb5.out K1.out
                rw [hyd.out] at e1
                by_cases hdp : kc.d = depth
                · obtain ⟨hqlt, hqc⟩ := hat.out hdp
                  rw [← hq.out] at hqlt hqc
                  have hqlt2 : q < nb := by have := hM.out; omega
                  have hqltI : (q : Int) < nb := by omega
                  obtain ⟨a3, u, rfl, hB3, hu, ku⟩ := hrb.2 q hqlt2
                  have hu2 : u = (slAt ss q).val := by
                    rw [List.getElem?_map, slAt_is (by rw [hss.out]; exact hqlt2)] at hu
                    injection hu with hu; exact hu.symm
                  subst hu2
                  obtain ⟨z, hz⟩ : ∃ z, slAt ss q = z := ⟨_, rfl⟩
                  have hzo := hsa.out.2 q (by rw [hss.out]; exact hqlt2)
                  rw [hqc, hz] at hzo
                  rw [hz] at ku
                  have hzn : z.n ≤ 1000000 := by have := (rd_own hzo).len; have := (hyR.out _ hb5.out).c.len; have := (hxR.out _ hb5.out).c.len; omega
                  have hf1 : (kc.d == depth) = true := by simp [hdp]
                  have H := hide (fun m => ref_Ints z.A y.c.A z.n y.c.n z.c y.c.c kc.c kc.c (w5.drewN m) hzn (((rd_own hzo).below hb5.out (Nat.le_refl _)).below (((Dr.refl w5).more m).below w5.heap.size) (Nat.le_refl _)) (((hyR.out _ hb5.out).c).below (((Dr.refl w5).more m).below w5.heap.size) (Nat.le_refl _)))
                  rw [show sameI kc.c kc.c = true by simp [sameI]] at H
                  have ku := keepCell hb5.out ku
                  have e0 := keepCell hb5.out K0.out
                  have hd1 : decide ((nb : Int) ≤ q) = false := by rw [decide_eq_false_iff_not]; omega
                  have hd2 : decide (nb ≤ q) = false := by rw [decide_eq_false_iff_not]; omega
                  have hq2 := hide (show q + 1 = (atL depth (ls.take (i + 1))).length by rw [hqT.out, atL_yes hdp, List.length_append, ← hq.out]; rfl)
                  clear hqlt hqc hu hz hzo hat hqT
                  go_wp2
                  go_quiet ((go_at_call 32; exact quiet_dr (H.out _)))
                  go_wp2
                  go_roundw
                  case rel => exact ⟨i + 1, q + 1, hlti, by go_num, by go_num, hq2, hide (hb5.out.trans ((((Dr.refl w5).more _).below w5.heap.size).mono hb5.out.size))⟩
                  case measure => simp [intOf]; omega
                · have hf1 : (kc.d == depth) = false := by simp [hdp]
                  have hq2 := hide (show q = (atL depth (ls.take (i + 1))).length by rw [hqT.out, atL_no hdp]; exact hq.out)
                  clear hat hqT
                  go_wp2
                  go_roundw
                  case rel => exact ⟨i + 1, q, hlti, by go_num, rfl, hq2, hb5⟩
                  case measure => simp [intOf]; omega
            · have hin : i = nw := by omega
              subst hin
              have hqM : q = nb := by rw [hq.out, ← hM.out, ← hN.out, List.take_length]
              subst hqM
              go_wp2_with fail
              refine (law_lives _).mono ?_
              rintro e w6 ⟨rfl, hb6⟩
              have hbf := hide (hbw3.out.trans ((hb.out.trans (hb6.mono hb.out.size)).mono hbw3.out.size))
              clear hb6
              go_wp2
              go_ret
              exact ⟨rfl, hbf.out⟩
    · go_enter Try.func8, Try.ntmps8
      go_wp2_with fail
      refine (few_is hn hr hf).mono ?_
      rintro e w1 ⟨rfl, rfl⟩
      clear hn
      have hm2 : 60 < m := by omega
      go_wp2_with fail
      refine (law_lives w).mono ?_
      rintro e w1 ⟨rfl, hb1⟩
      replace hb1 := hide hb1
      go_wp2
      go_ret
      exact ⟨rfl, hb1.out⟩
end Go.Proofs.Ytcjoohaagdihlaa.Kept
