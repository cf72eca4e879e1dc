/- Texts behind a row, one behind the other: WatchK4. -/
import Derived.Test.YtcjoohaagdihlaaWS18
import Derived.Test.YtcjoohaagdihlaaWS3
section
/- The document's store of clauses: Add. -/
namespace Go.Proofs.Ytcjoohaagdihlaa.Watch
open Go.RowKit Go.Lt Go.Proofs.Ytcjoohaagdihlaa.Lit Go.Proofs.Ytcjoohaagdihlaa.Sorted Go.Proofs.Ytcjoohaagdihlaa.Learn Go.Instr
open Go.Proofs.Ytcjoohaagdihlaa.Kept (Sl Sl.val)
set_option linter.unusedVariables false
set_option linter.unusedSimpArgs false

section
variable {P : Program} {w : World} {base e size bytes n : Nat} {z v : Value} {xs news : List Value}
/-- append of one element onto a row of the call's own, as one operation: the row lies where it lay, or in a new block -/
theorem oper_appendAt {o : Oper} {a : Act} {K : Act → World → Prop} {Q : Exit → Act → World → Prop} (s x : Operand) (t : TypeId) {g : Nat}
    (ho : o.op = .call { callee := .builtin .append, args := #[s, x], argTypes := #[t, t] })
    (ht : P.underlying t = some (.slice e)) (hi : (P.info? e).map (fun i => (i.zero, i.size, i.bytes)) = some (some z, size, bytes)) (hzs : z.cells.size = size) (hsz : 0 < size)
    (hs : a.eval s = v) (hx : a.eval x = .slice (some ⟨g, 0, none⟩) 1 1) (hown : w.ownsRow base e size v n xs) (hbase : base ≤ w.heap.size)
    (hl : news.length = size) (hnews : ∀ j u, news[j]? = some u → w.cell? ((⟨g, 0, none⟩ : Addr).add j) = some u) (h1 : ∀ u ∈ news, u.oneCell' = true) (h63 : n + 1 ≤ maxLen) (hby : (n + 1) * bytes ≤ 140737488355328)
    (h : ∀ v' w', w'.ownsRow base e size v' (n + 1) (xs ++ news) → w.grownBy w' v.ownBlock → (v'.ownBlock = v.ownBlock ∨ v'.ownBlock = some w.heap.size) → K (a.put o.dst v') w') : Oper.wp P o a w K Q := by
  obtain ⟨i, hi0, hz, hs1, hs2⟩ := info_parts hi
  obtain ⟨v', w', hr, h2, h3, h4, h5⟩ := run_append_own_at (P := P) w base t o.type e i z size bytes ht hi0 hz hs1 hs2 hzs hsz v n xs hown ⟨g, 0, none⟩ 1 1 news (by omega) hnews h1 h63 hby hbase
  unfold Oper.wp execOp
  simp only [ho, resolve, invoke, builtin, Sem.run_bind, Sem.run_pure, Result.andThen_ok, List.map_toArray, List.map_cons, List.map_nil, hs, hx, hr]
  exact h v' w' h2 h3 h5
end
theorem own_off {w : World} {b size n q : Nat} {e t : TypeId} {v : Value} {xs : List Value} {cs : Array Value} (h : w.ownsRow b e size v n xs) (k : Blk w q t cs) (hne : e ≠ t) : ∀ x, v.ownBlock = some x → ¬ x = q := fun x hx e => own_blk_ne h k hne (by rw [hx, e])
theorem cells_lit {w : World} {g : Nat} {t : TypeId} {x : Value} (h : Blk w g t #[x]) : ∀ j u, [x][j]? = some u → w.cell? ((⟨g, 0, none⟩ : Addr).add j) = some u := fun j u hu => by
  have : (⟨g, 0, none⟩ : Addr).add j = ⟨g, j, none⟩ := by unfold Addr.add; split <;> simp_all
  rw [this, h.cell j]; simpa using hu
theorem run_litS (A : Option Addr) (n c : Nat) (w : World) : (Instr.buildSlice 54 1 #[(0, .slice A n c)]).run Try.prog w = .ok (.slice (some ⟨w.heap.size, 0, none⟩) 1 1) (w.alloc (.cells #[.slice A n c] 40)) := by go_simp
theorem oper_litS {o : Oper} {a : Act} {w : World} {K : Act → World → Prop} {Q : Exit → Act → World → Prop} (y : Operand) (ho : o.op = .buildSlice 54 1 #[(0, y)]) (A : Option Addr) (n c : Nat) (hx : a.eval y = .slice A n c)
    (h : K (a.put o.dst (.slice (some ⟨w.heap.size, 0, none⟩) 1 1)) (w.alloc (.cells #[.slice A n c] 40))) : Oper.wp Try.prog o a w K Q := by
  unfold Oper.wp execOp
  simp only [ho, Sem.run_bind, Sem.run_pure, Result.andThen_ok, List.map_toArray, List.map_cons, List.map_nil, hx, run_litS]
  exact h
theorem info_b : (Try.prog.info? 4).map (fun i => (i.zero, i.size, i.bytes)) = some (some (.bool false), 1, 1) := by kernel_rfl
theorem fit_take {n : Int} {l : List Int} {k : Nat} {x : Int} (hx : (normC l)[k]? = some x) : (((normC l).take (k + 1)).all fun x => decide (x ≤ 2 * n + 1)) = ((((normC l).take k).all fun x => decide (x ≤ 2 * n + 1)) && decide (x ≤ 2 * n + 1)) := by
  rw [List.take_add_one, hx, List.all_append]
  simp
section
variable {lo : Nat} {T : Nat → Prop} {W W' : World} {q : Nat} {n : Int} {cv iv : Value} {sls : List Sl} {rows : List (List Int)} {is : List Bool}
set_option maxRecDepth 8000 in
set_option maxHeartbeats 4000000 in
theorem ref25_Add (h : RefM lo T W q n cv iv sls rows is) (hT : ∀ g, T g → g < W.heap.size) (hlo : lo ≤ W.heap.size) (hn : 0 ≤ n ∧ n ≤ 1048576) (hrow : rows.length ≤ 1000) (A : Option Addr) (m c : Nat) (l : List Int) (hm : m ≤ 1000) (hr : Rd W A m (ivs l)) :
    Calls Try.prog 58 #[.pointer (some ⟨q, 0, none⟩), .slice A m c] W (RefAdd lo T W q n cv iv sls rows is l) := by
  have hlenl := hr.len
  have HN := hide (ref20_Norm A m c l W (by omega) hr)
  have hw1 : IntKind.i64.wrap (2 * n) = 2 * n := IntWalk.i64_in _ (by omega)
  have hw2 : IntKind.i64.wrap (2 * n + 1) = 2 * n + 1 := IntWalk.i64_in _ (by omega)
  replace hn := hide hn
  clear hr
  go_enter Try.func58, Try.ntmps58
  go_wp2_with fail
  refine HN.out.mono ?_
  rintro e w1 ⟨hb1, ⟨hok, rfl⟩ | ⟨hok, A1, c1, rfl, hr1, hlo1⟩⟩
  · have h1 := hide (h.keep hb1)
    replace hb1 := hide hb1
    replace hok := hide hok
    clear HN h
    go_wp2
    go_loopw [6, 7] (fun b i wr => b = .bool false ∧ i = .int .i64 0 ∧ wr = w1) (fun _ _ _ => 0)
    case atStart => exact ⟨rfl, rfl, rfl⟩
    case round =>
      obtain ⟨rfl, rfl, hw⟩ := hrel
      subst wr
      go_wp2
      go_ret
      exact .inl ⟨by rw [hok.out]; rfl, rfl, h1.out, hb1.out⟩
  · have h1 := h.keep hb1
    obtain ⟨k1, hk1⟩ : ∃ k1, (normC l).length = k1 := ⟨_, rfl⟩
    rw [hk1] at hr1 ⊢
    have hq1 : k1 ≤ 1000 := by
      have h2 : (normC l).length ≤ (srt l).length := List.length_filter_le _ _
      have h3 := srt_len l
      omega
    have hqI : (k1 : Int) ≤ 1000 := by omega
    have hbx := hide h1.box
    replace hok := hide hok
    replace h := hide h
    replace h1 := hide h1
    replace hlo1 := hide hlo1
    replace hb1 := hide hb1
    replace hr1 := hide hr1
    replace hk1 := hide hk1
    clear HN
    go_wp2
    go_loopw [6, 7] (fun b i wr => ∃ k : Nat, k ≤ k1 ∧ i = .int .i64 k ∧ b = .bool (((normC l).take k).all fun x => decide (x ≤ 2 * n + 1)) ∧ Dr w1 wr) (fun _ i _ => k1 - (intOf i).toNat)
    case atStart => exact ⟨0, Nat.zero_le _, rfl, rfl, Dr.refl _⟩
    case round =>
      obtain ⟨k, hk, rfl, rfl, hd⟩ := hrel
      have hkI : (k : Int) ≤ 1000 := by omega
      by_cases hlt : k < k1
      · have hltI : (k : Int) < k1 := by omega
        obtain ⟨ad, x, hA, hB, hx, hc⟩ := (hd.rd hr1.out).get hlt
        subst hA
        have hft := fit_take (n := n) hx
        obtain ⟨b, hb⟩ : ∃ b, (((normC l).take k).all fun x => decide (x ≤ 2 * n + 1)) = b := ⟨_, rfl⟩
        rw [hb] at hft ⊢
        have b0 : wr.cell? ⟨q, 0, none⟩ = some (.int .i64 n) := (hd.cell _).trans (hbx.out.cell 0)
        obtain ⟨bx, hbx2⟩ : ∃ bx, decide (x ≤ 2 * n + 1) = bx := ⟨_, rfl⟩
        rw [hbx2] at hft
        replace hft := hide hft
        replace hb := hide hb
        replace hx := hide hx
        cases b with
        | true =>
          go_wp2
          go_quiet (fail)
          go_wp2
          go_roundw
          case rel => exact ⟨k + 1, hlt, by go_num, by rw [hft.out]; rfl, hd.more _⟩
          case measure => simp [intOf]; omega
        | false =>
          go_wp2
          go_quiet (fail)
          go_wp2
          go_roundw
          case rel => exact ⟨k + 1, hlt, by go_num, by rw [hft.out]; rfl, hd.more _⟩
          case measure => simp [intOf]; omega
      · have hkq : k = k1 := by omega
        subst hkq
        have hfull : (normC l).take k = normC l := by rw [← hk1.out, List.take_length]
        rw [hfull]
        have hfe : ((normC l).all fun x => decide (x ≤ 2 * n + 1)) = fitC n l := rfl
        rw [hfe]
        obtain ⟨fb, hfb⟩ : ∃ fb, fitC n l = fb := ⟨_, rfl⟩
        rw [hfb]
        have h2 := h1.out.keep (hd.below _)
        have hb2 := hb1.out.trans ((hd.below _).mono hb1.out.size)
        have hr2 := hd.rd hr1.out
        cases fb with
        | false =>
          replace hfb := hide hfb
          replace h2 := hide h2
          replace hb2 := hide hb2
          clear hfull hfe hr2
          go_wp2
          go_ret
          exact .inl ⟨by rw [hok.out, hfb.out]; rfl, rfl, h2.out, hb2.out⟩
        | true =>
          obtain ⟨w2, hw2e⟩ : ∃ w2, w2 = wr := ⟨_, rfl⟩
          subst hw2e
          have hX := h2.box
          have hcs := h2.cs
          have hib := h2.ib
          have hil := h2.il
          obtain ⟨L, hL⟩ : ∃ L, rows.length = L := ⟨_, rfl⟩
          rw [hL] at hcs hib hrow hil
          obtain ⟨cA, cc, rfl, _, _, _⟩ := Rd.of_own hcs
          obtain ⟨iA, ic, rfl, _, _, _⟩ := Rd.of_own hib
          have hcl : ∀ g, (Value.slice cA L cc).ownBlock = some g → g < w2.heap.size := fun g hg => (own_lt hcs hg).2
          have hil2 : ∀ g, (Value.slice iA L ic).ownBlock = some g → g < w2.heap.size := fun g hg => (own_lt hib hg).2
          have hlo2 : lo ≤ w2.heap.size := Nat.le_trans hlo hb2.size
          have hLI : (L : Int) ≤ 1000 := by omega
          have k1c : w2.cell? ⟨q, 1, none⟩ = some (.slice cA L cc) := hX.cell 1
          have k2c : w2.cell? ⟨q, 2, none⟩ = some (.slice iA L ic) := hX.cell 2
          have hW2 : W.heap.size ≤ w2.heap.size := hb2.size
          replace hfb := hide hfb
          replace h2 := hide h2
          replace hb2 := hide hb2
          replace hr2 := hide hr2
          replace hX := hide hX
          replace hcs := hide hcs
          replace hib := hide hib
          replace hL := hide hL
          replace hcl := hide hcl
          replace hil2 := hide hil2
          clear hfull hfe h1 hbx hb1 hr1
          go_wp2
          refine wp_region_slots [35, 36, 37, 38, 39, 40, 41, 42, 43, 44, 45, 46, 47, 48, 49, 50, 51, 52, 53] (fun D g wz => g 0 = .pointer (some ⟨q, 0, none⟩) ∧ g 5 = .slice A1 k c1 ∧ Fr (fun x => x = q ∨ (Value.slice cA L cc).ownBlock = some x ∨ (Value.slice iA L ic).ownBlock = some x) w2 wz ∧ (∃ x1 x2, Blk wz q 87 #[.int .i64 n, x1, x2]) ∧ (¬ D 17 → wz.cell? ⟨q, 1, none⟩ = some (Value.slice cA L cc)) ∧ (¬ D 20 → wz.cell? ⟨q, 2, none⟩ = some (Value.slice iA L ic)) ∧ (¬ D 8 → wz.ownsRow lo 40 1 (Value.slice cA L cc) L (sls.map Sl.val)) ∧ (¬ D 14 → wz.ownsRow lo 4 1 (Value.slice iA L ic) L (bvs is)) ∧ (D 17 → D 8) ∧ (D 8 → D 5) ∧ (D 8 → D 7) ∧ (D 20 → D 14) ∧ (D 14 → D 12) ∧ (D 14 → D 13) ∧ (D 0 → g 35 = .pointer (some ⟨q, 0, none⟩)) ∧ (D 1 → g 36 = .pointer (some ⟨q, 0, none⟩)) ∧ (D 2 → g 37 = .pointer (some ⟨q, 0, none⟩)) ∧ (D 3 → g 38 = .pointer (some ⟨q, 0, none⟩)) ∧ (D 4 → g 39 = .pointer (some ⟨q, 1, none⟩)) ∧ (D 5 → g 40 = .slice cA L cc) ∧ (D 6 → g 41 = .slice A1 k c1) ∧ (D 7 → ∃ gb, g 42 = .slice (some ⟨gb, 0, none⟩) 1 1 ∧ w2.heap.size ≤ gb ∧ Blk wz gb 40 #[.slice A1 k c1]) ∧ (D 8 → wz.ownsRow lo 40 1 (g 43) (L + 1) (sls.map Sl.val ++ [.slice A1 k c1]) ∧ ∀ y, (g 43).ownBlock = some y → (Value.slice cA L cc).ownBlock = some y ∨ w2.heap.size ≤ y) ∧ (D 9 → g 44 = .pointer (some ⟨q, 0, none⟩)) ∧ (D 10 → g 45 = .pointer (some ⟨q, 0, none⟩)) ∧ (D 11 → g 46 = .pointer (some ⟨q, 2, none⟩)) ∧ (D 12 → g 47 = .slice iA L ic) ∧ (D 13 → ∃ gb, g 48 = .slice (some ⟨gb, 0, none⟩) 1 1 ∧ w2.heap.size ≤ gb ∧ Blk wz gb 4 #[.bool true]) ∧ (D 14 → wz.ownsRow lo 4 1 (g 49) (L + 1) (bvs is ++ [.bool true]) ∧ ∀ y, (g 49).ownBlock = some y → (Value.slice iA L ic).ownBlock = some y ∨ w2.heap.size ≤ y) ∧ (D 15 → g 50 = .pointer (some ⟨q, 0, none⟩)) ∧ (D 16 → g 51 = .pointer (some ⟨q, 1, none⟩)) ∧ (D 17 → wz.cell? ⟨q, 1, none⟩ = some (g 43)) ∧ (D 18 → g 52 = .pointer (some ⟨q, 0, none⟩)) ∧ (D 19 → g 53 = .pointer (some ⟨q, 2, none⟩)) ∧ (D 20 → wz.cell? ⟨q, 2, none⟩ = some (g 49))) (by kernel_rfl) (by kernel_rfl) 60 rfl (by kernel_rfl) ?h0 ?hstep ?hdone
          case h0 => exact ⟨rfl, rfl, Fr.of_below ((Dr.refl w2).drew.below _), ⟨_, _, hX.out.dr (Dr.refl w2).drew⟩, (fun _ => ((Dr.refl w2).drew.cell _).trans k1c), (fun _ => ((Dr.refl w2).drew.cell _).trans k2c), (fun _ => (Dr.refl w2).drew.own hcs.out), (fun _ => (Dr.refl w2).drew.own hib.out), nt0, nt0, nt0, nt0, nt0, nt0, nt0, nt0, nt0, nt0, nt0, nt0, nt0, nt0, nt0, nt0, nt0, nt0, nt0, nt0, nt0, nt0, nt0, nt0, nt0, nt0, nt0⟩
          case hstep =>
            intro D g wz i hi' hn hd' hI2
            obtain ⟨r0, r5, hfz, bz, b1, b2, oc, oi, c17, c8, e8, c20, c14, e14, f0, f1, f2, f3, f4, f5, f6, f7, f8, f9, f10, f11, f12, f13, f14, f15, f16, f17, f18, f19, f20⟩ := hI2
            have hi' : i < 21 := hi'
            rcases (show i = 0 ∨ i = 1 ∨ i = 2 ∨ i = 3 ∨ i = 4 ∨ i = 5 ∨ i = 6 ∨ i = 7 ∨ i = 8 ∨ i = 9 ∨ i = 10 ∨ i = 11 ∨ i = 12 ∨ i = 13 ∨ i = 14 ∨ i = 15 ∨ i = 16 ∨ i = 17 ∨ i = 18 ∨ i = 19 ∨ i = 20 by omega) with rfl | rfl | rfl | rfl | rfl | rfl | rfl | rfl | rfl | rfl | rfl | rfl | rfl | rfl | rfl | rfl | rfl | rfl | rfl | rfl | rfl
            · -- 0
              refine slot_step rfl rfl (fun az hs K hK => ?_)
              have hK : Shut _ := hK
              have e0 := hs.get 0
              rw [r0] at e0
              go_simp
              exact hK.out _ _ ⟨r0, r5, hfz, bz, (fun h => b1 (fun e => h (Or.inr e))), (fun h => b2 (fun e => h (Or.inr e))), (fun h => oc (fun e => h (Or.inr e))), (fun h => oi (fun e => h (Or.inr e))), (fun h => h.elim (fun e => absurd e (by decide)) (fun h => Or.inr (c17 h))), (fun h => h.elim (fun e => absurd e (by decide)) (fun h => Or.inr (c8 h))), (fun h => h.elim (fun e => absurd e (by decide)) (fun h => Or.inr (e8 h))), (fun h => h.elim (fun e => absurd e (by decide)) (fun h => Or.inr (c20 h))), (fun h => h.elim (fun e => absurd e (by decide)) (fun h => Or.inr (c14 h))), (fun h => h.elim (fun e => absurd e (by decide)) (fun h => Or.inr (e14 h))), fun _ => rfl, kp f1, kp f2, kp f3, kp f4, kp f5, kp f6, kp f7, kp f8, kp f9, kp f10, kp f11, kp f12, kp f13, kp f14, kp f15, kp f16, kp f17, kp f18, kp f19, kp f20⟩
            · -- 1
              refine slot_step rfl rfl (fun az hs K hK => ?_)
              have hK : Shut _ := hK
              have e0 := hs.get 0
              rw [r0] at e0
              go_simp
              exact hK.out _ _ ⟨r0, r5, hfz, bz, (fun h => b1 (fun e => h (Or.inr e))), (fun h => b2 (fun e => h (Or.inr e))), (fun h => oc (fun e => h (Or.inr e))), (fun h => oi (fun e => h (Or.inr e))), (fun h => h.elim (fun e => absurd e (by decide)) (fun h => Or.inr (c17 h))), (fun h => h.elim (fun e => absurd e (by decide)) (fun h => Or.inr (c8 h))), (fun h => h.elim (fun e => absurd e (by decide)) (fun h => Or.inr (e8 h))), (fun h => h.elim (fun e => absurd e (by decide)) (fun h => Or.inr (c20 h))), (fun h => h.elim (fun e => absurd e (by decide)) (fun h => Or.inr (c14 h))), (fun h => h.elim (fun e => absurd e (by decide)) (fun h => Or.inr (e14 h))), kp f0, fun _ => rfl, kp f2, kp f3, kp f4, kp f5, kp f6, kp f7, kp f8, kp f9, kp f10, kp f11, kp f12, kp f13, kp f14, kp f15, kp f16, kp f17, kp f18, kp f19, kp f20⟩
            · -- 2
              refine slot_step rfl rfl (fun az hs K hK => ?_)
              have hK : Shut _ := hK
              have e0 := hs.get 0
              rw [r0] at e0
              go_simp
              exact hK.out _ _ ⟨r0, r5, hfz, bz, (fun h => b1 (fun e => h (Or.inr e))), (fun h => b2 (fun e => h (Or.inr e))), (fun h => oc (fun e => h (Or.inr e))), (fun h => oi (fun e => h (Or.inr e))), (fun h => h.elim (fun e => absurd e (by decide)) (fun h => Or.inr (c17 h))), (fun h => h.elim (fun e => absurd e (by decide)) (fun h => Or.inr (c8 h))), (fun h => h.elim (fun e => absurd e (by decide)) (fun h => Or.inr (e8 h))), (fun h => h.elim (fun e => absurd e (by decide)) (fun h => Or.inr (c20 h))), (fun h => h.elim (fun e => absurd e (by decide)) (fun h => Or.inr (c14 h))), (fun h => h.elim (fun e => absurd e (by decide)) (fun h => Or.inr (e14 h))), kp f0, kp f1, fun _ => rfl, kp f3, kp f4, kp f5, kp f6, kp f7, kp f8, kp f9, kp f10, kp f11, kp f12, kp f13, kp f14, kp f15, kp f16, kp f17, kp f18, kp f19, kp f20⟩
            · -- 3
              have d2 := f2 (hd' 2 (by kernel_rfl))
              refine slot_step rfl rfl (fun az hs K hK => ?_)
              have hK : Shut _ := hK
              have e37 := hs.get 37
              rw [d2] at e37
              go_simp
              exact hK.out _ _ ⟨r0, r5, hfz, bz, (fun h => b1 (fun e => h (Or.inr e))), (fun h => b2 (fun e => h (Or.inr e))), (fun h => oc (fun e => h (Or.inr e))), (fun h => oi (fun e => h (Or.inr e))), (fun h => h.elim (fun e => absurd e (by decide)) (fun h => Or.inr (c17 h))), (fun h => h.elim (fun e => absurd e (by decide)) (fun h => Or.inr (c8 h))), (fun h => h.elim (fun e => absurd e (by decide)) (fun h => Or.inr (e8 h))), (fun h => h.elim (fun e => absurd e (by decide)) (fun h => Or.inr (c20 h))), (fun h => h.elim (fun e => absurd e (by decide)) (fun h => Or.inr (c14 h))), (fun h => h.elim (fun e => absurd e (by decide)) (fun h => Or.inr (e14 h))), kp f0, kp f1, kp f2, fun _ => rfl, kp f4, kp f5, kp f6, kp f7, kp f8, kp f9, kp f10, kp f11, kp f12, kp f13, kp f14, kp f15, kp f16, kp f17, kp f18, kp f19, kp f20⟩
            · -- 4
              have d3 := f3 (hd' 3 (by kernel_rfl))
              refine slot_step rfl rfl (fun az hs K hK => ?_)
              have hK : Shut _ := hK
              have e38 := hs.get 38
              rw [d3] at e38
              go_simp
              exact hK.out _ _ ⟨r0, r5, hfz, bz, (fun h => b1 (fun e => h (Or.inr e))), (fun h => b2 (fun e => h (Or.inr e))), (fun h => oc (fun e => h (Or.inr e))), (fun h => oi (fun e => h (Or.inr e))), (fun h => h.elim (fun e => absurd e (by decide)) (fun h => Or.inr (c17 h))), (fun h => h.elim (fun e => absurd e (by decide)) (fun h => Or.inr (c8 h))), (fun h => h.elim (fun e => absurd e (by decide)) (fun h => Or.inr (e8 h))), (fun h => h.elim (fun e => absurd e (by decide)) (fun h => Or.inr (c20 h))), (fun h => h.elim (fun e => absurd e (by decide)) (fun h => Or.inr (c14 h))), (fun h => h.elim (fun e => absurd e (by decide)) (fun h => Or.inr (e14 h))), kp f0, kp f1, kp f2, kp f3, fun _ => rfl, kp f5, kp f6, kp f7, kp f8, kp f9, kp f10, kp f11, kp f12, kp f13, kp f14, kp f15, kp f16, kp f17, kp f18, kp f19, kp f20⟩
            · -- 5
              have d4 := f4 (hd' 4 (by kernel_rfl))
              refine slot_step rfl rfl (fun az hs K hK => ?_)
              have hK : Shut _ := hK
              have cz := b1 (fun e => hn (c8 (c17 e)))
              have e39 := hs.get 39
              rw [d4] at e39
              go_simp
              exact hK.out _ _ ⟨r0, r5, hfz, bz, (fun h => b1 (fun e => h (Or.inr e))), (fun h => b2 (fun e => h (Or.inr e))), (fun h => oc (fun e => h (Or.inr e))), (fun h => oi (fun e => h (Or.inr e))), (fun h => h.elim (fun e => absurd e (by decide)) (fun h => Or.inr (c17 h))), (fun h => h.elim (fun e => absurd e (by decide)) (fun h => Or.inr (c8 h))), (fun h => h.elim (fun e => absurd e (by decide)) (fun h => Or.inr (e8 h))), (fun h => h.elim (fun e => absurd e (by decide)) (fun h => Or.inr (c20 h))), (fun h => h.elim (fun e => absurd e (by decide)) (fun h => Or.inr (c14 h))), (fun h => h.elim (fun e => absurd e (by decide)) (fun h => Or.inr (e14 h))), kp f0, kp f1, kp f2, kp f3, kp f4, fun _ => rfl, kp f6, kp f7, kp f8, kp f9, kp f10, kp f11, kp f12, kp f13, kp f14, kp f15, kp f16, kp f17, kp f18, kp f19, kp f20⟩
            · -- 6
              refine slot_step rfl rfl (fun az hs K hK => ?_)
              have hK : Shut _ := hK
              have e5 := hs.get 5
              rw [r5] at e5
              go_simp
              exact hK.out _ _ ⟨r0, r5, hfz, bz, (fun h => b1 (fun e => h (Or.inr e))), (fun h => b2 (fun e => h (Or.inr e))), (fun h => oc (fun e => h (Or.inr e))), (fun h => oi (fun e => h (Or.inr e))), (fun h => h.elim (fun e => absurd e (by decide)) (fun h => Or.inr (c17 h))), (fun h => h.elim (fun e => absurd e (by decide)) (fun h => Or.inr (c8 h))), (fun h => h.elim (fun e => absurd e (by decide)) (fun h => Or.inr (e8 h))), (fun h => h.elim (fun e => absurd e (by decide)) (fun h => Or.inr (c20 h))), (fun h => h.elim (fun e => absurd e (by decide)) (fun h => Or.inr (c14 h))), (fun h => h.elim (fun e => absurd e (by decide)) (fun h => Or.inr (e14 h))), kp f0, kp f1, kp f2, kp f3, kp f4, kp f5, fun _ => rfl, kp f7, kp f8, kp f9, kp f10, kp f11, kp f12, kp f13, kp f14, kp f15, kp f16, kp f17, kp f18, kp f19, kp f20⟩
            · -- 7
              have d6 := f6 (hd' 6 (by kernel_rfl))
              refine slot_step rfl rfl (fun az hs K hK => ?_)
              have hK : Shut _ := hK
              obtain ⟨y1, y2, hbq⟩ := bz
              have hq := hbq.lt
              have hbw := (Below.refl wz.heap.size wz).alloc (Nat.le_refl _) (.cells #[.slice A1 k c1] 40)
              have e41 := hs.get 41
              rw [d6] at e41
              refine oper_litS (.tmp 41) rfl A1 k c1 (hs.eval d6) ?_
              exact hK.out (.slice (some ⟨wz.heap.size, 0, none⟩) 1 1) (wz.alloc (.cells #[.slice A1 k c1] 40)) ⟨r0, r5, hfz.trans (Fr.of_below hbw), ⟨y1, y2, hbq.below hbw hq⟩, (fun h => (hbw.cell (p := ⟨q, 1, none⟩) hq).trans (b1 (fun e => h (Or.inr e)))), (fun h => (hbw.cell (p := ⟨q, 2, none⟩) hq).trans (b2 (fun e => h (Or.inr e)))), (fun h => own_keep (oc (fun e => h (Or.inr e))) hbw), (fun h => own_keep (oi (fun e => h (Or.inr e))) hbw), (fun h => h.elim (fun e => absurd e (by decide)) (fun h => Or.inr (c17 h))), (fun h => h.elim (fun e => absurd e (by decide)) (fun h => Or.inr (c8 h))), (fun h => h.elim (fun e => absurd e (by decide)) (fun h => Or.inr (e8 h))), (fun h => h.elim (fun e => absurd e (by decide)) (fun h => Or.inr (c20 h))), (fun h => h.elim (fun e => absurd e (by decide)) (fun h => Or.inr (c14 h))), (fun h => h.elim (fun e => absurd e (by decide)) (fun h => Or.inr (e14 h))), kp f0, kp f1, kp f2, kp f3, kp f4, kp f5, kp f6, fun _ => ⟨wz.heap.size, rfl, hfz.size, Blk.new wz _ _⟩, fun h => h.elim (fun e => absurd e (by decide)) (fun h => absurd (e8 h) hn), kp f9, kp f10, kp f11, kp f12, fun h => h.elim (fun e => absurd e (by decide)) (fun h => let ⟨gb, e1, e2, e3⟩ := f13 h; ⟨gb, e1, e2, e3.below hbw e3.lt⟩), fun h => h.elim (fun e => absurd e (by decide)) (fun h => let ⟨e1, e2⟩ := f14 h; ⟨own_keep e1 hbw, e2⟩), kp f15, kp f16, fun h => h.elim (fun e => absurd e (by decide)) (fun h => absurd (e8 (c17 h)) hn), kp f18, kp f19, fun h => h.elim (fun e => absurd e (by decide)) (fun h => (hbw.cell (p := ⟨q, 2, none⟩) hq).trans (f20 h))⟩
            · -- 8
              have d5 := f5 (hd' 5 (by kernel_rfl))
              have d7 := f7 (hd' 7 (by kernel_rfl))
              refine slot_step rfl rfl (fun az hs K hK => ?_)
              have hK : Shut _ := hK
              obtain ⟨y1, y2, hbq⟩ := bz
              have hq := hbq.lt
              have ho := oc hn
              obtain ⟨gb, eg, hgb, hbk⟩ := d7
              have e40 := hs.get 40
              rw [d5] at e40
              refine oper_appendAt (.tmp 40) (.tmp 42) 54 rfl Try.underlying54 info_sl rfl (by decide) (hs.eval d5) (hs.eval eg) ho (Nat.le_trans hlo2 hfz.size) rfl (cells_lit hbk) (by simp [Value.oneCell']) (by unfold maxLen; omega) (by omega) ?_
              intro v2 wy hown2 hgr hat
              have hy8 : ∀ y, v2.ownBlock = some y → (Value.slice cA L cc).ownBlock = some y ∨ w2.heap.size ≤ y := fun y hy => hat.elim (fun h8 => .inl (h8 ▸ hy)) (fun h8 => .inr (by rw [h8] at hy; injection hy with hy; rw [← hy]; exact hfz.size))
              have hf : Fr (fun g => (Value.slice cA L cc).ownBlock = some g) wz wy := Fr.of_grown hgr (fun g e => .inl e)
              have hnq : ¬ (Value.slice cA L cc).ownBlock = some q := fun e => own_blk_ne ho hbq (by decide) e.symm
              exact hK.out _ _ ⟨r0, r5, hfz.trans (hf.more (fun g _ e => .inr (.inl e))), ⟨y1, y2, hf.blk hbq hnq⟩, (fun h => hf.cell (b1 (fun e => h (Or.inr e))) hnq), (fun h => hf.cell (b2 (fun e => h (Or.inr e))) hnq), (fun h => (h (by simp)).elim), (fun h => hf.own (oi (fun e => h (Or.inr e))) (fun g hg e => own_two (oi (fun e => h (Or.inr e))) ho (by decide) g hg e)), (fun h => h.elim (fun e => absurd e (by decide)) (fun h => Or.inr (c17 h))), (fun _ => Or.inr (hd' 5 (by kernel_rfl))), (fun _ => Or.inr (hd' 7 (by kernel_rfl))), (fun h => h.elim (fun e => absurd e (by decide)) (fun h => Or.inr (c20 h))), (fun h => h.elim (fun e => absurd e (by decide)) (fun h => Or.inr (c14 h))), (fun h => h.elim (fun e => absurd e (by decide)) (fun h => Or.inr (e14 h))), kp f0, kp f1, kp f2, kp f3, kp f4, kp f5, kp f6, fun _ => ⟨gb, eg, hgb, hf.blk hbk (fun e => by have := hcl.out gb e; omega)⟩, fun _ => ⟨hown2, hy8⟩, kp f9, kp f10, kp f11, kp f12, fun h => h.elim (fun e => absurd e (by decide)) (fun h => let ⟨gb, e1, e2, e3⟩ := f13 h; ⟨gb, e1, e2, hf.blk e3 (fun e => own_blk_ne ho e3 (by decide) e.symm)⟩), fun h => h.elim (fun e => absurd e (by decide)) (fun h => let ⟨e1, e2⟩ := f14 h; ⟨hf.own e1 (own_two e1 ho (by decide)), e2⟩), kp f15, kp f16, fun h => h.elim (fun e => absurd e (by decide)) (fun h => absurd (c17 h) hn), kp f18, kp f19, fun h => h.elim (fun e => absurd e (by decide)) (fun h => hf.cell (f20 h) hnq)⟩
            · -- 9
              refine slot_step rfl rfl (fun az hs K hK => ?_)
              have hK : Shut _ := hK
              have e0 := hs.get 0
              rw [r0] at e0
              go_simp
              exact hK.out _ _ ⟨r0, r5, hfz, bz, (fun h => b1 (fun e => h (Or.inr e))), (fun h => b2 (fun e => h (Or.inr e))), (fun h => oc (fun e => h (Or.inr e))), (fun h => oi (fun e => h (Or.inr e))), (fun h => h.elim (fun e => absurd e (by decide)) (fun h => Or.inr (c17 h))), (fun h => h.elim (fun e => absurd e (by decide)) (fun h => Or.inr (c8 h))), (fun h => h.elim (fun e => absurd e (by decide)) (fun h => Or.inr (e8 h))), (fun h => h.elim (fun e => absurd e (by decide)) (fun h => Or.inr (c20 h))), (fun h => h.elim (fun e => absurd e (by decide)) (fun h => Or.inr (c14 h))), (fun h => h.elim (fun e => absurd e (by decide)) (fun h => Or.inr (e14 h))), kp f0, kp f1, kp f2, kp f3, kp f4, kp f5, kp f6, kp f7, kp f8, fun _ => rfl, kp f10, kp f11, kp f12, kp f13, kp f14, kp f15, kp f16, kp f17, kp f18, kp f19, kp f20⟩
            · -- 10
              have d9 := f9 (hd' 9 (by kernel_rfl))
              refine slot_step rfl rfl (fun az hs K hK => ?_)
              have hK : Shut _ := hK
              have e44 := hs.get 44
              rw [d9] at e44
              go_simp
              exact hK.out _ _ ⟨r0, r5, hfz, bz, (fun h => b1 (fun e => h (Or.inr e))), (fun h => b2 (fun e => h (Or.inr e))), (fun h => oc (fun e => h (Or.inr e))), (fun h => oi (fun e => h (Or.inr e))), (fun h => h.elim (fun e => absurd e (by decide)) (fun h => Or.inr (c17 h))), (fun h => h.elim (fun e => absurd e (by decide)) (fun h => Or.inr (c8 h))), (fun h => h.elim (fun e => absurd e (by decide)) (fun h => Or.inr (e8 h))), (fun h => h.elim (fun e => absurd e (by decide)) (fun h => Or.inr (c20 h))), (fun h => h.elim (fun e => absurd e (by decide)) (fun h => Or.inr (c14 h))), (fun h => h.elim (fun e => absurd e (by decide)) (fun h => Or.inr (e14 h))), kp f0, kp f1, kp f2, kp f3, kp f4, kp f5, kp f6, kp f7, kp f8, kp f9, fun _ => rfl, kp f11, kp f12, kp f13, kp f14, kp f15, kp f16, kp f17, kp f18, kp f19, kp f20⟩
            · -- 11
              have d10 := f10 (hd' 10 (by kernel_rfl))
              refine slot_step rfl rfl (fun az hs K hK => ?_)
              have hK : Shut _ := hK
              have e45 := hs.get 45
              rw [d10] at e45
              go_simp
              exact hK.out _ _ ⟨r0, r5, hfz, bz, (fun h => b1 (fun e => h (Or.inr e))), (fun h => b2 (fun e => h (Or.inr e))), (fun h => oc (fun e => h (Or.inr e))), (fun h => oi (fun e => h (Or.inr e))), (fun h => h.elim (fun e => absurd e (by decide)) (fun h => Or.inr (c17 h))), (fun h => h.elim (fun e => absurd e (by decide)) (fun h => Or.inr (c8 h))), (fun h => h.elim (fun e => absurd e (by decide)) (fun h => Or.inr (e8 h))), (fun h => h.elim (fun e => absurd e (by decide)) (fun h => Or.inr (c20 h))), (fun h => h.elim (fun e => absurd e (by decide)) (fun h => Or.inr (c14 h))), (fun h => h.elim (fun e => absurd e (by decide)) (fun h => Or.inr (e14 h))), kp f0, kp f1, kp f2, kp f3, kp f4, kp f5, kp f6, kp f7, kp f8, kp f9, kp f10, fun _ => rfl, kp f12, kp f13, kp f14, kp f15, kp f16, kp f17, kp f18, kp f19, kp f20⟩
            · -- 12
              have d11 := f11 (hd' 11 (by kernel_rfl))
              refine slot_step rfl rfl (fun az hs K hK => ?_)
              have hK : Shut _ := hK
              have cz := b2 (fun e => hn (c14 (c20 e)))
              have e46 := hs.get 46
              rw [d11] at e46
              go_simp
              exact hK.out _ _ ⟨r0, r5, hfz, bz, (fun h => b1 (fun e => h (Or.inr e))), (fun h => b2 (fun e => h (Or.inr e))), (fun h => oc (fun e => h (Or.inr e))), (fun h => oi (fun e => h (Or.inr e))), (fun h => h.elim (fun e => absurd e (by decide)) (fun h => Or.inr (c17 h))), (fun h => h.elim (fun e => absurd e (by decide)) (fun h => Or.inr (c8 h))), (fun h => h.elim (fun e => absurd e (by decide)) (fun h => Or.inr (e8 h))), (fun h => h.elim (fun e => absurd e (by decide)) (fun h => Or.inr (c20 h))), (fun h => h.elim (fun e => absurd e (by decide)) (fun h => Or.inr (c14 h))), (fun h => h.elim (fun e => absurd e (by decide)) (fun h => Or.inr (e14 h))), kp f0, kp f1, kp f2, kp f3, kp f4, kp f5, kp f6, kp f7, kp f8, kp f9, kp f10, kp f11, fun _ => rfl, kp f13, kp f14, kp f15, kp f16, kp f17, kp f18, kp f19, kp f20⟩
            · -- 13
              refine slot_step rfl rfl (fun az hs K hK => ?_)
              have hK : Shut _ := hK
              obtain ⟨y1, y2, hbq⟩ := bz
              have hq := hbq.lt
              have hbw := (Below.refl wz.heap.size wz).alloc (Nat.le_refl _) (.cells #[.bool true] 4)
              go_simp
              exact hK.out (.slice (some ⟨wz.heap.size, 0, none⟩) 1 1) (wz.alloc (.cells #[.bool true] 4)) ⟨r0, r5, hfz.trans (Fr.of_below hbw), ⟨y1, y2, hbq.below hbw hq⟩, (fun h => (hbw.cell (p := ⟨q, 1, none⟩) hq).trans (b1 (fun e => h (Or.inr e)))), (fun h => (hbw.cell (p := ⟨q, 2, none⟩) hq).trans (b2 (fun e => h (Or.inr e)))), (fun h => own_keep (oc (fun e => h (Or.inr e))) hbw), (fun h => own_keep (oi (fun e => h (Or.inr e))) hbw), (fun h => h.elim (fun e => absurd e (by decide)) (fun h => Or.inr (c17 h))), (fun h => h.elim (fun e => absurd e (by decide)) (fun h => Or.inr (c8 h))), (fun h => h.elim (fun e => absurd e (by decide)) (fun h => Or.inr (e8 h))), (fun h => h.elim (fun e => absurd e (by decide)) (fun h => Or.inr (c20 h))), (fun h => h.elim (fun e => absurd e (by decide)) (fun h => Or.inr (c14 h))), (fun h => h.elim (fun e => absurd e (by decide)) (fun h => Or.inr (e14 h))), kp f0, kp f1, kp f2, kp f3, kp f4, kp f5, kp f6, fun h => h.elim (fun e => absurd e (by decide)) (fun h => let ⟨gb, e1, e2, e3⟩ := f7 h; ⟨gb, e1, e2, e3.below hbw e3.lt⟩), fun h => h.elim (fun e => absurd e (by decide)) (fun h => let ⟨e1, e2⟩ := f8 h; ⟨own_keep e1 hbw, e2⟩), kp f9, kp f10, kp f11, kp f12, fun _ => ⟨wz.heap.size, rfl, hfz.size, Blk.new wz _ _⟩, fun h => h.elim (fun e => absurd e (by decide)) (fun h => absurd (e14 h) hn), kp f15, kp f16, fun h => h.elim (fun e => absurd e (by decide)) (fun h => (hbw.cell (p := ⟨q, 1, none⟩) hq).trans (f17 h)), kp f18, kp f19, fun h => h.elim (fun e => absurd e (by decide)) (fun h => absurd (e14 (c20 h)) hn)⟩
            · -- 14
              have d12 := f12 (hd' 12 (by kernel_rfl))
              have d13 := f13 (hd' 13 (by kernel_rfl))
              refine slot_step rfl rfl (fun az hs K hK => ?_)
              have hK : Shut _ := hK
              obtain ⟨y1, y2, hbq⟩ := bz
              have hq := hbq.lt
              have ho := oi hn
              obtain ⟨gb, eg, hgb, hbk⟩ := d13
              have e47 := hs.get 47
              rw [d12] at e47
              refine oper_appendAt (.tmp 47) (.tmp 48) 59 rfl Try.underlying59 info_b rfl (by decide) (hs.eval d12) (hs.eval eg) ho (Nat.le_trans hlo2 hfz.size) rfl (cells_lit hbk) (by simp [Value.oneCell']) (by unfold maxLen; omega) (by omega) ?_
              intro v2 wy hown2 hgr hat
              have hy8 : ∀ y, v2.ownBlock = some y → (Value.slice iA L ic).ownBlock = some y ∨ w2.heap.size ≤ y := fun y hy => hat.elim (fun h8 => .inl (h8 ▸ hy)) (fun h8 => .inr (by rw [h8] at hy; injection hy with hy; rw [← hy]; exact hfz.size))
              have hf : Fr (fun g => (Value.slice iA L ic).ownBlock = some g) wz wy := Fr.of_grown hgr (fun g e => .inl e)
              have hnq : ¬ (Value.slice iA L ic).ownBlock = some q := fun e => own_blk_ne ho hbq (by decide) e.symm
              exact hK.out _ _ ⟨r0, r5, hfz.trans (hf.more (fun g _ e => .inr (.inr e))), ⟨y1, y2, hf.blk hbq hnq⟩, (fun h => hf.cell (b1 (fun e => h (Or.inr e))) hnq), (fun h => hf.cell (b2 (fun e => h (Or.inr e))) hnq), (fun h => hf.own (oc (fun e => h (Or.inr e))) (fun g hg e => own_two (oc (fun e => h (Or.inr e))) ho (by decide) g hg e)), (fun h => (h (by simp)).elim), (fun h => h.elim (fun e => absurd e (by decide)) (fun h => Or.inr (c17 h))), (fun h => h.elim (fun e => absurd e (by decide)) (fun h => Or.inr (c8 h))), (fun h => h.elim (fun e => absurd e (by decide)) (fun h => Or.inr (e8 h))), (fun h => h.elim (fun e => absurd e (by decide)) (fun h => Or.inr (c20 h))), (fun _ => Or.inr (hd' 12 (by kernel_rfl))), (fun _ => Or.inr (hd' 13 (by kernel_rfl))), kp f0, kp f1, kp f2, kp f3, kp f4, kp f5, kp f6, fun h => h.elim (fun e => absurd e (by decide)) (fun h => let ⟨gb, e1, e2, e3⟩ := f7 h; ⟨gb, e1, e2, hf.blk e3 (fun e => own_blk_ne ho e3 (by decide) e.symm)⟩), fun h => h.elim (fun e => absurd e (by decide)) (fun h => let ⟨e1, e2⟩ := f8 h; ⟨hf.own e1 (own_two e1 ho (by decide)), e2⟩), kp f9, kp f10, kp f11, kp f12, fun _ => ⟨gb, eg, hgb, hf.blk hbk (fun e => by have := hil2.out gb e; omega)⟩, fun _ => ⟨hown2, hy8⟩, kp f15, kp f16, fun h => h.elim (fun e => absurd e (by decide)) (fun h => hf.cell (f17 h) hnq), kp f18, kp f19, fun h => h.elim (fun e => absurd e (by decide)) (fun h => absurd (c20 h) hn)⟩
            · -- 15
              have d0 := f0 (hd' 0 (by kernel_rfl))
              refine slot_step rfl rfl (fun az hs K hK => ?_)
              have hK : Shut _ := hK
              have e35 := hs.get 35
              rw [d0] at e35
              go_simp
              exact hK.out _ _ ⟨r0, r5, hfz, bz, (fun h => b1 (fun e => h (Or.inr e))), (fun h => b2 (fun e => h (Or.inr e))), (fun h => oc (fun e => h (Or.inr e))), (fun h => oi (fun e => h (Or.inr e))), (fun h => h.elim (fun e => absurd e (by decide)) (fun h => Or.inr (c17 h))), (fun h => h.elim (fun e => absurd e (by decide)) (fun h => Or.inr (c8 h))), (fun h => h.elim (fun e => absurd e (by decide)) (fun h => Or.inr (e8 h))), (fun h => h.elim (fun e => absurd e (by decide)) (fun h => Or.inr (c20 h))), (fun h => h.elim (fun e => absurd e (by decide)) (fun h => Or.inr (c14 h))), (fun h => h.elim (fun e => absurd e (by decide)) (fun h => Or.inr (e14 h))), kp f0, kp f1, kp f2, kp f3, kp f4, kp f5, kp f6, kp f7, kp f8, kp f9, kp f10, kp f11, kp f12, kp f13, kp f14, fun _ => rfl, kp f16, kp f17, kp f18, kp f19, kp f20⟩
            · -- 16
              have d15 := f15 (hd' 15 (by kernel_rfl))
              refine slot_step rfl rfl (fun az hs K hK => ?_)
              have hK : Shut _ := hK
              have e50 := hs.get 50
              rw [d15] at e50
              go_simp
              exact hK.out _ _ ⟨r0, r5, hfz, bz, (fun h => b1 (fun e => h (Or.inr e))), (fun h => b2 (fun e => h (Or.inr e))), (fun h => oc (fun e => h (Or.inr e))), (fun h => oi (fun e => h (Or.inr e))), (fun h => h.elim (fun e => absurd e (by decide)) (fun h => Or.inr (c17 h))), (fun h => h.elim (fun e => absurd e (by decide)) (fun h => Or.inr (c8 h))), (fun h => h.elim (fun e => absurd e (by decide)) (fun h => Or.inr (e8 h))), (fun h => h.elim (fun e => absurd e (by decide)) (fun h => Or.inr (c20 h))), (fun h => h.elim (fun e => absurd e (by decide)) (fun h => Or.inr (c14 h))), (fun h => h.elim (fun e => absurd e (by decide)) (fun h => Or.inr (e14 h))), kp f0, kp f1, kp f2, kp f3, kp f4, kp f5, kp f6, kp f7, kp f8, kp f9, kp f10, kp f11, kp f12, kp f13, kp f14, kp f15, fun _ => rfl, kp f17, kp f18, kp f19, kp f20⟩
            · -- 17
              have d8 := f8 (hd' 8 (by kernel_rfl))
              have d16 := f16 (hd' 16 (by kernel_rfl))
              refine slot_step rfl rfl (fun az hs K hK => ?_)
              have hK : Shut _ := hK
              obtain ⟨y1, y2, hbq⟩ := bz
              have hq := hbq.lt
              have hs1 := fr_set (S := fun x => x = q) (p := ⟨q, 1, none⟩) (w := wz) rfl (g 43)
              obtain ⟨vA, vc, hve, _, _, _⟩ := Rd.of_own d8.1
              have yf := hbq.frozen 1
              have yc : wz.cell? ⟨q, 1, none⟩ = some y1 := hbq.cell 1
              have e43 := hs.get 43
              rw [hve] at e43
              have e51 := hs.get 51
              rw [d16] at e51
              go_simp
              rw [← hve]
              exact hK.out undef (wz.setCell ⟨q, 1, none⟩ (g 43)) ⟨r0, r5, hfz.trans (hs1.more (fun g _ e => .inl e)), ⟨_, _, hbq.set_ 1 (g 43)⟩, (fun h => (h (by simp)).elim), (fun h => ((hbq.set_ 1 (g 43)).cell 2).trans ((hbq.cell 2).symm.trans (b2 (fun e => h (Or.inr e))))), (fun h => hs1.own (oc (fun e => h (Or.inr e))) (own_off (oc (fun e => h (Or.inr e))) hbq (by decide))), (fun h => hs1.own (oi (fun e => h (Or.inr e))) (own_off (oi (fun e => h (Or.inr e))) hbq (by decide))), (fun _ => Or.inr (hd' 8 (by kernel_rfl))), (fun h => h.elim (fun e => absurd e (by decide)) (fun h => Or.inr (c8 h))), (fun h => h.elim (fun e => absurd e (by decide)) (fun h => Or.inr (e8 h))), (fun h => h.elim (fun e => absurd e (by decide)) (fun h => Or.inr (c20 h))), (fun h => h.elim (fun e => absurd e (by decide)) (fun h => Or.inr (c14 h))), (fun h => h.elim (fun e => absurd e (by decide)) (fun h => Or.inr (e14 h))), kp f0, kp f1, kp f2, kp f3, kp f4, kp f5, kp f6, fun h => h.elim (fun e => absurd e (by decide)) (fun h => let ⟨gb, e1, e2, e3⟩ := f7 h; ⟨gb, e1, e2, hs1.blk e3 (blk_ne e3 hbq (by decide))⟩), fun h => h.elim (fun e => absurd e (by decide)) (fun h => let ⟨e1, e2⟩ := f8 h; ⟨hs1.own e1 (own_off e1 hbq (by decide)), e2⟩), kp f9, kp f10, kp f11, kp f12, fun h => h.elim (fun e => absurd e (by decide)) (fun h => let ⟨gb, e1, e2, e3⟩ := f13 h; ⟨gb, e1, e2, hs1.blk e3 (blk_ne e3 hbq (by decide))⟩), fun h => h.elim (fun e => absurd e (by decide)) (fun h => let ⟨e1, e2⟩ := f14 h; ⟨hs1.own e1 (own_off e1 hbq (by decide)), e2⟩), kp f15, kp f16, fun _ => (hbq.set_ 1 (g 43)).cell 1, kp f18, kp f19, fun h => h.elim (fun e => absurd e (by decide)) (fun h => ((hbq.set_ 1 (g 43)).cell 2).trans ((hbq.cell 2).symm.trans (f20 h)))⟩
            · -- 18
              have d1 := f1 (hd' 1 (by kernel_rfl))
              refine slot_step rfl rfl (fun az hs K hK => ?_)
              have hK : Shut _ := hK
              have e36 := hs.get 36
              rw [d1] at e36
              go_simp
              exact hK.out _ _ ⟨r0, r5, hfz, bz, (fun h => b1 (fun e => h (Or.inr e))), (fun h => b2 (fun e => h (Or.inr e))), (fun h => oc (fun e => h (Or.inr e))), (fun h => oi (fun e => h (Or.inr e))), (fun h => h.elim (fun e => absurd e (by decide)) (fun h => Or.inr (c17 h))), (fun h => h.elim (fun e => absurd e (by decide)) (fun h => Or.inr (c8 h))), (fun h => h.elim (fun e => absurd e (by decide)) (fun h => Or.inr (e8 h))), (fun h => h.elim (fun e => absurd e (by decide)) (fun h => Or.inr (c20 h))), (fun h => h.elim (fun e => absurd e (by decide)) (fun h => Or.inr (c14 h))), (fun h => h.elim (fun e => absurd e (by decide)) (fun h => Or.inr (e14 h))), kp f0, kp f1, kp f2, kp f3, kp f4, kp f5, kp f6, kp f7, kp f8, kp f9, kp f10, kp f11, kp f12, kp f13, kp f14, kp f15, kp f16, kp f17, fun _ => rfl, kp f19, kp f20⟩
            · -- 19
              have d18 := f18 (hd' 18 (by kernel_rfl))
              refine slot_step rfl rfl (fun az hs K hK => ?_)
              have hK : Shut _ := hK
              have e52 := hs.get 52
              rw [d18] at e52
              go_simp
              exact hK.out _ _ ⟨r0, r5, hfz, bz, (fun h => b1 (fun e => h (Or.inr e))), (fun h => b2 (fun e => h (Or.inr e))), (fun h => oc (fun e => h (Or.inr e))), (fun h => oi (fun e => h (Or.inr e))), (fun h => h.elim (fun e => absurd e (by decide)) (fun h => Or.inr (c17 h))), (fun h => h.elim (fun e => absurd e (by decide)) (fun h => Or.inr (c8 h))), (fun h => h.elim (fun e => absurd e (by decide)) (fun h => Or.inr (e8 h))), (fun h => h.elim (fun e => absurd e (by decide)) (fun h => Or.inr (c20 h))), (fun h => h.elim (fun e => absurd e (by decide)) (fun h => Or.inr (c14 h))), (fun h => h.elim (fun e => absurd e (by decide)) (fun h => Or.inr (e14 h))), kp f0, kp f1, kp f2, kp f3, kp f4, kp f5, kp f6, kp f7, kp f8, kp f9, kp f10, kp f11, kp f12, kp f13, kp f14, kp f15, kp f16, kp f17, kp f18, fun _ => rfl, kp f20⟩
            · -- 20
              have d14 := f14 (hd' 14 (by kernel_rfl))
              have d19 := f19 (hd' 19 (by kernel_rfl))
              refine slot_step rfl rfl (fun az hs K hK => ?_)
              have hK : Shut _ := hK
              obtain ⟨y1, y2, hbq⟩ := bz
              have hq := hbq.lt
              have hs1 := fr_set (S := fun x => x = q) (p := ⟨q, 2, none⟩) (w := wz) rfl (g 49)
              obtain ⟨vA, vc, hve, _, _, _⟩ := Rd.of_own d14.1
              have yf := hbq.frozen 2
              have yc : wz.cell? ⟨q, 2, none⟩ = some y2 := hbq.cell 2
              have e49 := hs.get 49
              rw [hve] at e49
              have e53 := hs.get 53
              rw [d19] at e53
              go_simp
              rw [← hve]
              exact hK.out undef (wz.setCell ⟨q, 2, none⟩ (g 49)) ⟨r0, r5, hfz.trans (hs1.more (fun g _ e => .inl e)), ⟨_, _, hbq.set_ 2 (g 49)⟩, (fun h => ((hbq.set_ 2 (g 49)).cell 1).trans ((hbq.cell 1).symm.trans (b1 (fun e => h (Or.inr e))))), (fun h => (h (by simp)).elim), (fun h => hs1.own (oc (fun e => h (Or.inr e))) (own_off (oc (fun e => h (Or.inr e))) hbq (by decide))), (fun h => hs1.own (oi (fun e => h (Or.inr e))) (own_off (oi (fun e => h (Or.inr e))) hbq (by decide))), (fun h => h.elim (fun e => absurd e (by decide)) (fun h => Or.inr (c17 h))), (fun h => h.elim (fun e => absurd e (by decide)) (fun h => Or.inr (c8 h))), (fun h => h.elim (fun e => absurd e (by decide)) (fun h => Or.inr (e8 h))), (fun _ => Or.inr (hd' 14 (by kernel_rfl))), (fun h => h.elim (fun e => absurd e (by decide)) (fun h => Or.inr (c14 h))), (fun h => h.elim (fun e => absurd e (by decide)) (fun h => Or.inr (e14 h))), kp f0, kp f1, kp f2, kp f3, kp f4, kp f5, kp f6, fun h => h.elim (fun e => absurd e (by decide)) (fun h => let ⟨gb, e1, e2, e3⟩ := f7 h; ⟨gb, e1, e2, hs1.blk e3 (blk_ne e3 hbq (by decide))⟩), fun h => h.elim (fun e => absurd e (by decide)) (fun h => let ⟨e1, e2⟩ := f8 h; ⟨hs1.own e1 (own_off e1 hbq (by decide)), e2⟩), kp f9, kp f10, kp f11, kp f12, fun h => h.elim (fun e => absurd e (by decide)) (fun h => let ⟨gb, e1, e2, e3⟩ := f13 h; ⟨gb, e1, e2, hs1.blk e3 (blk_ne e3 hbq (by decide))⟩), fun h => h.elim (fun e => absurd e (by decide)) (fun h => let ⟨e1, e2⟩ := f14 h; ⟨hs1.own e1 (own_off e1 hbq (by decide)), e2⟩), kp f15, kp f16, fun h => h.elim (fun e => absurd e (by decide)) (fun h => ((hbq.set_ 2 (g 49)).cell 1).trans ((hbq.cell 1).symm.trans (f17 h))), kp f18, kp f19, fun _ => (hbq.set_ 2 (g 49)).cell 2⟩
          case hdone =>
            rintro D g wz hD ⟨r0, r5, hfz, bz, b1, b2, oc, oi, c17, c8, e8, c20, c14, e14, f0, f1, f2, f3, f4, f5, f6, f7, f8, f9, f10, f11, f12, f13, f14, f15, f16, f17, f18, f19, f20⟩
            simp only [setAll, List.foldl_cons, List.foldl_nil, List.setIfInBounds_toArray, List.set_cons_succ, List.set_cons_zero]
            obtain ⟨o1, a1⟩ := f8 (hD 8)
            obtain ⟨o2, a2⟩ := f14 (hD 14)
            have z1 := f17 (hD 17)
            have z2 := f20 (hD 20)
            obtain ⟨y1, y2, hbq⟩ := bz
            obtain ⟨v1, hv1⟩ : ∃ v1, g 43 = v1 := ⟨_, rfl⟩
            obtain ⟨v2, hv2⟩ : ∃ v2, g 49 = v2 := ⟨_, rfl⟩
            rw [hv1] at o1 a1 z1
            rw [hv2] at o2 a2 z2
            have x1 : wz.cell? ⟨q, 1, none⟩ = some y1 := hbq.cell 1
            have x2 : wz.cell? ⟨q, 2, none⟩ = some y2 := hbq.cell 2
            rw [z1] at x1
            rw [z2] at x2
            injection x1 with x1
            injection x2 with x2
            subst x1 x2
            clear f0 f1 f2 f3 f4 f5 f6 f7 f8 f9 f10 f11 f12 f13 f14 f15 f16 f17 f18 f19 f20 hD r0 r5 b1 b2 oc oi c17 c8 e8 c20 c14 e14
            have hrdW := hfz.rd hr2.out (fun ad he e => by
              have h7 := hlo1.out ad he
              have hx := h2.out
              rcases e with e | e | e
              · have h8 := hT _ (h.out.tq); omega
              · have h8 := hT _ (h.out.tc _ e); omega
              · have h8 := hT _ (h.out.ti _ e); omega)
            have hR : RefM lo (fun g => T g ∨ v1.ownBlock = some g ∨ v2.ownBlock = some g) wz q n v1 v2 (sls ++ [⟨A1, k, c1⟩]) (rows ++ [normC l]) (is ++ [true]) := by
              refine ⟨hbq, ?_, ?_, h2.out.lq, by rw [List.length_append, List.length_append, h2.out.il]; rfl, fun j s row hs hrw => ?_, .inl h2.out.tq, fun g hg => .inr (.inl hg), fun g hg => .inr (.inr hg)⟩
              · rw [List.length_append, hL.out, List.map_append]; exact o1
              · rw [List.length_append, hL.out]; unfold bvs; rw [List.map_append]; exact o2
              · have hls := h2.out.lens
                rcases Nat.lt_trichotomy j rows.length with hj | hj | hj
                · rw [List.getElem?_append_left (by omega)] at hs hrw
                  have kk := (h2.out.rd j s row hs hrw)
                  refine KpS.fr (kk.more (T' := fun g => T g ∨ v1.ownBlock = some g ∨ v2.ownBlock = some g) (fun g e => ?_)) hfz (fun g e => ?_)
                  · rcases e with e | e | e
                    · exact .inl e
                    · exact (a1 g e).imp (h.out.tc g) id
                    · exact (a2 g e).imp (h.out.ti g) id
                  · rcases e with e | e | e
                    · exact .inl (e ▸ h.out.tq)
                    · exact .inl (h.out.tc g e)
                    · exact .inl (h.out.ti g e)
                · subst hj
                  rw [List.getElem?_append_right (by omega), hls, Nat.sub_self] at hs
                  rw [List.getElem?_append_right (by omega), Nat.sub_self] at hrw
                  injection hs with hs
                  injection hrw with hrw
                  subst hs hrw
                  refine ⟨hrdW, fun hn0 ad he e => ?_⟩
                  have h7 := hlo1.out ad he
                  obtain ⟨ad2, he2, hl2⟩ := hr2.out.addr (Nat.pos_of_ne_zero hn0)
                  have he3 := he.symm.trans he2
                  injection he3 with he3
                  subst he3
                  rcases e with e | e | e
                  · have h8 := hT _ e; omega
                  · rcases a1 _ e with e | e
                    · have h8 := hT _ (h.out.tc _ e); omega
                    · omega
                  · rcases a2 _ e with e | e
                    · have h8 := hT _ (h.out.ti _ e); omega
                    · omega
                · rw [List.getElem?_append_right (by omega)] at hrw
                  have : 1 ≤ j - rows.length := by omega
                  rw [List.getElem?_eq_none (by simpa using this)] at hrw
                  cases hrw
            have hFr : Fr (fun x => x = q ∨ (Value.slice cA L cc).ownBlock = some x ∨ (Value.slice iA L ic).ownBlock = some x) W wz := (Fr.of_below hb2.out).trans hfz
            have ha1 : ∀ g, v1.ownBlock = some g → T g ∨ W.heap.size ≤ g := fun g e => (a1 g e).imp (h.out.tc g) (fun e => by omega)
            have ha2 : ∀ g, v2.ownBlock = some g → T g ∨ W.heap.size ≤ g := fun g e => (a2 g e).imp (h.out.ti g) (fun e => by omega)
            obtain ⟨vA, vc, hve, _, _, _⟩ := Rd.of_own o1
            subst hve
            have z1 : wz.cell? ⟨q, 1, none⟩ = some (.slice vA (L + 1) vc) := hbq.cell 1
            obtain ⟨w5, hw5⟩ : ∃ w5, w5 = wz := ⟨_, rfl⟩
            subst hw5
            replace hR := hide hR
            replace hFr := hide hFr
            replace ha1 := hide ha1
            replace ha2 := hide ha2
            clear hfz hrdW hbq o1 o2 a1 a2 hv1 hv2 z2
            go_wp2
            go_ret
            exact .inr ⟨by rw [hok.out, hfb.out]; rfl, ret_int (by rw [hL.out]), _, _, _, hR.out, hFr.out, ha1.out, ha2.out⟩
end
end Go.Proofs.Ytcjoohaagdihlaa.Watch
end
