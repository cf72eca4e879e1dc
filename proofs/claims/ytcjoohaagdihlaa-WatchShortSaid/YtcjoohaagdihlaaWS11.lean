/- Texts behind a row, one behind the other: Trail3. -/
import Derived.Test.YtcjoohaagdihlaaWS10
import Derived.Maps.AppendAt
section
/- The program's (*Trail).Set, at the first level. -/
namespace Go.Proofs.Ytcjoohaagdihlaa.Watch
open Go.RowKit Go.Lt Go.Proofs.Ytcjoohaagdihlaa.Lit Go.Proofs.Ytcjoohaagdihlaa.Sorted Go.Proofs.Ytcjoohaagdihlaa.Learn Go.Instr
set_option linter.unusedVariables false
set_option linter.unusedSimpArgs false

section
variable {P : Program} {w w0 : World} {base e size bytes n : Nat} {z v : Value} {xs news : List Value}
/-- append of one element onto a row of the call's own: the row lies where it lay, or in a new block -/
theorem wpList_pushAt {ops : Array Oper} {rest : List Oper} {o : Oper} {a : Act} {Q : Exit → Act → World → Prop} (hgd : o.guard = none) (s x : Operand) (t : TypeId)
    (ho : o.op = .call { callee := .builtin .append, args := #[s, x], argTypes := #[t, t] })
    (ht : P.underlying t = some (.slice e)) (hi : (P.info? e).map (fun i => (i.zero, i.size, i.bytes)) = some (some z, size, bytes)) (hzs : z.cells.size = size) (hsz : 0 < size)
    (hs : a.eval s = v) (hx : a.eval x = .slice (some ⟨w.heap.size, 0, none⟩) 1 1) (hown : w.ownsRow base e size v n xs) (hb : Below base w0 w) (hbase : base ≤ w0.heap.size)
    (hl : news.length = size) (h1 : ∀ u ∈ news, u.oneCell' = true) (h63 : n + 1 ≤ maxLen) (hby : (n + 1) * bytes ≤ 140737488355328)
    (h : ∀ v' w', w'.ownsRow base e size v' (n + 1) (xs ++ news) → Below base w0 w' → (w.alloc (.cells news.toArray e)).grownBy w' v.ownBlock → (v'.ownBlock = v.ownBlock ∨ v'.ownBlock = some (w.heap.size + 1)) → wpList P ops Q rest (a.put o.dst v') w') :
    wpList P ops Q (o :: rest) a (w.alloc (.cells news.toArray e)) := by
  obtain ⟨i, hi0, hz, hs1, hs2⟩ := info_parts hi
  refine wpList_plain hgd fun K' hK' => ?_
  have hnews : ∀ j u, news[j]? = some u → (w.alloc (.cells news.toArray e)).cell? ((⟨w.heap.size, 0, none⟩ : Addr).add j) = some u := by
    intro j u hu
    have : (⟨w.heap.size, 0, none⟩ : Addr).add j = ⟨w.heap.size, j, none⟩ := by unfold Addr.add; split <;> simp_all
    rw [this, World.cell?_alloc_new]
    simpa using hu
  obtain ⟨v', w', hr, h2, h3, h4, h5⟩ := run_append_own_at (P := P) (w.alloc (.cells news.toArray e)) base t o.type e i z size bytes ht hi0 hz hs1 hs2 hzs hsz v n xs (hown.alloc _) ⟨w.heap.size, 0, none⟩ 1 1 news (by omega) hnews h1 h63 hby (by have := hb.size; simp; omega)
  rw [World.size_alloc] at h5
  unfold Oper.wp execOp
  simp only [ho, resolve, invoke, builtin, Sem.run_bind, Sem.run_pure, Result.andThen_ok, List.map_toArray, List.map_cons, List.map_nil, hs, hx, hr]
  exact hK' _ _ (h v' w' h2 ((hb.alloc (by have := hb.size; omega) _).grown h3 (by have := hb.size; simp; omega) (fun k hk => (hown.lt k hk).1)) h3 h5)
end
theorem trail_LevelB {W : World} {p : Nat} {a b c : Value} (h : Blk W p 134 #[a, b, c, .slice none 0 0]) :
    Calls Try.prog 120 #[.pointer (some ⟨p, 0, none⟩)] W fun e w' => e = .returned (.int .i64 0) ∧ W = w' := by
  have b0 := h.cell 3
  clear h
  go_enter Try.func120, Try.ntmps120
  go_wp2
  go_ret
  exact ⟨rfl, rfl⟩
theorem value_is {base : Nat} {W : World} {p gv gm N : Nat} {lv : Value} {vals : List Int} {mk : List Mk} {ls : List Int} (h : TrM base W p gv gm N lv vals mk ls) (hN : N ≤ 10000000) {x v : Int} (hv : litV vals x = v) :
    Calls Try.prog 110 #[.pointer (some ⟨p, 0, none⟩), .int .i64 x] W fun e w' => e = .returned (.int .i64 v) ∧ W = w' := by subst hv; exact trail_Value h hN x
theorem flat_set {l : List Mk} {k : Nat} {m : Mk} (hk : k < l.length) : (((l.flatMap encM).set (k * 3) (.int .i64 m.lev)).set (k * 3 + 1) (.int .i64 m.why)).set (k * 3 + 2) (.int .i64 m.place) = (l.set k m).flatMap encM := by
  induction l generalizing k with
  | nil => simp at hk
  | cons a l ih =>
    cases k with
    | zero => rfl
    | succ k =>
      have hk : k < l.length := by simpa using hk
      rw [List.set_cons_succ, List.flatMap_cons, List.flatMap_cons, ← ih hk]
      have hl : (encM a).length = 3 := rfl
      have e0 : (k + 1) * 3 = 3 + k * 3 := by omega
      rw [e0, show 3 + k * 3 + 1 = 3 + (k * 3 + 1) by omega, show 3 + k * 3 + 2 = 3 + (k * 3 + 2) by omega]
      rw [List.set_append_right _ _ (by rw [hl]; omega), List.set_append_right _ _ (by rw [hl]; omega), List.set_append_right _ _ (by rw [hl]; omega), hl]
      congr 1
      rw [show 3 + k * 3 - 3 = k * 3 by omega, show 3 + (k * 3 + 1) - 3 = k * 3 + 1 by omega, show 3 + (k * 3 + 2) - 3 = k * 3 + 2 by omega]
theorem fr_set {S : Nat → Prop} {w : World} {p : Addr} (hp : S p.block) (u : Value) : Fr S w (w.setCell p u) := by
  have hb := (Below.refl 0 w).setCell (p := p) (Nat.zero_le _) u
  exact ⟨hb.os, hb.tape, hb.output, hb.size, fun k hk hn => Below.heap_setCell w p u k (fun e => hn (e ▸ hp))⟩
theorem run_buildMk (a b c : Int) (w : World) : (Instr.build 136 #[(0, .int .i64 a), (1, .int .i64 b), (2, .int .i64 c)]).run Try.prog w = .ok (.agg #[.int .i64 a, .int .i64 b, .int .i64 c]) w := by go_simp
theorem oper_buildMk {o : Oper} {a : Act} {w : World} {K : Act → World → Prop} {Q : Exit → Act → World → Prop} (x y z : Operand) (ho : o.op = .build 136 #[(0, x), (1, y), (2, z)]) (i j k : Int) (hx : a.eval x = .int .i64 i) (hy : a.eval y = .int .i64 j) (hz : a.eval z = .int .i64 k)
    (h : K (a.put o.dst (.agg #[.int .i64 i, .int .i64 j, .int .i64 k])) w) : Oper.wp Try.prog o a w K Q := by
  unfold Oper.wp execOp
  simp only [ho, Sem.run_bind, Sem.run_pure, Result.andThen_ok, List.map_toArray, List.map_cons, List.map_nil, hx, hy, hz, run_buildMk]
  exact h
/-- a variable's value is told: it is told no other, or again -/
theorem trail_Set_no {base : Nat} {W : World} {p gv gm N : Nat} {lv : Value} {vals : List Int} {mk : List Mk} {ls : List Int} (h : TrM base W p gv gm N lv vals mk ls) (hN : N ≤ 10000000) {x v : Int} (hv : litV vals x = v) (hx0 : 0 ≤ x) (hx : x / 2 < N) (hv2 : v = 0 ∨ v = 1) (why : Int) :
    Calls Try.prog 109 #[.pointer (some ⟨p, 0, none⟩), .int .i64 x, .int .i64 why] W fun e w' => e = .returned (.int .i64 (if v = 1 then 7 else 11)) ∧ W = w' := by
  have HV := hide (value_is h hN hv)
  have b0 := h.box.cell 0
  obtain ⟨k, hk⟩ : ∃ k : Nat, x / 2 = (k : Int) := ⟨(x / 2).toNat, by omega⟩
  have d0 : decide (x < 0) = false := decide_eq_false (by omega)
  have d1 : decide ((N : Int) ≤ k) = false := decide_eq_false (by omega)
  have d2 : ¬ N ≤ k := by omega
  clear h hv
  rcases hv2 with rfl | rfl
  all_goals
    go_enter Try.func109, Try.ntmps109
    go_wp2_with (go_at_call 110; refine HV.out.mono ?_; rintro e w' ⟨rfl, rfl⟩)
    go_ret
    exact ⟨rfl, rfl⟩
set_option maxRecDepth 8000 in
set_option maxHeartbeats 4000000 in
theorem trail_SetAt {base : Nat} {W : World} {p gv gm N : Nat} {lv : Value} {vals : List Int} {mk : List Mk} {ls : List Int} (h : TrM base W p gv gm N lv vals mk ls) (hbase : base ≤ W.heap.size) (hN : N ≤ 10000000) {x : Int} (hv : litV vals x = 2) (hg : litGood x = true) (hx : x / 2 < N) (hls : ls.length ≤ 1000000) (why : Int) :
    Calls Try.prog 109 #[.pointer (some ⟨p, 0, none⟩), .int .i64 x, .int .i64 why] W fun e w' => e = .returned (.int .i64 0) ∧ ∃ lv', TrM base w' p gv gm N lv' (vals.set (x / 2).toNat (1 - x % 2)) (mk.set (x / 2).toNat ⟨0, why, ls.length⟩) (ls ++ [x]) ∧ Below base W w' ∧ (∀ g, g ≠ p → g ≠ gv → g ≠ gm → some g ≠ lv.ownBlock → g < W.heap.size → w'.heap[g]? = W.heap[g]?) ∧ (∀ g, lv'.ownBlock = some g → lv.ownBlock = some g ∨ W.heap.size ≤ g) := by
  obtain ⟨h0, h1⟩ := good_iff.1 hg
  have hNI : (N : Int) ≤ 10000000 := by omega
  have HV := hide (value_is h hN hv)
  obtain ⟨k, hk⟩ : ∃ k : Nat, x / 2 = (k : Int) := ⟨(x / 2).toNat, by omega⟩
  have hqt : x.tdiv 2 = (k : Int) := by rw [Int.tdiv_eq_ediv_of_nonneg h0, hk]
  have hkw : IntKind.i64.wrap (k : Int) = (k : Int) := IntWalk.i64_in _ (by omega)
  have hkN : k < N := by omega
  have hkI : (k : Int) < N := by omega
  have dd0 : decide (x < 0) = false := decide_eq_false (by omega)
  have dd1 : decide ((N : Int) ≤ k) = false := decide_eq_false (by omega)
  have dd2 : ¬ N ≤ k := by omega
  have hand : bits .and .i64 x 1 = x % 2 := and_one x h0 (by omega)
  obtain ⟨nv, hnv⟩ : ∃ nv, 1 - x % 2 = nv := ⟨_, rfl⟩
  have hnvw : IntKind.i64.wrap (1 - x % 2) = nv := by rw [IntWalk.i64_in _ (by omega), hnv]
  obtain ⟨A2, c2, rfl, _, _, _⟩ := Rd.of_own h.list
  obtain ⟨L, hL⟩ : ∃ L, ls.length = L := ⟨_, rfl⟩
  have hLI : (L : Int) ≤ 1000000 := by omega
  obtain ⟨hbox, hvals, hmarks, hvl, hml, hown, hne, hbp, hbv, hbm⟩ := h
  rw [hL] at hbox hown hne ⊢
  rw [hk, Int.toNat_natCast, hnv]
  have b0 := hbox.cell 0
  have b1 := hbox.cell 1
  have b2 := hbox.cell 2
  have n1 : ¬ (p = gv ∨ p = gm) := fun e => e.elim (fun e => blk_ne hbox hvals (by decide) e) (fun e => blk_ne hbox hmarks (by decide) e)
  have n2 : gm ≠ gv := blk_ne hmarks hvals (by decide)
  replace hnv := hide hnv
  replace hL := hide hL
  replace hown := hide hown
  replace hbox := hide hbox
  replace hvals := hide hvals
  replace hmarks := hide hmarks
  clear hv hg
  go_enter Try.func109, Try.ntmps109
  go_wp2_with (go_at_call 110; refine HV.out.mono ?_; rintro e w' ⟨rfl, rfl⟩)
  refine wp_region_slots [30, 31, 32, 33, 34, 35, 36, 37, 38, 39, 40, 41, 42, 43, 44, 45, 46, 47, 48, 49, 50, 51, 52, 53, 54, 55] (fun D g wz => g 0 = .pointer (some ⟨p, 0, none⟩) ∧ g 1 = .int .i64 x ∧ g 2 = .int .i64 why ∧ Fr (fun q => q = gv ∨ q = gm) W wz ∧ (¬ D 25 → Blk wz gv 3 (ivs vals).toArray) ∧ (¬ D 27 → Blk wz gm 136 (mk.flatMap encM).toArray) ∧ (D 0 → g 30 = .pointer (some ⟨p, 0, none⟩)) ∧ (D 1 → g 31 = .pointer (some ⟨p, 0, none⟩)) ∧ (D 2 → g 32 = .pointer (some ⟨p, 0, none⟩)) ∧ (D 3 → g 33 = .slice (some ⟨gv, 0, none⟩) N N) ∧ (D 4 → g 34 = .int .i64 x) ∧ (D 5 → g 35 = .int .i64 k) ∧ (D 6 → g 36 = .pointer (some ⟨p, 0, none⟩)) ∧ (D 7 → g 37 = .pointer (some ⟨p, 0, none⟩)) ∧ (D 8 → g 38 = .pointer (some ⟨p, 1, none⟩)) ∧ (D 9 → g 39 = .slice (some ⟨gm, 0, none⟩) N N) ∧ (D 10 → g 40 = .int .i64 x) ∧ (D 11 → g 41 = .int .i64 k) ∧ (D 12 → g 42 = .int .i64 x) ∧ (D 13 → g 43 = .int .i64 (x % 2)) ∧ (D 14 → g 44 = .int .i64 nv) ∧ (D 15 → g 45 = .pointer (some ⟨p, 0, none⟩)) ∧ (D 16 → g 46 = .int .i64 0) ∧ (D 17 → g 47 = .int .i64 why) ∧ (D 18 → g 48 = .pointer (some ⟨p, 0, none⟩)) ∧ (D 19 → g 49 = .pointer (some ⟨p, 0, none⟩)) ∧ (D 20 → g 50 = .pointer (some ⟨p, 2, none⟩)) ∧ (D 21 → g 51 = .slice A2 L c2) ∧ (D 22 → g 52 = .int .i64 L) ∧ (D 23 → g 53 = .agg #[.int .i64 0, .int .i64 why, .int .i64 L]) ∧ (D 24 → g 54 = .pointer (some ⟨gv, k, none⟩)) ∧ (D 25 → Blk wz gv 3 (ivs (vals.set k nv)).toArray) ∧ (D 26 → g 55 = .pointer (some ⟨gm, k * 3, none⟩)) ∧ (D 27 → Blk wz gm 136 ((mk.set k ⟨0, why, L⟩).flatMap encM).toArray)) (by kernel_rfl) (by kernel_rfl) 66 rfl (by kernel_rfl) ?h0 ?hstep ?hdone
  case h0 => exact ⟨rfl, rfl, rfl, Fr.of_below ((Dr.refl W).drew.below _), (fun _ => hvals.out.dr (Dr.refl W).drew), (fun _ => hmarks.out.dr (Dr.refl W).drew), nt0, nt0, nt0, nt0, nt0, nt0, nt0, nt0, nt0, nt0, nt0, nt0, nt0, nt0, nt0, nt0, nt0, nt0, nt0, nt0, nt0, nt0, nt0, nt0, nt0, nt0, nt0, nt0⟩
  case hstep =>
    intro D g wz i hi' hn hd' hI2
    obtain ⟨r0, r1, r2, hfz, v25, v27, f0, f1, f2, f3, f4, f5, f6, f7, f8, f9, f10, f11, f12, f13, f14, f15, f16, f17, f18, f19, f20, f21, f22, f23, f24, f25, f26, f27⟩ := hI2
    have hi' : i < 28 := hi'
    rcases (show i = 0 ∨ i = 1 ∨ i = 2 ∨ i = 3 ∨ i = 4 ∨ i = 5 ∨ i = 6 ∨ i = 7 ∨ i = 8 ∨ i = 9 ∨ i = 10 ∨ i = 11 ∨ i = 12 ∨ i = 13 ∨ i = 14 ∨ i = 15 ∨ i = 16 ∨ i = 17 ∨ i = 18 ∨ i = 19 ∨ i = 20 ∨ i = 21 ∨ i = 22 ∨ i = 23 ∨ i = 24 ∨ i = 25 ∨ i = 26 ∨ i = 27 by omega) with rfl | rfl | rfl | rfl | rfl | rfl | rfl | rfl | rfl | rfl | rfl | rfl | rfl | rfl | rfl | rfl | rfl | rfl | rfl | rfl | rfl | rfl | rfl | rfl | rfl | rfl | rfl | rfl
    · -- 0
      refine slot_step rfl rfl (fun az hs K hK => ?_)
      have hK : Shut _ := hK
      have e0 := hs.get 0
      rw [r0] at e0
      go_simp
      exact hK.out _ _ ⟨r0, r1, r2, hfz, (fun h => v25 (fun e => h (Or.inr e))), (fun h => v27 (fun e => h (Or.inr e))), fun _ => rfl, kp f1, kp f2, kp f3, kp f4, kp f5, kp f6, kp f7, kp f8, kp f9, kp f10, kp f11, kp f12, kp f13, kp f14, kp f15, kp f16, kp f17, kp f18, kp f19, kp f20, kp f21, kp f22, kp f23, kp f24, kp f25, kp f26, kp f27⟩
    · -- 1
      have d0 := f0 (hd' 0 (by kernel_rfl))
      refine slot_step rfl rfl (fun az hs K hK => ?_)
      have hK : Shut _ := hK
      have e30 := hs.get 30
      rw [d0] at e30
      go_simp
      exact hK.out _ _ ⟨r0, r1, r2, hfz, (fun h => v25 (fun e => h (Or.inr e))), (fun h => v27 (fun e => h (Or.inr e))), kp f0, fun _ => rfl, kp f2, kp f3, kp f4, kp f5, kp f6, kp f7, kp f8, kp f9, kp f10, kp f11, kp f12, kp f13, kp f14, kp f15, kp f16, kp f17, kp f18, kp f19, kp f20, kp f21, kp f22, kp f23, kp f24, kp f25, kp f26, kp f27⟩
    · -- 2
      have d1 := f1 (hd' 1 (by kernel_rfl))
      refine slot_step rfl rfl (fun az hs K hK => ?_)
      have hK : Shut _ := hK
      have e31 := hs.get 31
      rw [d1] at e31
      go_simp
      exact hK.out _ _ ⟨r0, r1, r2, hfz, (fun h => v25 (fun e => h (Or.inr e))), (fun h => v27 (fun e => h (Or.inr e))), kp f0, kp f1, fun _ => rfl, kp f3, kp f4, kp f5, kp f6, kp f7, kp f8, kp f9, kp f10, kp f11, kp f12, kp f13, kp f14, kp f15, kp f16, kp f17, kp f18, kp f19, kp f20, kp f21, kp f22, kp f23, kp f24, kp f25, kp f26, kp f27⟩
    · -- 3
      have d2 := f2 (hd' 2 (by kernel_rfl))
      refine slot_step rfl rfl (fun az hs K hK => ?_)
      have hK : Shut _ := hK
      have cz := hfz.cell b0 n1
      have e32 := hs.get 32
      rw [d2] at e32
      go_simp
      exact hK.out _ _ ⟨r0, r1, r2, hfz, (fun h => v25 (fun e => h (Or.inr e))), (fun h => v27 (fun e => h (Or.inr e))), kp f0, kp f1, kp f2, fun _ => rfl, kp f4, kp f5, kp f6, kp f7, kp f8, kp f9, kp f10, kp f11, kp f12, kp f13, kp f14, kp f15, kp f16, kp f17, kp f18, kp f19, kp f20, kp f21, kp f22, kp f23, kp f24, kp f25, kp f26, kp f27⟩
    · -- 4
      refine slot_step rfl rfl (fun az hs K hK => ?_)
      have hK : Shut _ := hK
      have e1 := hs.get 1
      rw [r1] at e1
      go_simp
      exact hK.out _ _ ⟨r0, r1, r2, hfz, (fun h => v25 (fun e => h (Or.inr e))), (fun h => v27 (fun e => h (Or.inr e))), kp f0, kp f1, kp f2, kp f3, fun _ => rfl, kp f5, kp f6, kp f7, kp f8, kp f9, kp f10, kp f11, kp f12, kp f13, kp f14, kp f15, kp f16, kp f17, kp f18, kp f19, kp f20, kp f21, kp f22, kp f23, kp f24, kp f25, kp f26, kp f27⟩
    · -- 5
      have d4 := f4 (hd' 4 (by kernel_rfl))
      refine slot_step rfl rfl (fun az hs K hK => ?_)
      have hK : Shut _ := hK
      have e34 := hs.get 34
      rw [d4] at e34
      go_simp
      exact hK.out _ _ ⟨r0, r1, r2, hfz, (fun h => v25 (fun e => h (Or.inr e))), (fun h => v27 (fun e => h (Or.inr e))), kp f0, kp f1, kp f2, kp f3, kp f4, fun _ => rfl, kp f6, kp f7, kp f8, kp f9, kp f10, kp f11, kp f12, kp f13, kp f14, kp f15, kp f16, kp f17, kp f18, kp f19, kp f20, kp f21, kp f22, kp f23, kp f24, kp f25, kp f26, kp f27⟩
    · -- 6
      refine slot_step rfl rfl (fun az hs K hK => ?_)
      have hK : Shut _ := hK
      have e0 := hs.get 0
      rw [r0] at e0
      go_simp
      exact hK.out _ _ ⟨r0, r1, r2, hfz, (fun h => v25 (fun e => h (Or.inr e))), (fun h => v27 (fun e => h (Or.inr e))), kp f0, kp f1, kp f2, kp f3, kp f4, kp f5, fun _ => rfl, kp f7, kp f8, kp f9, kp f10, kp f11, kp f12, kp f13, kp f14, kp f15, kp f16, kp f17, kp f18, kp f19, kp f20, kp f21, kp f22, kp f23, kp f24, kp f25, kp f26, kp f27⟩
    · -- 7
      have d6 := f6 (hd' 6 (by kernel_rfl))
      refine slot_step rfl rfl (fun az hs K hK => ?_)
      have hK : Shut _ := hK
      have e36 := hs.get 36
      rw [d6] at e36
      go_simp
      exact hK.out _ _ ⟨r0, r1, r2, hfz, (fun h => v25 (fun e => h (Or.inr e))), (fun h => v27 (fun e => h (Or.inr e))), kp f0, kp f1, kp f2, kp f3, kp f4, kp f5, kp f6, fun _ => rfl, kp f8, kp f9, kp f10, kp f11, kp f12, kp f13, kp f14, kp f15, kp f16, kp f17, kp f18, kp f19, kp f20, kp f21, kp f22, kp f23, kp f24, kp f25, kp f26, kp f27⟩
    · -- 8
      have d7 := f7 (hd' 7 (by kernel_rfl))
      refine slot_step rfl rfl (fun az hs K hK => ?_)
      have hK : Shut _ := hK
      have e37 := hs.get 37
      rw [d7] at e37
      go_simp
      exact hK.out _ _ ⟨r0, r1, r2, hfz, (fun h => v25 (fun e => h (Or.inr e))), (fun h => v27 (fun e => h (Or.inr e))), kp f0, kp f1, kp f2, kp f3, kp f4, kp f5, kp f6, kp f7, fun _ => rfl, kp f9, kp f10, kp f11, kp f12, kp f13, kp f14, kp f15, kp f16, kp f17, kp f18, kp f19, kp f20, kp f21, kp f22, kp f23, kp f24, kp f25, kp f26, kp f27⟩
    · -- 9
      have d8 := f8 (hd' 8 (by kernel_rfl))
      refine slot_step rfl rfl (fun az hs K hK => ?_)
      have hK : Shut _ := hK
      have cz := hfz.cell b1 n1
      have e38 := hs.get 38
      rw [d8] at e38
      go_simp
      exact hK.out _ _ ⟨r0, r1, r2, hfz, (fun h => v25 (fun e => h (Or.inr e))), (fun h => v27 (fun e => h (Or.inr e))), kp f0, kp f1, kp f2, kp f3, kp f4, kp f5, kp f6, kp f7, kp f8, fun _ => rfl, kp f10, kp f11, kp f12, kp f13, kp f14, kp f15, kp f16, kp f17, kp f18, kp f19, kp f20, kp f21, kp f22, kp f23, kp f24, kp f25, kp f26, kp f27⟩
    · -- 10
      refine slot_step rfl rfl (fun az hs K hK => ?_)
      have hK : Shut _ := hK
      have e1 := hs.get 1
      rw [r1] at e1
      go_simp
      exact hK.out _ _ ⟨r0, r1, r2, hfz, (fun h => v25 (fun e => h (Or.inr e))), (fun h => v27 (fun e => h (Or.inr e))), kp f0, kp f1, kp f2, kp f3, kp f4, kp f5, kp f6, kp f7, kp f8, kp f9, fun _ => rfl, kp f11, kp f12, kp f13, kp f14, kp f15, kp f16, kp f17, kp f18, kp f19, kp f20, kp f21, kp f22, kp f23, kp f24, kp f25, kp f26, kp f27⟩
    · -- 11
      have d10 := f10 (hd' 10 (by kernel_rfl))
      refine slot_step rfl rfl (fun az hs K hK => ?_)
      have hK : Shut _ := hK
      have e40 := hs.get 40
      rw [d10] at e40
      go_simp
      exact hK.out _ _ ⟨r0, r1, r2, hfz, (fun h => v25 (fun e => h (Or.inr e))), (fun h => v27 (fun e => h (Or.inr e))), kp f0, kp f1, kp f2, kp f3, kp f4, kp f5, kp f6, kp f7, kp f8, kp f9, kp f10, fun _ => rfl, kp f12, kp f13, kp f14, kp f15, kp f16, kp f17, kp f18, kp f19, kp f20, kp f21, kp f22, kp f23, kp f24, kp f25, kp f26, kp f27⟩
    · -- 12
      refine slot_step rfl rfl (fun az hs K hK => ?_)
      have hK : Shut _ := hK
      have e1 := hs.get 1
      rw [r1] at e1
      go_simp
      exact hK.out _ _ ⟨r0, r1, r2, hfz, (fun h => v25 (fun e => h (Or.inr e))), (fun h => v27 (fun e => h (Or.inr e))), kp f0, kp f1, kp f2, kp f3, kp f4, kp f5, kp f6, kp f7, kp f8, kp f9, kp f10, kp f11, fun _ => rfl, kp f13, kp f14, kp f15, kp f16, kp f17, kp f18, kp f19, kp f20, kp f21, kp f22, kp f23, kp f24, kp f25, kp f26, kp f27⟩
    · -- 13
      have d12 := f12 (hd' 12 (by kernel_rfl))
      refine slot_step rfl rfl (fun az hs K hK => ?_)
      have hK : Shut _ := hK
      have e42 := hs.get 42
      rw [d12] at e42
      go_simp
      exact hK.out _ _ ⟨r0, r1, r2, hfz, (fun h => v25 (fun e => h (Or.inr e))), (fun h => v27 (fun e => h (Or.inr e))), kp f0, kp f1, kp f2, kp f3, kp f4, kp f5, kp f6, kp f7, kp f8, kp f9, kp f10, kp f11, kp f12, fun _ => rfl, kp f14, kp f15, kp f16, kp f17, kp f18, kp f19, kp f20, kp f21, kp f22, kp f23, kp f24, kp f25, kp f26, kp f27⟩
    · -- 14
      have d13 := f13 (hd' 13 (by kernel_rfl))
      refine slot_step rfl rfl (fun az hs K hK => ?_)
      have hK : Shut _ := hK
      have e43 := hs.get 43
      rw [d13] at e43
      go_simp
      exact hK.out _ _ ⟨r0, r1, r2, hfz, (fun h => v25 (fun e => h (Or.inr e))), (fun h => v27 (fun e => h (Or.inr e))), kp f0, kp f1, kp f2, kp f3, kp f4, kp f5, kp f6, kp f7, kp f8, kp f9, kp f10, kp f11, kp f12, kp f13, fun _ => rfl, kp f15, kp f16, kp f17, kp f18, kp f19, kp f20, kp f21, kp f22, kp f23, kp f24, kp f25, kp f26, kp f27⟩
    · -- 15
      refine slot_step rfl rfl (fun az hs K hK => ?_)
      have hK : Shut _ := hK
      have e0 := hs.get 0
      rw [r0] at e0
      go_simp
      exact hK.out _ _ ⟨r0, r1, r2, hfz, (fun h => v25 (fun e => h (Or.inr e))), (fun h => v27 (fun e => h (Or.inr e))), kp f0, kp f1, kp f2, kp f3, kp f4, kp f5, kp f6, kp f7, kp f8, kp f9, kp f10, kp f11, kp f12, kp f13, kp f14, fun _ => rfl, kp f16, kp f17, kp f18, kp f19, kp f20, kp f21, kp f22, kp f23, kp f24, kp f25, kp f26, kp f27⟩
    · -- 16
      have d15 := f15 (hd' 15 (by kernel_rfl))
      refine slot_step rfl rfl (fun az hs K hK => ?_)
      have hK : Shut _ := hK
      have e45 := hs.get 45
      rw [d15] at e45
      have hbz := hfz.blk hbox.out n1
      go_wp2_with (go_at_call 120; refine (trail_LevelB hbz).mono ?_; rintro e wy ⟨rfl, rfl⟩; have hdr := Dr.refl wz)
      exact ⟨r0, r1, r2, hfz.trans (Fr.of_below (hdr.below _)), (fun h => (v25 (fun e => h (Or.inr e))).dr hdr), (fun h => (v27 (fun e => h (Or.inr e))).dr hdr), kp f0, kp f1, kp f2, kp f3, kp f4, kp f5, kp f6, kp f7, kp f8, kp f9, kp f10, kp f11, kp f12, kp f13, kp f14, kp f15, fun _ => rfl, kp f17, kp f18, kp f19, kp f20, kp f21, kp f22, kp f23, kp f24, fun h => h.elim (fun e => absurd e (by decide)) (fun h => (f25 h).dr hdr), kp f26, fun h => h.elim (fun e => absurd e (by decide)) (fun h => (f27 h).dr hdr)⟩
    · -- 17
      refine slot_step rfl rfl (fun az hs K hK => ?_)
      have hK : Shut _ := hK
      have e2 := hs.get 2
      rw [r2] at e2
      go_simp
      exact hK.out _ _ ⟨r0, r1, r2, hfz, (fun h => v25 (fun e => h (Or.inr e))), (fun h => v27 (fun e => h (Or.inr e))), kp f0, kp f1, kp f2, kp f3, kp f4, kp f5, kp f6, kp f7, kp f8, kp f9, kp f10, kp f11, kp f12, kp f13, kp f14, kp f15, kp f16, fun _ => rfl, kp f18, kp f19, kp f20, kp f21, kp f22, kp f23, kp f24, kp f25, kp f26, kp f27⟩
    · -- 18
      refine slot_step rfl rfl (fun az hs K hK => ?_)
      have hK : Shut _ := hK
      have e0 := hs.get 0
      rw [r0] at e0
      go_simp
      exact hK.out _ _ ⟨r0, r1, r2, hfz, (fun h => v25 (fun e => h (Or.inr e))), (fun h => v27 (fun e => h (Or.inr e))), kp f0, kp f1, kp f2, kp f3, kp f4, kp f5, kp f6, kp f7, kp f8, kp f9, kp f10, kp f11, kp f12, kp f13, kp f14, kp f15, kp f16, kp f17, fun _ => rfl, kp f19, kp f20, kp f21, kp f22, kp f23, kp f24, kp f25, kp f26, kp f27⟩
    · -- 19
      have d18 := f18 (hd' 18 (by kernel_rfl))
      refine slot_step rfl rfl (fun az hs K hK => ?_)
      have hK : Shut _ := hK
      have e48 := hs.get 48
      rw [d18] at e48
      go_simp
      exact hK.out _ _ ⟨r0, r1, r2, hfz, (fun h => v25 (fun e => h (Or.inr e))), (fun h => v27 (fun e => h (Or.inr e))), kp f0, kp f1, kp f2, kp f3, kp f4, kp f5, kp f6, kp f7, kp f8, kp f9, kp f10, kp f11, kp f12, kp f13, kp f14, kp f15, kp f16, kp f17, kp f18, fun _ => rfl, kp f20, kp f21, kp f22, kp f23, kp f24, kp f25, kp f26, kp f27⟩
    · -- 20
      have d19 := f19 (hd' 19 (by kernel_rfl))
      refine slot_step rfl rfl (fun az hs K hK => ?_)
      have hK : Shut _ := hK
      have e49 := hs.get 49
      rw [d19] at e49
      go_simp
      exact hK.out _ _ ⟨r0, r1, r2, hfz, (fun h => v25 (fun e => h (Or.inr e))), (fun h => v27 (fun e => h (Or.inr e))), kp f0, kp f1, kp f2, kp f3, kp f4, kp f5, kp f6, kp f7, kp f8, kp f9, kp f10, kp f11, kp f12, kp f13, kp f14, kp f15, kp f16, kp f17, kp f18, kp f19, fun _ => rfl, kp f21, kp f22, kp f23, kp f24, kp f25, kp f26, kp f27⟩
    · -- 21
      have d20 := f20 (hd' 20 (by kernel_rfl))
      refine slot_step rfl rfl (fun az hs K hK => ?_)
      have hK : Shut _ := hK
      have cz := hfz.cell b2 n1
      have e50 := hs.get 50
      rw [d20] at e50
      go_simp
      exact hK.out _ _ ⟨r0, r1, r2, hfz, (fun h => v25 (fun e => h (Or.inr e))), (fun h => v27 (fun e => h (Or.inr e))), kp f0, kp f1, kp f2, kp f3, kp f4, kp f5, kp f6, kp f7, kp f8, kp f9, kp f10, kp f11, kp f12, kp f13, kp f14, kp f15, kp f16, kp f17, kp f18, kp f19, kp f20, fun _ => rfl, kp f22, kp f23, kp f24, kp f25, kp f26, kp f27⟩
    · -- 22
      have d21 := f21 (hd' 21 (by kernel_rfl))
      refine slot_step rfl rfl (fun az hs K hK => ?_)
      have hK : Shut _ := hK
      have e51 := hs.get 51
      rw [d21] at e51
      go_simp
      exact hK.out _ _ ⟨r0, r1, r2, hfz, (fun h => v25 (fun e => h (Or.inr e))), (fun h => v27 (fun e => h (Or.inr e))), kp f0, kp f1, kp f2, kp f3, kp f4, kp f5, kp f6, kp f7, kp f8, kp f9, kp f10, kp f11, kp f12, kp f13, kp f14, kp f15, kp f16, kp f17, kp f18, kp f19, kp f20, kp f21, fun _ => rfl, kp f23, kp f24, kp f25, kp f26, kp f27⟩
    · -- 23
      have d16 := f16 (hd' 16 (by kernel_rfl))
      have d17 := f17 (hd' 17 (by kernel_rfl))
      have d22 := f22 (hd' 22 (by kernel_rfl))
      refine slot_step rfl rfl (fun az hs K hK => ?_)
      have hK : Shut _ := hK
      have e46 := hs.get 46
      rw [d16] at e46
      have e47 := hs.get 47
      rw [d17] at e47
      have e52 := hs.get 52
      rw [d22] at e52
      refine oper_buildMk (.tmp 46) (.tmp 47) (.tmp 52) rfl 0 why L (hs.eval d16) (hs.eval d17) (hs.eval d22) ?_
      exact hK.out _ _ ⟨r0, r1, r2, hfz, (fun h => v25 (fun e => h (Or.inr e))), (fun h => v27 (fun e => h (Or.inr e))), kp f0, kp f1, kp f2, kp f3, kp f4, kp f5, kp f6, kp f7, kp f8, kp f9, kp f10, kp f11, kp f12, kp f13, kp f14, kp f15, kp f16, kp f17, kp f18, kp f19, kp f20, kp f21, kp f22, fun _ => rfl, kp f24, kp f25, kp f26, kp f27⟩
    · -- 24
      have d3 := f3 (hd' 3 (by kernel_rfl))
      have d5 := f5 (hd' 5 (by kernel_rfl))
      refine slot_step rfl rfl (fun az hs K hK => ?_)
      have hK : Shut _ := hK
      have e33 := hs.get 33
      rw [d3] at e33
      have e35 := hs.get 35
      rw [d5] at e35
      go_simp
      exact hK.out _ _ ⟨r0, r1, r2, hfz, (fun h => v25 (fun e => h (Or.inr e))), (fun h => v27 (fun e => h (Or.inr e))), kp f0, kp f1, kp f2, kp f3, kp f4, kp f5, kp f6, kp f7, kp f8, kp f9, kp f10, kp f11, kp f12, kp f13, kp f14, kp f15, kp f16, kp f17, kp f18, kp f19, kp f20, kp f21, kp f22, kp f23, fun _ => rfl, kp f25, kp f26, kp f27⟩
    · -- 25
      have d14 := f14 (hd' 14 (by kernel_rfl))
      have d24 := f24 (hd' 24 (by kernel_rfl))
      refine slot_step rfl rfl (fun az hs K hK => ?_)
      have hK : Shut _ := hK
      have bv := v25 hn
      have cz : wz.cell? ⟨gv, k, none⟩ = some (.int .i64 (vals.getD k 0)) := by rw [blk_list bv]; unfold ivs; rw [List.getElem?_map, List.getElem?_eq_getElem (by omega)]; simp [List.getD, show k < vals.length by omega]
      have fz := bv.frozen k
      have bvN := blk_put bv k (.int .i64 nv)
      rw [show (ivs vals).set k (.int .i64 nv) = ivs (vals.set k nv) by unfold ivs; rw [List.map_set]] at bvN
      have e44 := hs.get 44
      rw [d14] at e44
      have e54 := hs.get 54
      rw [d24] at e54
      go_simp
      exact hK.out undef _ ⟨r0, r1, r2, hfz.trans (fr_set (by exact .inl rfl) _), (fun h => (h (by simp)).elim), (fun h => (v27 (fun e => h (Or.inr e))).far (p := ⟨gv, k, none⟩) n2 _), kp f0, kp f1, kp f2, kp f3, kp f4, kp f5, kp f6, kp f7, kp f8, kp f9, kp f10, kp f11, kp f12, kp f13, kp f14, kp f15, kp f16, kp f17, kp f18, kp f19, kp f20, kp f21, kp f22, kp f23, kp f24, fun _ => bvN, kp f26, fun h => h.elim (fun e => absurd e (by decide)) (fun h => (f27 h).far (p := ⟨gv, k, none⟩) n2 _)⟩
    · -- 26
      have d9 := f9 (hd' 9 (by kernel_rfl))
      have d11 := f11 (hd' 11 (by kernel_rfl))
      refine slot_step rfl rfl (fun az hs K hK => ?_)
      have hK : Shut _ := hK
      have e39 := hs.get 39
      rw [d9] at e39
      have e41 := hs.get 41
      rw [d11] at e41
      go_simp
      exact hK.out _ _ ⟨r0, r1, r2, hfz, (fun h => v25 (fun e => h (Or.inr e))), (fun h => v27 (fun e => h (Or.inr e))), kp f0, kp f1, kp f2, kp f3, kp f4, kp f5, kp f6, kp f7, kp f8, kp f9, kp f10, kp f11, kp f12, kp f13, kp f14, kp f15, kp f16, kp f17, kp f18, kp f19, kp f20, kp f21, kp f22, kp f23, kp f24, kp f25, fun _ => rfl, kp f27⟩
    · -- 27
      have d23 := f23 (hd' 23 (by kernel_rfl))
      have d26 := f26 (hd' 26 (by kernel_rfl))
      refine slot_step rfl rfl (fun az hs K hK => ?_)
      have hK : Shut _ := hK
      have bm := v27 hn
      obtain ⟨q0, q1, q2⟩ := encM_get mk k _ (List.getElem?_eq_getElem (show k < mk.length by omega))
      have s1 := blk_put bm (k * 3) (.int .i64 0)
      have s2 := blk_put s1 (k * 3 + 1) (.int .i64 why)
      have s3 := blk_put s2 (k * 3 + 2) (.int .i64 L)
      rw [flat_set (m := ⟨0, why, L⟩) (by omega)] at s3
      have y0 := bm.frozen (k * 3)
      have x0 := (blk_list bm (k * 3)).trans q0
      have y1 := s1.frozen (k * 3 + 1)
      have x1 := (blk_list s1 (k * 3 + 1)).trans ((List.getElem?_set_ne (by omega)).trans q1)
      have y2 := s2.frozen (k * 3 + 2)
      have x2 := (blk_list s2 (k * 3 + 2)).trans ((List.getElem?_set_ne (by omega)).trans ((List.getElem?_set_ne (by omega)).trans q2))
      have e53 := hs.get 53
      rw [d23] at e53
      have e55 := hs.get 55
      rw [d26] at e55
      go_simp
      exact hK.out undef _ ⟨r0, r1, r2, ((hfz.trans (fr_set (by exact .inr rfl) _)).trans (fr_set (by exact .inr rfl) _)).trans (fr_set (by exact .inr rfl) _), (fun h => (((v25 (fun e => h (Or.inr e))).far (p := ⟨gm, k * 3, none⟩) n2.symm _).far (p := ⟨gm, k * 3 + 1, none⟩) n2.symm _).far (p := ⟨gm, k * 3 + 2, none⟩) n2.symm _), (fun h => (h (by simp)).elim), kp f0, kp f1, kp f2, kp f3, kp f4, kp f5, kp f6, kp f7, kp f8, kp f9, kp f10, kp f11, kp f12, kp f13, kp f14, kp f15, kp f16, kp f17, kp f18, kp f19, kp f20, kp f21, kp f22, kp f23, kp f24, fun h => h.elim (fun e => absurd e (by decide)) (fun h => (((f25 h).far (p := ⟨gm, k * 3, none⟩) n2.symm _).far (p := ⟨gm, k * 3 + 1, none⟩) n2.symm _).far (p := ⟨gm, k * 3 + 2, none⟩) n2.symm _), kp f26, fun _ => s3⟩
  case hdone =>
    rintro D g wz hD ⟨r0, r1, r2, hfz, v25, v27, f0, f1, f2, f3, f4, f5, f6, f7, f8, f9, f10, f11, f12, f13, f14, f15, f16, f17, f18, f19, f20, f21, f22, f23, f24, f25, f26, f27⟩
    simp only [setAll, List.foldl_cons, List.foldl_nil, List.setIfInBounds_toArray, List.set_cons_succ, List.set_cons_zero]
    have bvN := hide (f25 (hD 25))
    have bmN := hide (f27 (hD 27))
    clear f0 f1 f2 f3 f4 f5 f6 f7 f8 f9 f10 f11 f12 f13 f14 f15 f16 f17 f18 f19 f20 f21 f22 f23 f24 f25 f26 f27 hD r0 r1 r2 v25 v27
    have hbox5 := hfz.blk hbox.out n1
    have how5 := hfz.own hown.out (fun g hg e => e.elim (fun e => hne (by rw [hg, e])) (fun e => own_blk_ne hown.out hmarks.out (by decide) (by rw [hg, e])))
    have hb5 : Below base W wz := hfz.below hbase (fun q e => e.elim (fun e => by omega) (fun e => by omega))
    have hfzH := hide hfz
    obtain ⟨w5, hw5⟩ : ∃ w5, w5 = wz := ⟨_, rfl⟩
    subst hw5
    have hgvl := bvN.out.lt
    have hgpl := hbox5.lt
    have b2 := hbox5.cell 2
    clear hfz b0 b1
    go_wp2_with (at_builtin; refine wpList_pushAt rfl _ _ _ rfl Try.underlying40 info_i rfl (by decide) rfl rfl how5 hb5 hbase rfl (by simp [Value.oneCell']) (by unfold maxLen; omega) (by omega) ?_; intro v8 w8 hown8 hb8 hg8 hat8; have bp8 := (hbox5.alloc (.cells #[.int .i64 x] 3)).grown hg8 (own_blk_ne (how5.alloc (.cells #[.int .i64 x] 3)) (hbox5.alloc (.cells #[.int .i64 x] 3)) (by decide)); obtain ⟨A8, c8, rfl, _, _, _⟩ := Rd.of_own hown8; have x2 : w8.cell? ⟨p, 2, none⟩ = some (.slice A2 L c2) := bp8.cell 2; have y2 := bp8.frozen 2; replace hown8 := hide hown8; replace bp8 := hide bp8; replace hat8 := hide hat8; replace hb8 := hide hb8)
    go_ret
    have hpo : ∀ g, (Value.slice A8 (L + 1) c8).ownBlock = some g → ¬ g = p := fun g hg e => own_blk_ne hown8.out bp8.out (by decide) (by rw [hg, e])
    have hlen : (ls ++ [x]).length = L + 1 := by rw [List.length_append, hL.out]; rfl
    have hbF := hb8.out.setCell (p := ⟨p, 2, none⟩) hbp (.slice A8 (L + 1) c8)
    have hvF : Blk (w8.setCell ⟨p, 2, none⟩ (.slice A8 (L + 1) c8)) gv 3 (ivs (vals.set k nv)).toArray := ((bvN.out.alloc (.cells #[.int .i64 x] 3)).grown hg8 hne).far (p := ⟨p, 2, none⟩) (fun e => n1 (.inl e.symm)) _
    have hmF : Blk (w8.setCell ⟨p, 2, none⟩ (.slice A8 (L + 1) c8)) gm 136 ((mk.set k ⟨0, why, L⟩).flatMap encM).toArray := ((bmN.out.alloc (.cells #[.int .i64 x] 3)).grown hg8 (own_blk_ne (how5.alloc (.cells #[.int .i64 x] 3)) (bmN.out.alloc (.cells #[.int .i64 x] 3)) (by decide))).far (p := ⟨p, 2, none⟩) (fun e => n1 (.inr e.symm)) _
    have hoF := (fr_set (S := fun q => q = p) (p := ⟨p, 2, none⟩) (w := w8) rfl (.slice A8 (L + 1) c8)).own hown8.out hpo
    refine ⟨rfl, .slice A8 (L + 1) c8, ⟨bp8.out.set_ 2 _, hvF, hmF, by rw [List.length_set]; exact hvl, by rw [List.length_set]; exact hml, by rw [hlen]; unfold ivs; rw [List.map_append]; exact hoF, fun e => ?_, hbp, hbv, hbm⟩, hbF, fun g e1 e2 e3 e4 e5 => ?_, fun g e => ?_⟩
    · rcases hat8.out with h8 | h8
      · rw [h8] at e; exact hne e
      · rw [h8] at e; injection e with e; omega
    · have hg5 : g < w5.heap.size := Nat.lt_of_lt_of_le e5 hb5.size
      rw [Below.heap_setCell w8 ⟨p, 2, none⟩ _ g e1, hg8.block g (by simp; omega) e4, Below.heap_alloc _ _ g hg5]
      exact hfzH.out.block g e5 (fun e => e.elim e2 e3)
    · rcases hat8.out with h8 | h8
      · exact .inl (h8 ▸ e)
      · rw [h8] at e; injection e with e; exact .inr (by have := hb5.size; omega)
theorem trail_Set {base : Nat} {W : World} {p gv gm N : Nat} {lv : Value} {vals : List Int} {mk : List Mk} {ls : List Int} (h : TrM base W p gv gm N lv vals mk ls) (hbase : base ≤ W.heap.size) (hN : N ≤ 10000000) {x : Int} (hv : litV vals x = 2) (hg : litGood x = true) (hx : x / 2 < N) (hls : ls.length ≤ 1000000) (why : Int) :
    Calls Try.prog 109 #[.pointer (some ⟨p, 0, none⟩), .int .i64 x, .int .i64 why] W fun e w' => e = .returned (.int .i64 0) ∧ ∃ lv', TrM base w' p gv gm N lv' (vals.set (x / 2).toNat (1 - x % 2)) (mk.set (x / 2).toNat ⟨0, why, ls.length⟩) (ls ++ [x]) ∧ Below base W w' ∧ (∀ g, g ≠ p → g ≠ gv → g ≠ gm → some g ≠ lv.ownBlock → g < W.heap.size → w'.heap[g]? = W.heap[g]?) := by
  refine (trail_SetAt h hbase hN hv hg hx hls why).mono ?_
  rintro e w' ⟨he, lv', hT, hb, hk, _⟩
  exact ⟨he, lv', hT, hb, hk⟩
end Go.Proofs.Ytcjoohaagdihlaa.Watch
end
