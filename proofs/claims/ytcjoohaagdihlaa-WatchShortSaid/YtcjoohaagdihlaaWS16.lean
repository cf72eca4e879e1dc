/- Texts behind a row, one behind the other: Add1. -/
import Derived.Test.YtcjoohaagdihlaaWS14
import Derived.Test.YtcjoohaagdihlaaWS15
section
/- The program's (*Store).Add. -/
namespace Go.Proofs.Ytcjoohaagdihlaa.Watch
open Go.RowKit Go.Lt Go.Proofs.Ytcjoohaagdihlaa.Lit Go.Proofs.Ytcjoohaagdihlaa.Sorted Go.Proofs.Ytcjoohaagdihlaa.Learn Go.Instr
open Go.Proofs.Ytcjoohaagdihlaa.Kept (Sl Sl.val)
set_option linter.unusedVariables false
set_option linter.unusedSimpArgs false

/-- a clause's literals are of a store's variables -/
def fitC (n : Int) (l : List Int) : Bool := (normC l).all fun x => decide (x ≤ 2 * n + 1)
theorem normC_rise (l : List Int) : Rise (normC l) := (srt_rise l).sublist List.filter_sublist
theorem normC_pos {l : List Int} (h : okC l = true) : ∀ x ∈ normC l, 2 ≤ x ∧ x ≤ 33554433 := fun x hx => by
  obtain ⟨h1, h2⟩ := List.mem_filter.1 hx
  have hx0 : x ≠ 0 := by simpa using h2
  rw [srt_mem] at h1
  unfold okC at h
  rw [Bool.not_eq_true', Bool.or_eq_false_iff, Bool.or_eq_false_iff] at h
  obtain ⟨⟨h3, _⟩, h5⟩ := h
  have h6 : x ≠ 1 := fun e => by subst e; rw [has_iff.2 h1] at h3; cases h3
  have h7 : litGood x = true := by
    have := List.any_eq_false.1 h5 x h1
    cases hg : litGood x with
    | true => rfl
    | false => rw [hg] at this; exact absurd rfl this
  have h8 := good_iff.1 h7
  omega
theorem fit_last {n : Int} {l : List Int} {k : Nat} {x : Int} (hk : (normC l).length = k + 1) (hx : (normC l)[k]? = some x) : fitC n l = decide (¬ n < x / 2) := by
  unfold fitC
  rw [Bool.eq_iff_iff, List.all_eq_true, decide_eq_true_eq]
  constructor
  · intro h
    have := h x (List.mem_of_getElem? hx)
    have : x ≤ 2 * n + 1 := by simpa using this
    omega
  · intro h y hy
    obtain ⟨j, hj, rfl⟩ := List.getElem_of_mem hy
    obtain ⟨hk2, hx2⟩ := List.getElem?_eq_some_iff.1 hx
    have hle : (normC l)[j] ≤ x := by
      by_cases e : j = k
      · subst e; rw [hx2]; exact Int.le_refl _
      · have := List.pairwise_iff_getElem.1 (normC_rise l) j k hj hk2 (by omega)
        rw [hx2] at this; omega
    simp; omega
theorem fit_nil {n : Int} {l : List Int} (h : (normC l).length = 0) : fitC n l = true := by
  unfold fitC; rw [List.eq_nil_of_length_eq_zero h]; rfl
theorem own_map_ne {W : World} {base size n B : Nat} {e : TypeId} {v : Value} {xs : List Value} {ml : List (Int × Value)} (h : W.ownsRow base e size v n xs) (hm : MapS W Lt.encI B ml) : some B ≠ v.ownBlock := hm.own_ne h
theorem map_blk {W : World} {B g : Nat} {m : List (Int × Value)} {t : TypeId} {cs : Array Value} (h : MapS W Lt.encI B m) (hb : Blk W g t cs) : g ≠ B := fun e => by
  subst e
  obtain ⟨es, c, h1, _⟩ := h
  unfold Blk at hb
  rw [hb] at h1
  cases h1
theorem mapNU : Try.prog.underlying 129 = some (.map 3 40) := by kernel_rfl
theorem mapAU : Try.prog.underlying 128 = some (.map 3 137) := by kernel_rfl
theorem mapSU : Try.prog.underlying 108 = some (.map 3 4) := by kernel_rfl
theorem zero_sl (w : World) : (zeroValue 40).run Try.prog w = .ok (.slice none 0 0) w := by simp
theorem zero_pw (w : World) : (zeroValue 137).run Try.prog w = .ok (.pointer none) w := by simp
theorem sl_val {s t : Sl} (h : s.val = t.val) : s = t := by
  obtain ⟨a, b, c⟩ := s
  obtain ⟨a2, b2, c2⟩ := t
  simp only [Sl.val] at h
  injection h with h1 h2 h3
  subst h1 h2 h3
  rfl
theorem map_fr {S : Nat → Prop} {w w' : World} {B : Nat} {l : List (Int × Value)} (h : MapS w Lt.encI B l) (hf : Fr S w w') (hn : ¬ S B) : MapS w' Lt.encI B l := h.block (hf.block _ h.lt hn)
theorem own_base {W : World} {b1 b2 size n : Nat} {e : TypeId} {v : Value} {xs : List Value} (h : W.ownsRow b1 e size v n xs) (hb : b2 ≤ b1) : W.ownsRow b2 e size v n xs := by
  obtain ⟨h1, h2⟩ := h
  refine ⟨h1, ?_⟩
  rcases h2 with h2 | ⟨g, cap, cur, h3, h4, h5⟩
  · exact .inl h2
  · exact .inr ⟨g, cap, cur, h3, Nat.le_trans hb h4, h5⟩
theorem mput_twice {l : List (Int × Value)} {x : Int} {u v : Value} : mput (mput l x u) x v = mput l x v := by
  induction l with
  | nil => simp [mput]
  | cons a l ih =>
    obtain ⟨k, w⟩ := a
    by_cases h : k = x <;> simp [mput, h, ih]
theorem encI_inj (a b : Int) (h : Lt.encI a = Lt.encI b) : a = b := by unfold Lt.encI at h; injection h
theorem run_buildW (A : Option Addr) (n c : Nat) (w : World) : (Instr.build 139 #[(0, .slice A n c)]).run Try.prog w = .ok (.agg #[.slice A n c]) w := by go_simp
theorem oper_buildW {o : Oper} {a : Act} {w : World} {K : Act → World → Prop} {Q : Exit → Act → World → Prop} (x : Operand) (ho : o.op = .build 139 #[(0, x)]) (A : Option Addr) (n c : Nat) (hx : a.eval x = .slice A n c)
    (h : K (a.put o.dst (.agg #[.slice A n c])) w) : Oper.wp Try.prog o a w K Q := by
  unfold Oper.wp execOp
  simp only [ho, Sem.run_bind, Sem.run_pure, Result.andThen_ok, List.map_toArray, List.map_cons, List.map_nil, hx, run_buildW]
  exact h
theorem run_boxW (A : Option Addr) (n c : Nat) (w : World) : (Instr.box 139 (.agg #[.slice A n c])).run Try.prog w = .ok (.pointer (some ⟨w.heap.size, 0, none⟩)) (w.alloc (.cells #[.slice A n c] 139)) := by go_simp
theorem oper_boxW {o : Oper} {a : Act} {w : World} {K : Act → World → Prop} {Q : Exit → Act → World → Prop} (x : Operand) (ho : o.op = .box 139 x) (A : Option Addr) (n c : Nat) (hx : a.eval x = .agg #[.slice A n c])
    (h : K (a.put o.dst (.pointer (some ⟨w.heap.size, 0, none⟩))) (w.alloc (.cells #[.slice A n c] 139))) : Oper.wp Try.prog o a w K Q := by
  unfold Oper.wp execOp
  simp only [ho, Sem.run_bind, Sem.run_pure, Result.andThen_ok, hx, run_boxW]
  exact h
def AddIs (base : Nat) (W : World) (p mA mN mS mB : Nat) (n next : Int) (fv : Value) (al nl sl bl : List (Int × Value)) (fr : List Int) (l : List Int) (e : Ending) (w' : World) : Prop :=
      ((okC l && fitC n l) = false ∧ e = .returned (.int .i64 (-1)) ∧ StM base w' p mA mN mS mB n next fv al nl sl bl fr ∧ Below W.heap.size W w') ∨
      ((okC l && fitC n l) = true ∧ e = .returned (.int .i64 next) ∧ ∃ (fv' : Value) (s sw : Sl) (b : Nat), StM base w' p mA mN mS mB n (next + 1) fv' (mput al next (.pointer (some ⟨b, 0, none⟩))) (mput nl next s.val) (if (normC l).length < 2 then mput sl next (.bool true) else sl) bl (if (normC l).length < 2 then fr else fr ++ [next]) ∧
        Blk w' b 139 #[sw.val] ∧ W.heap.size ≤ b ∧ w'.ownsRow W.heap.size 3 1 sw.val (normC l).length (ivs (normC l)) ∧ s.n = (normC l).length ∧ Rd w' s.A s.n (ivs (normC l)) ∧ (∀ ad, s.A = some ad → W.heap.size ≤ ad.block) ∧ Below base W w' ∧ Fr (fun g => g = p ∨ g = mA ∨ g = mN ∨ g = mS ∨ fv.ownBlock = some g) W w' ∧ (∀ g, fv'.ownBlock = some g → fv.ownBlock = some g ∨ W.heap.size ≤ g))
def AddIs2 (base : Nat) (W : World) (p mA mN mS mB : Nat) (n next : Int) (fv : Value) (al nl sl bl : List (Int × Value)) (fr : List Int) (l : List Int) (e : Ending) (w' : World) : Prop :=
      ((okC l && fitC n l) = false ∧ e = .returned (.int .i64 (-1)) ∧ StM base w' p mA mN mS mB n next fv al nl sl bl fr ∧ Below W.heap.size W w') ∨
      ((okC l && fitC n l) = true ∧ e = .returned (.int .i64 next) ∧ ∃ (fv' : Value) (s sw : Sl) (b : Nat), StM base w' p mA mN mS mB n (next + 1) fv' (mput al next (.pointer (some ⟨b, 0, none⟩))) (mput nl next s.val) (if (normC l).length < 2 then mput sl next (.bool true) else sl) bl (if (normC l).length < 2 then fr else fr ++ [next]) ∧
        Blk w' b 139 #[sw.val] ∧ W.heap.size ≤ b ∧ w'.ownsRow W.heap.size 3 1 sw.val (normC l).length (ivs (normC l)) ∧ s.n = (normC l).length ∧ Rd w' s.A s.n (ivs (normC l)) ∧ (∀ ad, s.A = some ad → W.heap.size ≤ ad.block) ∧ Below base W w' ∧ Fr (fun g => g = p ∨ g = mA ∨ g = mN ∨ g = mS ∨ fv.ownBlock = some g) W w' ∧ (∀ g, fv'.ownBlock = some g → fv.ownBlock = some g ∨ W.heap.size ≤ g) ∧ (∀ ad, s.A = some ad → fv'.ownBlock ≠ some ad.block) ∧ ((normC l).length < 2 → fv' = fv))
set_option maxRecDepth 8000 in
set_option maxHeartbeats 8000000 in
theorem watch_Add2 {base : Nat} {W : World} {p mA mN mS mB : Nat} {n next : Int} {fv : Value} {al nl sl bl : List (Int × Value)} {fr : List Int} (h : StM base W p mA mN mS mB n next fv al nl sl bl fr) (hbase : base ≤ W.heap.size) (hn : 0 ≤ n ∧ n ≤ 1048576) (hnext : 0 ≤ next ∧ next ≤ 1000000) (hfr : fr.length ≤ 1000000) (hnA : mfind al next 0 = none) (hnN : mfind nl next 0 = none)
    (A : Option Addr) (m c : Nat) (l : List Int) (hm : m ≤ 1000) (hr : Rd W A m (ivs l)) :
    Calls Try.prog 57 #[.pointer (some ⟨p, 0, none⟩), .slice A m c] W fun e w' =>
      AddIs2 base W p mA mN mS mB n next fv al nl sl bl fr l e w' := by
  have hlenl := hr.len
  have HN := hide (clause_Norm A m c l W (by omega) hr)
  have hpl := h.box.lt
  clear hr
  have hn0 : decide (n < 0) = false := decide_eq_false (by omega)
  replace hn := hide hn
  go_enter Try.func57, Try.ntmps57
  go_wp2_with fail
  refine HN.out.mono ?_
  rintro e w1 ⟨hb1, ⟨hok, rfl⟩ | ⟨hok, A1, c1, rfl, hr1, hlo1⟩⟩
  · have h1 := hide (h.keep hb1)
    replace hb1 := hide hb1
    replace hok := hide hok
    clear HN
    go_wp2
    refine wp_region_slots [13, 14, 15, 16, 17, 18, 19, 20, 21, 22, 23, 24, 25, 26, 27, 28, 29, 30, 31, 32, 33, 34, 35, 36, 37] (fun D g wz => g 0 = .pointer (some ⟨p, 0, none⟩) ∧ g 5 = .slice none 0 0 ∧ g 6 = .bool false ∧ Dr w1 wz ∧ (D 0 → g 13 = .pointer (some ⟨p, 0, none⟩)) ∧ (D 1 → g 14 = .bool false) ∧ (D 2 → g 15 = .bool false) ∧ (D 3 → g 16 = .bool false) ∧ (D 4 → g 17 = .bool true) ∧ (D 5 → g 18 = .bool true) ∧ (D 6 → g 19 = .bool true) ∧ (D 7 → g 20 = undef) ∧ (D 8 → g 21 = undef) ∧ (D 9 → g 22 = undef) ∧ (D 10 → g 23 = undef) ∧ (D 11 → g 24 = undef) ∧ (D 12 → g 25 = undef) ∧ (D 13 → g 26 = undef) ∧ (D 14 → g 27 = undef) ∧ (D 15 → g 28 = undef) ∧ (D 16 → g 29 = undef) ∧ (D 17 → g 30 = undef) ∧ (D 18 → g 31 = undef) ∧ (D 19 → g 32 = undef) ∧ (D 20 → g 33 = undef) ∧ (D 21 → g 34 = undef) ∧ (D 22 → g 35 = undef) ∧ (D 23 → g 36 = undef) ∧ (D 24 → g 37 = .bool true)) (by kernel_rfl) (by kernel_rfl) 87 rfl (by kernel_rfl) ?h0 ?hstep ?hdone
    case h0 => exact ⟨rfl, rfl, rfl, (Dr.refl w1).drew, nt0, nt0, nt0, nt0, nt0, nt0, nt0, nt0, nt0, nt0, nt0, nt0, nt0, nt0, nt0, nt0, nt0, nt0, nt0, nt0, nt0, nt0, nt0, nt0, nt0⟩
    case hstep =>
      intro D g wz i hi' hn hd' hI2
      obtain ⟨r0, r5, r6, hbz, f0, f1, f2, f3, f4, f5, f6, f7, f8, f9, f10, f11, f12, f13, f14, f15, f16, f17, f18, f19, f20, f21, f22, f23, f24⟩ := hI2
      have hi' : i < 25 := hi'
      rcases (show i = 0 ∨ i = 1 ∨ i = 2 ∨ i = 3 ∨ i = 4 ∨ i = 5 ∨ i = 6 ∨ i = 7 ∨ i = 8 ∨ i = 9 ∨ i = 10 ∨ i = 11 ∨ i = 12 ∨ i = 13 ∨ i = 14 ∨ i = 15 ∨ i = 16 ∨ i = 17 ∨ i = 18 ∨ i = 19 ∨ i = 20 ∨ i = 21 ∨ i = 22 ∨ i = 23 ∨ i = 24 by omega) with rfl | rfl | rfl | rfl | rfl | rfl | rfl | rfl | rfl | rfl | rfl | rfl | rfl | rfl | rfl | rfl | rfl | rfl | rfl | rfl | rfl | rfl | rfl | rfl | rfl
      · -- 0
        refine slot_step rfl rfl (fun az hs K hK => ?_)
        have hK : Shut _ := hK
        have e0 := hs.get 0
        rw [r0] at e0
        go_simp
        exact hK.out _ _ ⟨r0, r5, r6, hbz, fun _ => rfl, kp f1, kp f2, kp f3, kp f4, kp f5, kp f6, kp f7, kp f8, kp f9, kp f10, kp f11, kp f12, kp f13, kp f14, kp f15, kp f16, kp f17, kp f18, kp f19, kp f20, kp f21, kp f22, kp f23, kp f24⟩
      · -- 1
        have d0 := f0 (hd' 0 (by kernel_rfl))
        refine slot_step rfl rfl (fun az hs K hK => ?_)
        have hK : Shut _ := hK
        have e13 := hs.get 13
        rw [d0] at e13
        go_simp
        exact hK.out _ _ ⟨r0, r5, r6, hbz, kp f0, fun _ => rfl, kp f2, kp f3, kp f4, kp f5, kp f6, kp f7, kp f8, kp f9, kp f10, kp f11, kp f12, kp f13, kp f14, kp f15, kp f16, kp f17, kp f18, kp f19, kp f20, kp f21, kp f22, kp f23, kp f24⟩
      · -- 2
        have d1 := f1 (hd' 1 (by kernel_rfl))
        refine slot_step rfl rfl (fun az hs K hK => ?_)
        have hK : Shut _ := hK
        have e14 := hs.get 14
        rw [d1] at e14
        go_simp
        exact hK.out _ _ ⟨r0, r5, r6, hbz, kp f0, kp f1, fun _ => rfl, kp f3, kp f4, kp f5, kp f6, kp f7, kp f8, kp f9, kp f10, kp f11, kp f12, kp f13, kp f14, kp f15, kp f16, kp f17, kp f18, kp f19, kp f20, kp f21, kp f22, kp f23, kp f24⟩
      · -- 3
        have d2 := f2 (hd' 2 (by kernel_rfl))
        refine slot_step_yes (j := 2) (d := 15) rfl rfl rfl (by decide) (d2) (fun az hs K hK => ?_)
        have hK : Shut _ := hK
        have e15 := hs.get 15
        rw [d2] at e15
        have e6 := hs.get 6
        rw [r6] at e6
        go_simp
        exact hK.out _ _ ⟨r0, r5, r6, hbz, kp f0, kp f1, kp f2, fun _ => rfl, kp f4, kp f5, kp f6, kp f7, kp f8, kp f9, kp f10, kp f11, kp f12, kp f13, kp f14, kp f15, kp f16, kp f17, kp f18, kp f19, kp f20, kp f21, kp f22, kp f23, kp f24⟩
      · -- 4
        have d2 := f2 (hd' 2 (by kernel_rfl))
        have d3 := f3 (hd' 3 (by kernel_rfl))
        refine slot_step_yes (j := 2) (d := 15) rfl rfl rfl (by decide) (d2) (fun az hs K hK => ?_)
        have hK : Shut _ := hK
        have e15 := hs.get 15
        rw [d2] at e15
        have e16 := hs.get 16
        rw [d3] at e16
        go_simp
        exact hK.out _ _ ⟨r0, r5, r6, hbz, kp f0, kp f1, kp f2, kp f3, fun _ => rfl, kp f5, kp f6, kp f7, kp f8, kp f9, kp f10, kp f11, kp f12, kp f13, kp f14, kp f15, kp f16, kp f17, kp f18, kp f19, kp f20, kp f21, kp f22, kp f23, kp f24⟩
      · -- 5
        have d2 := f2 (hd' 2 (by kernel_rfl))
        have d4 := f4 (hd' 4 (by kernel_rfl))
        refine slot_step rfl rfl (fun az hs K hK => ?_)
        have hK : Shut _ := hK
        have e15 := hs.get 15
        rw [d2] at e15
        have e17 := hs.get 17
        rw [d4] at e17
        go_simp
        exact hK.out _ _ ⟨r0, r5, r6, hbz, kp f0, kp f1, kp f2, kp f3, kp f4, fun _ => rfl, kp f6, kp f7, kp f8, kp f9, kp f10, kp f11, kp f12, kp f13, kp f14, kp f15, kp f16, kp f17, kp f18, kp f19, kp f20, kp f21, kp f22, kp f23, kp f24⟩
      · -- 6
        have d5 := f5 (hd' 5 (by kernel_rfl))
        refine slot_step rfl rfl (fun az hs K hK => ?_)
        have hK : Shut _ := hK
        have e18 := hs.get 18
        rw [d5] at e18
        go_simp
        exact hK.out _ _ ⟨r0, r5, r6, hbz, kp f0, kp f1, kp f2, kp f3, kp f4, kp f5, fun _ => rfl, kp f7, kp f8, kp f9, kp f10, kp f11, kp f12, kp f13, kp f14, kp f15, kp f16, kp f17, kp f18, kp f19, kp f20, kp f21, kp f22, kp f23, kp f24⟩
      · -- 7
        have d6 := f6 (hd' 6 (by kernel_rfl))
        exact slot_step_no (j := 6) (d := 19) rfl rfl rfl (by decide) (d6) ⟨r0, r5, r6, hbz, kp f0, kp f1, kp f2, kp f3, kp f4, kp f5, kp f6, fun _ => rfl, kp f8, kp f9, kp f10, kp f11, kp f12, kp f13, kp f14, kp f15, kp f16, kp f17, kp f18, kp f19, kp f20, kp f21, kp f22, kp f23, kp f24⟩
      · -- 8
        have d6 := f6 (hd' 6 (by kernel_rfl))
        exact slot_step_no (j := 6) (d := 19) rfl rfl rfl (by decide) (d6) ⟨r0, r5, r6, hbz, kp f0, kp f1, kp f2, kp f3, kp f4, kp f5, kp f6, kp f7, fun _ => rfl, kp f9, kp f10, kp f11, kp f12, kp f13, kp f14, kp f15, kp f16, kp f17, kp f18, kp f19, kp f20, kp f21, kp f22, kp f23, kp f24⟩
      · -- 9
        have d6 := f6 (hd' 6 (by kernel_rfl))
        exact slot_step_no (j := 6) (d := 19) rfl rfl rfl (by decide) (d6) ⟨r0, r5, r6, hbz, kp f0, kp f1, kp f2, kp f3, kp f4, kp f5, kp f6, kp f7, kp f8, fun _ => rfl, kp f10, kp f11, kp f12, kp f13, kp f14, kp f15, kp f16, kp f17, kp f18, kp f19, kp f20, kp f21, kp f22, kp f23, kp f24⟩
      · -- 10
        have d6 := f6 (hd' 6 (by kernel_rfl))
        exact slot_step_no (j := 6) (d := 19) rfl rfl rfl (by decide) (d6) ⟨r0, r5, r6, hbz, kp f0, kp f1, kp f2, kp f3, kp f4, kp f5, kp f6, kp f7, kp f8, kp f9, fun _ => rfl, kp f11, kp f12, kp f13, kp f14, kp f15, kp f16, kp f17, kp f18, kp f19, kp f20, kp f21, kp f22, kp f23, kp f24⟩
      · -- 11
        have d10 := f10 (hd' 10 (by kernel_rfl))
        exact slot_step_nou (j := 10) (d := 23) rfl rfl rfl (by decide) (d10) ⟨r0, r5, r6, hbz, kp f0, kp f1, kp f2, kp f3, kp f4, kp f5, kp f6, kp f7, kp f8, kp f9, kp f10, fun _ => rfl, kp f12, kp f13, kp f14, kp f15, kp f16, kp f17, kp f18, kp f19, kp f20, kp f21, kp f22, kp f23, kp f24⟩
      · -- 12
        have d10 := f10 (hd' 10 (by kernel_rfl))
        exact slot_step_nou (j := 10) (d := 23) rfl rfl rfl (by decide) (d10) ⟨r0, r5, r6, hbz, kp f0, kp f1, kp f2, kp f3, kp f4, kp f5, kp f6, kp f7, kp f8, kp f9, kp f10, kp f11, fun _ => rfl, kp f13, kp f14, kp f15, kp f16, kp f17, kp f18, kp f19, kp f20, kp f21, kp f22, kp f23, kp f24⟩
      · -- 13
        have d10 := f10 (hd' 10 (by kernel_rfl))
        exact slot_step_nou (j := 10) (d := 23) rfl rfl rfl (by decide) (d10) ⟨r0, r5, r6, hbz, kp f0, kp f1, kp f2, kp f3, kp f4, kp f5, kp f6, kp f7, kp f8, kp f9, kp f10, kp f11, kp f12, fun _ => rfl, kp f14, kp f15, kp f16, kp f17, kp f18, kp f19, kp f20, kp f21, kp f22, kp f23, kp f24⟩
      · -- 14
        have d10 := f10 (hd' 10 (by kernel_rfl))
        exact slot_step_nou (j := 10) (d := 23) rfl rfl rfl (by decide) (d10) ⟨r0, r5, r6, hbz, kp f0, kp f1, kp f2, kp f3, kp f4, kp f5, kp f6, kp f7, kp f8, kp f9, kp f10, kp f11, kp f12, kp f13, fun _ => rfl, kp f15, kp f16, kp f17, kp f18, kp f19, kp f20, kp f21, kp f22, kp f23, kp f24⟩
      · -- 15
        have d10 := f10 (hd' 10 (by kernel_rfl))
        exact slot_step_nou (j := 10) (d := 23) rfl rfl rfl (by decide) (d10) ⟨r0, r5, r6, hbz, kp f0, kp f1, kp f2, kp f3, kp f4, kp f5, kp f6, kp f7, kp f8, kp f9, kp f10, kp f11, kp f12, kp f13, kp f14, fun _ => rfl, kp f16, kp f17, kp f18, kp f19, kp f20, kp f21, kp f22, kp f23, kp f24⟩
      · -- 16
        have d10 := f10 (hd' 10 (by kernel_rfl))
        exact slot_step_nou (j := 10) (d := 23) rfl rfl rfl (by decide) (d10) ⟨r0, r5, r6, hbz, kp f0, kp f1, kp f2, kp f3, kp f4, kp f5, kp f6, kp f7, kp f8, kp f9, kp f10, kp f11, kp f12, kp f13, kp f14, kp f15, fun _ => rfl, kp f17, kp f18, kp f19, kp f20, kp f21, kp f22, kp f23, kp f24⟩
      · -- 17
        have d10 := f10 (hd' 10 (by kernel_rfl))
        exact slot_step_nou (j := 10) (d := 23) rfl rfl rfl (by decide) (d10) ⟨r0, r5, r6, hbz, kp f0, kp f1, kp f2, kp f3, kp f4, kp f5, kp f6, kp f7, kp f8, kp f9, kp f10, kp f11, kp f12, kp f13, kp f14, kp f15, kp f16, fun _ => rfl, kp f18, kp f19, kp f20, kp f21, kp f22, kp f23, kp f24⟩
      · -- 18
        have d10 := f10 (hd' 10 (by kernel_rfl))
        exact slot_step_nou (j := 10) (d := 23) rfl rfl rfl (by decide) (d10) ⟨r0, r5, r6, hbz, kp f0, kp f1, kp f2, kp f3, kp f4, kp f5, kp f6, kp f7, kp f8, kp f9, kp f10, kp f11, kp f12, kp f13, kp f14, kp f15, kp f16, kp f17, fun _ => rfl, kp f19, kp f20, kp f21, kp f22, kp f23, kp f24⟩
      · -- 19
        have d10 := f10 (hd' 10 (by kernel_rfl))
        exact slot_step_nou (j := 10) (d := 23) rfl rfl rfl (by decide) (d10) ⟨r0, r5, r6, hbz, kp f0, kp f1, kp f2, kp f3, kp f4, kp f5, kp f6, kp f7, kp f8, kp f9, kp f10, kp f11, kp f12, kp f13, kp f14, kp f15, kp f16, kp f17, kp f18, fun _ => rfl, kp f20, kp f21, kp f22, kp f23, kp f24⟩
      · -- 20
        have d10 := f10 (hd' 10 (by kernel_rfl))
        exact slot_step_nou (j := 10) (d := 23) rfl rfl rfl (by decide) (d10) ⟨r0, r5, r6, hbz, kp f0, kp f1, kp f2, kp f3, kp f4, kp f5, kp f6, kp f7, kp f8, kp f9, kp f10, kp f11, kp f12, kp f13, kp f14, kp f15, kp f16, kp f17, kp f18, kp f19, fun _ => rfl, kp f21, kp f22, kp f23, kp f24⟩
      · -- 21
        have d10 := f10 (hd' 10 (by kernel_rfl))
        exact slot_step_nou (j := 10) (d := 23) rfl rfl rfl (by decide) (d10) ⟨r0, r5, r6, hbz, kp f0, kp f1, kp f2, kp f3, kp f4, kp f5, kp f6, kp f7, kp f8, kp f9, kp f10, kp f11, kp f12, kp f13, kp f14, kp f15, kp f16, kp f17, kp f18, kp f19, kp f20, fun _ => rfl, kp f22, kp f23, kp f24⟩
      · -- 22
        have d10 := f10 (hd' 10 (by kernel_rfl))
        exact slot_step_nou (j := 10) (d := 23) rfl rfl rfl (by decide) (d10) ⟨r0, r5, r6, hbz, kp f0, kp f1, kp f2, kp f3, kp f4, kp f5, kp f6, kp f7, kp f8, kp f9, kp f10, kp f11, kp f12, kp f13, kp f14, kp f15, kp f16, kp f17, kp f18, kp f19, kp f20, kp f21, fun _ => rfl, kp f23, kp f24⟩
      · -- 23
        have d6 := f6 (hd' 6 (by kernel_rfl))
        exact slot_step_no (j := 6) (d := 19) rfl rfl rfl (by decide) (d6) ⟨r0, r5, r6, hbz, kp f0, kp f1, kp f2, kp f3, kp f4, kp f5, kp f6, kp f7, kp f8, kp f9, kp f10, kp f11, kp f12, kp f13, kp f14, kp f15, kp f16, kp f17, kp f18, kp f19, kp f20, kp f21, kp f22, fun _ => rfl, kp f24⟩
      · -- 24
        have d6 := f6 (hd' 6 (by kernel_rfl))
        have d23 := f23 (hd' 23 (by kernel_rfl))
        refine slot_step rfl rfl (fun az hs K hK => ?_)
        have hK : Shut _ := hK
        have e19 := hs.get 19
        rw [d6] at e19
        have e36 := hs.get 36
        rw [d23] at e36
        go_simp
        exact hK.out _ _ ⟨r0, r5, r6, hbz, kp f0, kp f1, kp f2, kp f3, kp f4, kp f5, kp f6, kp f7, kp f8, kp f9, kp f10, kp f11, kp f12, kp f13, kp f14, kp f15, kp f16, kp f17, kp f18, kp f19, kp f20, kp f21, kp f22, kp f23, fun _ => rfl⟩
    case hdone =>
      rintro D g wz hD ⟨r0, r5, r6, hbz, f0, f1, f2, f3, f4, f5, f6, f7, f8, f9, f10, f11, f12, f13, f14, f15, f16, f17, f18, f19, f20, f21, f22, f23, f24⟩
      simp only [setAll, List.foldl_cons, List.foldl_nil, List.setIfInBounds_toArray, List.set_cons_succ, List.set_cons_zero]
      have e37 := f24 (hD 24)
      rw [e37]
      clear f0 f1 f2 f3 f4 f5 f6 f7 f8 f9 f10 f11 f12 f13 f14 f15 f16 f17 f18 f19 f20 f21 f22 f23 f24 hD r0 r5 r6 e37
      have hbF := hide (hb1.out.trans (hbz.below _))
      have hF := hide (h1.out.keep (hbz.below _))
      obtain ⟨w2, hw2⟩ : ∃ w2, w2 = wz := ⟨_, rfl⟩
      subst hw2
      clear hbz
      go_wp2
      go_ret
      exact .inl ⟨by rw [hok.out]; rfl, rfl, hF.out, hbF.out⟩
  · have h1 := h.keep hb1
    obtain ⟨q, hq⟩ : ∃ q, (normC l).length = q := ⟨_, rfl⟩
    rw [hq] at hr1 ⊢
    have hq1 : q ≤ 1000 := by
      have h2 : (normC l).length ≤ (srt l).length := List.length_filter_le _ _
      have h3 := srt_len l
      omega
    have hqI : (q : Int) ≤ 1000 := by omega
    have hnw : IntKind.i64.wrap (next + 1) = next + 1 := IntWalk.i64_in _ (by omega)
    have hrN := hide (normC_pos hok)
    replace hok := hide hok
    clear HN
    by_cases hq0 : q = 0
    · have hfit := hide (fit_nil (n := n) (hq.trans hq0))
      have hqz : ¬ 0 < q := by omega
      have hqz1 : decide ((0 : Int) < q) = false := decide_eq_false (by omega)
      have hq2 : decide ((q : Int) < 2) = true := decide_eq_true (by omega)
      have hqlt := hide (show (normC l).length < 2 by omega)
      replace hq := hide hq
      replace hq0 := hide hq0
      go_wp2
      refine wp_region_slots [13, 14, 15, 16, 17, 18, 19, 20, 21, 22, 23, 24, 25, 26, 27, 28, 29, 30, 31, 32, 33, 34, 35, 36, 37] (fun D g wz => g 0 = .pointer (some ⟨p, 0, none⟩) ∧ g 5 = .slice A1 q c1 ∧ g 6 = .bool true ∧ Dr w1 wz ∧ (D 0 → g 13 = .pointer (some ⟨p, 0, none⟩)) ∧ (D 1 → g 14 = .bool false) ∧ (D 2 → g 15 = .bool false) ∧ (D 3 → g 16 = .bool true) ∧ (D 4 → g 17 = .bool false) ∧ (D 5 → g 18 = .bool false) ∧ (D 6 → g 19 = .bool false) ∧ (D 7 → g 20 = .slice A1 q c1) ∧ (D 8 → g 21 = .int .i64 q) ∧ (D 9 → g 22 = .bool false) ∧ (D 10 → g 23 = .bool false) ∧ (D 11 → g 24 = undef) ∧ (D 12 → g 25 = undef) ∧ (D 13 → g 26 = undef) ∧ (D 14 → g 27 = undef) ∧ (D 15 → g 28 = undef) ∧ (D 16 → g 29 = undef) ∧ (D 17 → g 30 = undef) ∧ (D 18 → g 31 = undef) ∧ (D 19 → g 32 = undef) ∧ (D 20 → g 33 = undef) ∧ (D 21 → g 34 = undef) ∧ (D 22 → g 35 = undef) ∧ (D 23 → g 36 = .bool false) ∧ (D 24 → g 37 = .bool false)) (by kernel_rfl) (by kernel_rfl) 87 rfl (by kernel_rfl) ?h0 ?hstep ?hdone
      case h0 => exact ⟨rfl, rfl, rfl, (Dr.refl w1).drew, nt0, nt0, nt0, nt0, nt0, nt0, nt0, nt0, nt0, nt0, nt0, nt0, nt0, nt0, nt0, nt0, nt0, nt0, nt0, nt0, nt0, nt0, nt0, nt0, nt0⟩
      case hstep =>
        intro D g wz i hi' hn hd' hI2
        obtain ⟨r0, r5, r6, hbz, f0, f1, f2, f3, f4, f5, f6, f7, f8, f9, f10, f11, f12, f13, f14, f15, f16, f17, f18, f19, f20, f21, f22, f23, f24⟩ := hI2
        have hi' : i < 25 := hi'
        rcases (show i = 0 ∨ i = 1 ∨ i = 2 ∨ i = 3 ∨ i = 4 ∨ i = 5 ∨ i = 6 ∨ i = 7 ∨ i = 8 ∨ i = 9 ∨ i = 10 ∨ i = 11 ∨ i = 12 ∨ i = 13 ∨ i = 14 ∨ i = 15 ∨ i = 16 ∨ i = 17 ∨ i = 18 ∨ i = 19 ∨ i = 20 ∨ i = 21 ∨ i = 22 ∨ i = 23 ∨ i = 24 by omega) with rfl | rfl | rfl | rfl | rfl | rfl | rfl | rfl | rfl | rfl | rfl | rfl | rfl | rfl | rfl | rfl | rfl | rfl | rfl | rfl | rfl | rfl | rfl | rfl | rfl
        · -- 0
          refine slot_step rfl rfl (fun az hs K hK => ?_)
          have hK : Shut _ := hK
          have e0 := hs.get 0
          rw [r0] at e0
          go_simp
          exact hK.out _ _ ⟨r0, r5, r6, hbz, fun _ => rfl, kp f1, kp f2, kp f3, kp f4, kp f5, kp f6, kp f7, kp f8, kp f9, kp f10, kp f11, kp f12, kp f13, kp f14, kp f15, kp f16, kp f17, kp f18, kp f19, kp f20, kp f21, kp f22, kp f23, kp f24⟩
        · -- 1
          have d0 := f0 (hd' 0 (by kernel_rfl))
          refine slot_step rfl rfl (fun az hs K hK => ?_)
          have hK : Shut _ := hK
          have e13 := hs.get 13
          rw [d0] at e13
          go_simp
          exact hK.out _ _ ⟨r0, r5, r6, hbz, kp f0, fun _ => rfl, kp f2, kp f3, kp f4, kp f5, kp f6, kp f7, kp f8, kp f9, kp f10, kp f11, kp f12, kp f13, kp f14, kp f15, kp f16, kp f17, kp f18, kp f19, kp f20, kp f21, kp f22, kp f23, kp f24⟩
        · -- 2
          have d1 := f1 (hd' 1 (by kernel_rfl))
          refine slot_step rfl rfl (fun az hs K hK => ?_)
          have hK : Shut _ := hK
          have e14 := hs.get 14
          rw [d1] at e14
          go_simp
          exact hK.out _ _ ⟨r0, r5, r6, hbz, kp f0, kp f1, fun _ => rfl, kp f3, kp f4, kp f5, kp f6, kp f7, kp f8, kp f9, kp f10, kp f11, kp f12, kp f13, kp f14, kp f15, kp f16, kp f17, kp f18, kp f19, kp f20, kp f21, kp f22, kp f23, kp f24⟩
        · -- 3
          have d2 := f2 (hd' 2 (by kernel_rfl))
          refine slot_step_yes (j := 2) (d := 15) rfl rfl rfl (by decide) (d2) (fun az hs K hK => ?_)
          have hK : Shut _ := hK
          have e15 := hs.get 15
          rw [d2] at e15
          have e6 := hs.get 6
          rw [r6] at e6
          go_simp
          exact hK.out _ _ ⟨r0, r5, r6, hbz, kp f0, kp f1, kp f2, fun _ => rfl, kp f4, kp f5, kp f6, kp f7, kp f8, kp f9, kp f10, kp f11, kp f12, kp f13, kp f14, kp f15, kp f16, kp f17, kp f18, kp f19, kp f20, kp f21, kp f22, kp f23, kp f24⟩
        · -- 4
          have d2 := f2 (hd' 2 (by kernel_rfl))
          have d3 := f3 (hd' 3 (by kernel_rfl))
          refine slot_step_yes (j := 2) (d := 15) rfl rfl rfl (by decide) (d2) (fun az hs K hK => ?_)
          have hK : Shut _ := hK
          have e15 := hs.get 15
          rw [d2] at e15
          have e16 := hs.get 16
          rw [d3] at e16
          go_simp
          exact hK.out _ _ ⟨r0, r5, r6, hbz, kp f0, kp f1, kp f2, kp f3, fun _ => rfl, kp f5, kp f6, kp f7, kp f8, kp f9, kp f10, kp f11, kp f12, kp f13, kp f14, kp f15, kp f16, kp f17, kp f18, kp f19, kp f20, kp f21, kp f22, kp f23, kp f24⟩
        · -- 5
          have d2 := f2 (hd' 2 (by kernel_rfl))
          have d4 := f4 (hd' 4 (by kernel_rfl))
          refine slot_step rfl rfl (fun az hs K hK => ?_)
          have hK : Shut _ := hK
          have e15 := hs.get 15
          rw [d2] at e15
          have e17 := hs.get 17
          rw [d4] at e17
          go_simp
          exact hK.out _ _ ⟨r0, r5, r6, hbz, kp f0, kp f1, kp f2, kp f3, kp f4, fun _ => rfl, kp f6, kp f7, kp f8, kp f9, kp f10, kp f11, kp f12, kp f13, kp f14, kp f15, kp f16, kp f17, kp f18, kp f19, kp f20, kp f21, kp f22, kp f23, kp f24⟩
        · -- 6
          have d5 := f5 (hd' 5 (by kernel_rfl))
          refine slot_step rfl rfl (fun az hs K hK => ?_)
          have hK : Shut _ := hK
          have e18 := hs.get 18
          rw [d5] at e18
          go_simp
          exact hK.out _ _ ⟨r0, r5, r6, hbz, kp f0, kp f1, kp f2, kp f3, kp f4, kp f5, fun _ => rfl, kp f7, kp f8, kp f9, kp f10, kp f11, kp f12, kp f13, kp f14, kp f15, kp f16, kp f17, kp f18, kp f19, kp f20, kp f21, kp f22, kp f23, kp f24⟩
        · -- 7
          have d6 := f6 (hd' 6 (by kernel_rfl))
          refine slot_step_yes (j := 6) (d := 19) rfl rfl rfl (by decide) (d6) (fun az hs K hK => ?_)
          have hK : Shut _ := hK
          have e19 := hs.get 19
          rw [d6] at e19
          have e5 := hs.get 5
          rw [r5] at e5
          go_simp
          exact hK.out _ _ ⟨r0, r5, r6, hbz, kp f0, kp f1, kp f2, kp f3, kp f4, kp f5, kp f6, fun _ => rfl, kp f8, kp f9, kp f10, kp f11, kp f12, kp f13, kp f14, kp f15, kp f16, kp f17, kp f18, kp f19, kp f20, kp f21, kp f22, kp f23, kp f24⟩
        · -- 8
          have d6 := f6 (hd' 6 (by kernel_rfl))
          have d7 := f7 (hd' 7 (by kernel_rfl))
          refine slot_step_yes (j := 6) (d := 19) rfl rfl rfl (by decide) (d6) (fun az hs K hK => ?_)
          have hK : Shut _ := hK
          have e19 := hs.get 19
          rw [d6] at e19
          have e20 := hs.get 20
          rw [d7] at e20
          go_simp
          exact hK.out _ _ ⟨r0, r5, r6, hbz, kp f0, kp f1, kp f2, kp f3, kp f4, kp f5, kp f6, kp f7, fun _ => rfl, kp f9, kp f10, kp f11, kp f12, kp f13, kp f14, kp f15, kp f16, kp f17, kp f18, kp f19, kp f20, kp f21, kp f22, kp f23, kp f24⟩
        · -- 9
          have d6 := f6 (hd' 6 (by kernel_rfl))
          have d8 := f8 (hd' 8 (by kernel_rfl))
          refine slot_step_yes (j := 6) (d := 19) rfl rfl rfl (by decide) (d6) (fun az hs K hK => ?_)
          have hK : Shut _ := hK
          have e19 := hs.get 19
          rw [d6] at e19
          have e21 := hs.get 21
          rw [d8] at e21
          go_simp
          exact hK.out _ _ ⟨r0, r5, r6, hbz, kp f0, kp f1, kp f2, kp f3, kp f4, kp f5, kp f6, kp f7, kp f8, fun _ => rfl, kp f10, kp f11, kp f12, kp f13, kp f14, kp f15, kp f16, kp f17, kp f18, kp f19, kp f20, kp f21, kp f22, kp f23, kp f24⟩
        · -- 10
          have d6 := f6 (hd' 6 (by kernel_rfl))
          have d9 := f9 (hd' 9 (by kernel_rfl))
          refine slot_step_yes (j := 6) (d := 19) rfl rfl rfl (by decide) (d6) (fun az hs K hK => ?_)
          have hK : Shut _ := hK
          have e19 := hs.get 19
          rw [d6] at e19
          have e22 := hs.get 22
          rw [d9] at e22
          go_simp
          exact hK.out _ _ ⟨r0, r5, r6, hbz, kp f0, kp f1, kp f2, kp f3, kp f4, kp f5, kp f6, kp f7, kp f8, kp f9, fun _ => rfl, kp f11, kp f12, kp f13, kp f14, kp f15, kp f16, kp f17, kp f18, kp f19, kp f20, kp f21, kp f22, kp f23, kp f24⟩
        · -- 11
          have d10 := f10 (hd' 10 (by kernel_rfl))
          exact slot_step_no (j := 10) (d := 23) rfl rfl rfl (by decide) (d10) ⟨r0, r5, r6, hbz, kp f0, kp f1, kp f2, kp f3, kp f4, kp f5, kp f6, kp f7, kp f8, kp f9, kp f10, fun _ => rfl, kp f12, kp f13, kp f14, kp f15, kp f16, kp f17, kp f18, kp f19, kp f20, kp f21, kp f22, kp f23, kp f24⟩
        · -- 12
          have d10 := f10 (hd' 10 (by kernel_rfl))
          exact slot_step_no (j := 10) (d := 23) rfl rfl rfl (by decide) (d10) ⟨r0, r5, r6, hbz, kp f0, kp f1, kp f2, kp f3, kp f4, kp f5, kp f6, kp f7, kp f8, kp f9, kp f10, kp f11, fun _ => rfl, kp f13, kp f14, kp f15, kp f16, kp f17, kp f18, kp f19, kp f20, kp f21, kp f22, kp f23, kp f24⟩
        · -- 13
          have d10 := f10 (hd' 10 (by kernel_rfl))
          exact slot_step_no (j := 10) (d := 23) rfl rfl rfl (by decide) (d10) ⟨r0, r5, r6, hbz, kp f0, kp f1, kp f2, kp f3, kp f4, kp f5, kp f6, kp f7, kp f8, kp f9, kp f10, kp f11, kp f12, fun _ => rfl, kp f14, kp f15, kp f16, kp f17, kp f18, kp f19, kp f20, kp f21, kp f22, kp f23, kp f24⟩
        · -- 14
          have d10 := f10 (hd' 10 (by kernel_rfl))
          exact slot_step_no (j := 10) (d := 23) rfl rfl rfl (by decide) (d10) ⟨r0, r5, r6, hbz, kp f0, kp f1, kp f2, kp f3, kp f4, kp f5, kp f6, kp f7, kp f8, kp f9, kp f10, kp f11, kp f12, kp f13, fun _ => rfl, kp f15, kp f16, kp f17, kp f18, kp f19, kp f20, kp f21, kp f22, kp f23, kp f24⟩
        · -- 15
          have d10 := f10 (hd' 10 (by kernel_rfl))
          exact slot_step_no (j := 10) (d := 23) rfl rfl rfl (by decide) (d10) ⟨r0, r5, r6, hbz, kp f0, kp f1, kp f2, kp f3, kp f4, kp f5, kp f6, kp f7, kp f8, kp f9, kp f10, kp f11, kp f12, kp f13, kp f14, fun _ => rfl, kp f16, kp f17, kp f18, kp f19, kp f20, kp f21, kp f22, kp f23, kp f24⟩
        · -- 16
          have d10 := f10 (hd' 10 (by kernel_rfl))
          exact slot_step_no (j := 10) (d := 23) rfl rfl rfl (by decide) (d10) ⟨r0, r5, r6, hbz, kp f0, kp f1, kp f2, kp f3, kp f4, kp f5, kp f6, kp f7, kp f8, kp f9, kp f10, kp f11, kp f12, kp f13, kp f14, kp f15, fun _ => rfl, kp f17, kp f18, kp f19, kp f20, kp f21, kp f22, kp f23, kp f24⟩
        · -- 17
          have d10 := f10 (hd' 10 (by kernel_rfl))
          exact slot_step_no (j := 10) (d := 23) rfl rfl rfl (by decide) (d10) ⟨r0, r5, r6, hbz, kp f0, kp f1, kp f2, kp f3, kp f4, kp f5, kp f6, kp f7, kp f8, kp f9, kp f10, kp f11, kp f12, kp f13, kp f14, kp f15, kp f16, fun _ => rfl, kp f18, kp f19, kp f20, kp f21, kp f22, kp f23, kp f24⟩
        · -- 18
          have d10 := f10 (hd' 10 (by kernel_rfl))
          exact slot_step_no (j := 10) (d := 23) rfl rfl rfl (by decide) (d10) ⟨r0, r5, r6, hbz, kp f0, kp f1, kp f2, kp f3, kp f4, kp f5, kp f6, kp f7, kp f8, kp f9, kp f10, kp f11, kp f12, kp f13, kp f14, kp f15, kp f16, kp f17, fun _ => rfl, kp f19, kp f20, kp f21, kp f22, kp f23, kp f24⟩
        · -- 19
          have d10 := f10 (hd' 10 (by kernel_rfl))
          exact slot_step_no (j := 10) (d := 23) rfl rfl rfl (by decide) (d10) ⟨r0, r5, r6, hbz, kp f0, kp f1, kp f2, kp f3, kp f4, kp f5, kp f6, kp f7, kp f8, kp f9, kp f10, kp f11, kp f12, kp f13, kp f14, kp f15, kp f16, kp f17, kp f18, fun _ => rfl, kp f20, kp f21, kp f22, kp f23, kp f24⟩
        · -- 20
          have d10 := f10 (hd' 10 (by kernel_rfl))
          exact slot_step_no (j := 10) (d := 23) rfl rfl rfl (by decide) (d10) ⟨r0, r5, r6, hbz, kp f0, kp f1, kp f2, kp f3, kp f4, kp f5, kp f6, kp f7, kp f8, kp f9, kp f10, kp f11, kp f12, kp f13, kp f14, kp f15, kp f16, kp f17, kp f18, kp f19, fun _ => rfl, kp f21, kp f22, kp f23, kp f24⟩
        · -- 21
          have d10 := f10 (hd' 10 (by kernel_rfl))
          exact slot_step_no (j := 10) (d := 23) rfl rfl rfl (by decide) (d10) ⟨r0, r5, r6, hbz, kp f0, kp f1, kp f2, kp f3, kp f4, kp f5, kp f6, kp f7, kp f8, kp f9, kp f10, kp f11, kp f12, kp f13, kp f14, kp f15, kp f16, kp f17, kp f18, kp f19, kp f20, fun _ => rfl, kp f22, kp f23, kp f24⟩
        · -- 22
          have d10 := f10 (hd' 10 (by kernel_rfl))
          exact slot_step_no (j := 10) (d := 23) rfl rfl rfl (by decide) (d10) ⟨r0, r5, r6, hbz, kp f0, kp f1, kp f2, kp f3, kp f4, kp f5, kp f6, kp f7, kp f8, kp f9, kp f10, kp f11, kp f12, kp f13, kp f14, kp f15, kp f16, kp f17, kp f18, kp f19, kp f20, kp f21, fun _ => rfl, kp f23, kp f24⟩
        · -- 23
          have d6 := f6 (hd' 6 (by kernel_rfl))
          have d10 := f10 (hd' 10 (by kernel_rfl))
          have d22 := f22 (hd' 22 (by kernel_rfl))
          refine slot_step_yes (j := 6) (d := 19) rfl rfl rfl (by decide) (d6) (fun az hs K hK => ?_)
          have hK : Shut _ := hK
          have e19 := hs.get 19
          rw [d6] at e19
          have e23 := hs.get 23
          rw [d10] at e23
          have e35 := hs.get 35
          rw [d22] at e35
          go_simp
          exact hK.out _ _ ⟨r0, r5, r6, hbz, kp f0, kp f1, kp f2, kp f3, kp f4, kp f5, kp f6, kp f7, kp f8, kp f9, kp f10, kp f11, kp f12, kp f13, kp f14, kp f15, kp f16, kp f17, kp f18, kp f19, kp f20, kp f21, kp f22, fun _ => rfl, kp f24⟩
        · -- 24
          have d6 := f6 (hd' 6 (by kernel_rfl))
          have d23 := f23 (hd' 23 (by kernel_rfl))
          refine slot_step rfl rfl (fun az hs K hK => ?_)
          have hK : Shut _ := hK
          have e19 := hs.get 19
          rw [d6] at e19
          have e36 := hs.get 36
          rw [d23] at e36
          go_simp
          exact hK.out _ _ ⟨r0, r5, r6, hbz, kp f0, kp f1, kp f2, kp f3, kp f4, kp f5, kp f6, kp f7, kp f8, kp f9, kp f10, kp f11, kp f12, kp f13, kp f14, kp f15, kp f16, kp f17, kp f18, kp f19, kp f20, kp f21, kp f22, kp f23, fun _ => rfl⟩
      case hdone =>
        rintro D g wz hD ⟨r0, r5, r6, hbz, f0, f1, f2, f3, f4, f5, f6, f7, f8, f9, f10, f11, f12, f13, f14, f15, f16, f17, f18, f19, f20, f21, f22, f23, f24⟩
        simp only [setAll, List.foldl_cons, List.foldl_nil, List.setIfInBounds_toArray, List.set_cons_succ, List.set_cons_zero]
        have e37 := f24 (hD 24)
        rw [e37]
        clear f0 f1 f2 f3 f4 f5 f6 f7 f8 f9 f10 f11 f12 f13 f14 f15 f16 f17 f18 f19 f20 f21 f22 f23 f24 hD r0 r5 r6 e37
        have h2 := h1.keep (hbz.below _)
        obtain ⟨w2, hw2⟩ : ∃ w2, w2 = wz := ⟨_, rfl⟩
        subst hw2
        have hb2 := hb1.trans ((hbz.below _).mono hb1.size)
        have hr2 := hr1.below (hbz.below _) (Nat.le_refl _)
        clear hbz
        have k1 : w2.cell? ⟨p, 1, none⟩ = some (.int .i64 next) := h2.box.cell 1
        have fz1 := h2.box.frozen 1
        obtain ⟨w3, hw3⟩ : ∃ w3, w2.setCell ⟨p, 1, none⟩ (.int .i64 (next + 1)) = w3 := ⟨_, rfl⟩
        have hset := fr_set (S := fun g => g = p) (p := ⟨p, 1, none⟩) (w := w2) rfl (.int .i64 (next + 1))
        have hbox3 := h2.box.set_ 1 (.int .i64 (next + 1))
        have hall3 := h2.all.setCell (p := ⟨p, 1, none⟩) (fun e => map_blk h2.all h2.box e.symm) (.int .i64 (next + 1))
        have hnor3 := h2.norms.setCell (p := ⟨p, 1, none⟩) (fun e => map_blk h2.norms h2.box e.symm) (.int .i64 (next + 1))
        have hsho3 := h2.short.setCell (p := ⟨p, 1, none⟩) (fun e => map_blk h2.short h2.box e.symm) (.int .i64 (next + 1))
        have hby3 := h2.by_.setCell (p := ⟨p, 1, none⟩) (fun e => map_blk h2.by_ h2.box e.symm) (.int .i64 (next + 1))
        have hfre3 := hset.own h2.fresh (fun g hg e => own_blk_ne h2.fresh h2.box (by decide) (by rw [hg, e]))
        have hp2 : p < w2.heap.size := h2.box.lt
        have hpW : p < W.heap.size := h.box.lt
        have hmSW := hide h.short.lt
        have hfW := hide (show ∀ g : Nat, fv.ownBlock = some g → g < W.heap.size from fun g hg => by rcases own_cases h.fresh with ⟨h2, _⟩ | ⟨g2, cap, h2, _, h3, _⟩ <;> rw [h2] at hg <;> cases hg; exact h3)
        have hset2 := (Below.refl base w2).setCell (p := ⟨p, 1, none⟩) h2.lo.1 (.int .i64 (next + 1))
        have hr3 : Rd (w2.setCell ⟨p, 1, none⟩ (.int .i64 (next + 1))) A1 q (ivs (normC l)) := hset.rd hr2 (fun ad he e => by have := hlo1 ad he; omega)
        rw [hw3] at hset hbox3 hall3 hnor3 hsho3 hby3 hfre3 hset2 hr3
        have hfr3 := hide ((Fr.of_below (S := fun g => g = p ∨ g = mA ∨ g = mN ∨ g = mS ∨ fv.ownBlock = some g) hb2).trans (hset.more (fun g _ e => .inl e)))
        have hb3 := hide (((hb2.mono hbase).trans (hset2.mono (Nat.le_refl _))))
        have hsz3 : W.heap.size ≤ w3.heap.size := Nat.le_trans hb2.size hset2.size
        obtain ⟨d1, d2, d3, d4, d5, d6⟩ := h.d1
        have hlo := hide h.lo
        have k3 : w3.cell? ⟨p, 3, none⟩ = some (.map (some mN)) := hbox3.cell 3
        have k2 : w3.cell? ⟨p, 2, none⟩ = some (.map (some mA)) := hbox3.cell 2
        have hrd3 : ∀ ad0 : Addr, A1 = some ad0 → ¬ (ad0.block = mA ∨ ad0.block = mN) := fun ad0 he e => by
          have h7 := hlo1 ad0 he
          have h8 := h.all.lt
          have h9 := h.norms.lt
          omega
        have pN : ¬ (p = mA ∨ p = mN) := fun e => e.elim (map_blk hall3 hbox3) (map_blk hnor3 hbox3)
        replace hbox3 := hide (show Blk w3 p 131 (boxS n (next + 1) mA mN mS mB fv) from hbox3)
        replace hall3 := hide hall3
        replace hnor3 := hide hnor3
        replace hsho3 := hide hsho3
        replace hby3 := hide hby3
        replace hfre3 := hide hfre3
        replace hr3 := hide hr3
        replace hlo1 := hide hlo1
        replace hb2 := hide hb2
        clear h1 h2 hr2 hset hset2 hb1 h
        go_wp2
        refine wp_region_slots [49, 50, 51, 52, 53, 54, 55, 56, 57, 58, 59, 60, 61, 62, 63, 64, 65, 66, 67] (fun D g wz => g 0 = .pointer (some ⟨p, 0, none⟩) ∧ g 5 = .slice A1 q c1 ∧ g 7 = .int .i64 next ∧ Fr (fun g => g = mA ∨ g = mN) w3 wz ∧ (¬ D 15 → MapS wz Lt.encI mN nl) ∧ (D 15 → ¬ D 17 → ∃ c9 : Nat, g 64 = .tuple #[.slice none 0 0, .int .i64 (c9 : Int)] ∧ EntS wz Lt.encI mN (mput nl next (.slice none 0 0)) next c9) ∧ (¬ D 18 → MapS wz Lt.encI mA al) ∧ (D 18 → ¬ D 20 → ∃ c9 : Nat, g 66 = .tuple #[.pointer none, .int .i64 (c9 : Int)] ∧ EntS wz Lt.encI mA (mput al next (.pointer none)) next c9) ∧ (D 13 → D 12) ∧ (D 14 → D 13) ∧ (D 16 → D 15) ∧ (D 17 → D 15) ∧ (D 17 → D 16) ∧ (D 19 → D 18) ∧ (D 20 → D 18) ∧ (D 20 → D 19) ∧ (D 20 → D 14) ∧ (D 0 → g 49 = .pointer (some ⟨p, 0, none⟩)) ∧ (D 1 → g 50 = .pointer (some ⟨p, 0, none⟩)) ∧ (D 2 → g 51 = .pointer (some ⟨p, 3, none⟩)) ∧ (D 3 → g 52 = .map (some mN)) ∧ (D 4 → g 53 = .int .i64 next) ∧ (D 5 → g 54 = .pointer (some ⟨p, 0, none⟩)) ∧ (D 6 → g 55 = .pointer (some ⟨p, 0, none⟩)) ∧ (D 7 → g 56 = .pointer (some ⟨p, 2, none⟩)) ∧ (D 8 → g 57 = .map (some mA)) ∧ (D 9 → g 58 = .int .i64 next) ∧ (D 10 → g 59 = .slice A1 q c1) ∧ (D 11 → g 60 = .slice A1 q c1) ∧ (D 12 → ∃ sw : Sl, g 61 = sw.val ∧ sw.n = q ∧ wz.ownsRow w3.heap.size 3 1 sw.val q (ivs (normC l))) ∧ (D 13 → ∃ sw : Sl, g 61 = sw.val ∧ g 62 = .agg #[sw.val]) ∧ (D 14 → ∃ (sw : Sl) (b : Nat), g 61 = sw.val ∧ g 63 = .pointer (some ⟨b, 0, none⟩) ∧ w3.heap.size ≤ b ∧ Blk wz b 139 #[sw.val]) ∧ (D 15 → True) ∧ (D 16 → ∃ c9 : Nat, g 64 = .tuple #[.slice none 0 0, .int .i64 (c9 : Int)] ∧ g 65 = .int .i64 (c9 : Int)) ∧ (D 17 → MapS wz Lt.encI mN (mput nl next (.slice A1 q c1))) ∧ (D 18 → True) ∧ (D 19 → ∃ c9 : Nat, g 66 = .tuple #[.pointer none, .int .i64 (c9 : Int)] ∧ g 67 = .int .i64 (c9 : Int)) ∧ (D 20 → ∃ b : Nat, g 63 = .pointer (some ⟨b, 0, none⟩) ∧ MapS wz Lt.encI mA (mput al next (.pointer (some ⟨b, 0, none⟩))))) (by kernel_rfl) (by kernel_rfl) 87 rfl (by kernel_rfl) ?h0 ?hstep ?hdone
        case h0 => exact ⟨rfl, rfl, rfl, Fr.of_below ((Dr.refl w3).drew.below _), (fun _ => hnor3.out.dr (Dr.refl w3).drew), nt0, (fun _ => hall3.out.dr (Dr.refl w3).drew), nt0, nt0, nt0, nt0, nt0, nt0, nt0, nt0, nt0, nt0, nt0, nt0, nt0, nt0, nt0, nt0, nt0, nt0, nt0, nt0, nt0, nt0, nt0, nt0, nt0, nt0, nt0, nt0, nt0, nt0, nt0⟩
        case hstep =>
          intro D g wz i hi' hn hd' hI2
          obtain ⟨r0, r5, r7, hfz, v_N, u_N, v_A, u_A, c13, c14, c16, c17, e17, c19, c20, e20, g20, f0, f1, f2, f3, f4, f5, f6, f7, f8, f9, f10, f11, f12, f13, f14, f15, f16, f17, f18, f19, f20⟩ := hI2
          have hi' : i < 21 := hi'
          rcases (show i = 0 ∨ i = 1 ∨ i = 2 ∨ i = 3 ∨ i = 4 ∨ i = 5 ∨ i = 6 ∨ i = 7 ∨ i = 8 ∨ i = 9 ∨ i = 10 ∨ i = 11 ∨ i = 12 ∨ i = 13 ∨ i = 14 ∨ i = 15 ∨ i = 16 ∨ i = 17 ∨ i = 18 ∨ i = 19 ∨ i = 20 by omega) with rfl | rfl | rfl | rfl | rfl | rfl | rfl | rfl | rfl | rfl | rfl | rfl | rfl | rfl | rfl | rfl | rfl | rfl | rfl | rfl | rfl
          · -- 0
            refine slot_step rfl rfl (fun az hs K hK => ?_)
            have hK : Shut _ := hK
            have e0 := hs.get 0
            rw [r0] at e0
            go_simp
            exact hK.out _ _ ⟨r0, r5, r7, hfz, (fun h => v_N (fun e => h (Or.inr e))), (fun h h' => u_N (h.resolve_left (by decide)) (fun e => h' (Or.inr e))), (fun h => v_A (fun e => h (Or.inr e))), (fun h h' => u_A (h.resolve_left (by decide)) (fun e => h' (Or.inr e))), (fun h => h.elim (fun e => absurd e (by decide)) (fun h => Or.inr (c13 h))), (fun h => h.elim (fun e => absurd e (by decide)) (fun h => Or.inr (c14 h))), (fun h => h.elim (fun e => absurd e (by decide)) (fun h => Or.inr (c16 h))), (fun h => h.elim (fun e => absurd e (by decide)) (fun h => Or.inr (c17 h))), (fun h => h.elim (fun e => absurd e (by decide)) (fun h => Or.inr (e17 h))), (fun h => h.elim (fun e => absurd e (by decide)) (fun h => Or.inr (c19 h))), (fun h => h.elim (fun e => absurd e (by decide)) (fun h => Or.inr (c20 h))), (fun h => h.elim (fun e => absurd e (by decide)) (fun h => Or.inr (e20 h))), (fun h => h.elim (fun e => absurd e (by decide)) (fun h => Or.inr (g20 h))), fun _ => rfl, kp f1, kp f2, kp f3, kp f4, kp f5, kp f6, kp f7, kp f8, kp f9, kp f10, kp f11, kp f12, kp f13, kp f14, kp f15, kp f16, kp f17, kp f18, kp f19, kp f20⟩
          · -- 1
            have d0 := f0 (hd' 0 (by kernel_rfl))
            refine slot_step rfl rfl (fun az hs K hK => ?_)
            have hK : Shut _ := hK
            have e49 := hs.get 49
            rw [d0] at e49
            go_simp
            exact hK.out _ _ ⟨r0, r5, r7, hfz, (fun h => v_N (fun e => h (Or.inr e))), (fun h h' => u_N (h.resolve_left (by decide)) (fun e => h' (Or.inr e))), (fun h => v_A (fun e => h (Or.inr e))), (fun h h' => u_A (h.resolve_left (by decide)) (fun e => h' (Or.inr e))), (fun h => h.elim (fun e => absurd e (by decide)) (fun h => Or.inr (c13 h))), (fun h => h.elim (fun e => absurd e (by decide)) (fun h => Or.inr (c14 h))), (fun h => h.elim (fun e => absurd e (by decide)) (fun h => Or.inr (c16 h))), (fun h => h.elim (fun e => absurd e (by decide)) (fun h => Or.inr (c17 h))), (fun h => h.elim (fun e => absurd e (by decide)) (fun h => Or.inr (e17 h))), (fun h => h.elim (fun e => absurd e (by decide)) (fun h => Or.inr (c19 h))), (fun h => h.elim (fun e => absurd e (by decide)) (fun h => Or.inr (c20 h))), (fun h => h.elim (fun e => absurd e (by decide)) (fun h => Or.inr (e20 h))), (fun h => h.elim (fun e => absurd e (by decide)) (fun h => Or.inr (g20 h))), kp f0, fun _ => rfl, kp f2, kp f3, kp f4, kp f5, kp f6, kp f7, kp f8, kp f9, kp f10, kp f11, kp f12, kp f13, kp f14, kp f15, kp f16, kp f17, kp f18, kp f19, kp f20⟩
          · -- 2
            have d1 := f1 (hd' 1 (by kernel_rfl))
            refine slot_step rfl rfl (fun az hs K hK => ?_)
            have hK : Shut _ := hK
            have e50 := hs.get 50
            rw [d1] at e50
            go_simp
            exact hK.out _ _ ⟨r0, r5, r7, hfz, (fun h => v_N (fun e => h (Or.inr e))), (fun h h' => u_N (h.resolve_left (by decide)) (fun e => h' (Or.inr e))), (fun h => v_A (fun e => h (Or.inr e))), (fun h h' => u_A (h.resolve_left (by decide)) (fun e => h' (Or.inr e))), (fun h => h.elim (fun e => absurd e (by decide)) (fun h => Or.inr (c13 h))), (fun h => h.elim (fun e => absurd e (by decide)) (fun h => Or.inr (c14 h))), (fun h => h.elim (fun e => absurd e (by decide)) (fun h => Or.inr (c16 h))), (fun h => h.elim (fun e => absurd e (by decide)) (fun h => Or.inr (c17 h))), (fun h => h.elim (fun e => absurd e (by decide)) (fun h => Or.inr (e17 h))), (fun h => h.elim (fun e => absurd e (by decide)) (fun h => Or.inr (c19 h))), (fun h => h.elim (fun e => absurd e (by decide)) (fun h => Or.inr (c20 h))), (fun h => h.elim (fun e => absurd e (by decide)) (fun h => Or.inr (e20 h))), (fun h => h.elim (fun e => absurd e (by decide)) (fun h => Or.inr (g20 h))), kp f0, kp f1, fun _ => rfl, kp f3, kp f4, kp f5, kp f6, kp f7, kp f8, kp f9, kp f10, kp f11, kp f12, kp f13, kp f14, kp f15, kp f16, kp f17, kp f18, kp f19, kp f20⟩
          · -- 3
            have d2 := f2 (hd' 2 (by kernel_rfl))
            refine slot_step rfl rfl (fun az hs K hK => ?_)
            have hK : Shut _ := hK
            have cz := hfz.cell k3 pN
            have e51 := hs.get 51
            rw [d2] at e51
            go_simp
            exact hK.out _ _ ⟨r0, r5, r7, hfz, (fun h => v_N (fun e => h (Or.inr e))), (fun h h' => u_N (h.resolve_left (by decide)) (fun e => h' (Or.inr e))), (fun h => v_A (fun e => h (Or.inr e))), (fun h h' => u_A (h.resolve_left (by decide)) (fun e => h' (Or.inr e))), (fun h => h.elim (fun e => absurd e (by decide)) (fun h => Or.inr (c13 h))), (fun h => h.elim (fun e => absurd e (by decide)) (fun h => Or.inr (c14 h))), (fun h => h.elim (fun e => absurd e (by decide)) (fun h => Or.inr (c16 h))), (fun h => h.elim (fun e => absurd e (by decide)) (fun h => Or.inr (c17 h))), (fun h => h.elim (fun e => absurd e (by decide)) (fun h => Or.inr (e17 h))), (fun h => h.elim (fun e => absurd e (by decide)) (fun h => Or.inr (c19 h))), (fun h => h.elim (fun e => absurd e (by decide)) (fun h => Or.inr (c20 h))), (fun h => h.elim (fun e => absurd e (by decide)) (fun h => Or.inr (e20 h))), (fun h => h.elim (fun e => absurd e (by decide)) (fun h => Or.inr (g20 h))), kp f0, kp f1, kp f2, fun _ => rfl, kp f4, kp f5, kp f6, kp f7, kp f8, kp f9, kp f10, kp f11, kp f12, kp f13, kp f14, kp f15, kp f16, kp f17, kp f18, kp f19, kp f20⟩
          · -- 4
            refine slot_step rfl rfl (fun az hs K hK => ?_)
            have hK : Shut _ := hK
            have e7 := hs.get 7
            rw [r7] at e7
            go_simp
            exact hK.out _ _ ⟨r0, r5, r7, hfz, (fun h => v_N (fun e => h (Or.inr e))), (fun h h' => u_N (h.resolve_left (by decide)) (fun e => h' (Or.inr e))), (fun h => v_A (fun e => h (Or.inr e))), (fun h h' => u_A (h.resolve_left (by decide)) (fun e => h' (Or.inr e))), (fun h => h.elim (fun e => absurd e (by decide)) (fun h => Or.inr (c13 h))), (fun h => h.elim (fun e => absurd e (by decide)) (fun h => Or.inr (c14 h))), (fun h => h.elim (fun e => absurd e (by decide)) (fun h => Or.inr (c16 h))), (fun h => h.elim (fun e => absurd e (by decide)) (fun h => Or.inr (c17 h))), (fun h => h.elim (fun e => absurd e (by decide)) (fun h => Or.inr (e17 h))), (fun h => h.elim (fun e => absurd e (by decide)) (fun h => Or.inr (c19 h))), (fun h => h.elim (fun e => absurd e (by decide)) (fun h => Or.inr (c20 h))), (fun h => h.elim (fun e => absurd e (by decide)) (fun h => Or.inr (e20 h))), (fun h => h.elim (fun e => absurd e (by decide)) (fun h => Or.inr (g20 h))), kp f0, kp f1, kp f2, kp f3, fun _ => rfl, kp f5, kp f6, kp f7, kp f8, kp f9, kp f10, kp f11, kp f12, kp f13, kp f14, kp f15, kp f16, kp f17, kp f18, kp f19, kp f20⟩
          · -- 5
            refine slot_step rfl rfl (fun az hs K hK => ?_)
            have hK : Shut _ := hK
            have e0 := hs.get 0
            rw [r0] at e0
            go_simp
            exact hK.out _ _ ⟨r0, r5, r7, hfz, (fun h => v_N (fun e => h (Or.inr e))), (fun h h' => u_N (h.resolve_left (by decide)) (fun e => h' (Or.inr e))), (fun h => v_A (fun e => h (Or.inr e))), (fun h h' => u_A (h.resolve_left (by decide)) (fun e => h' (Or.inr e))), (fun h => h.elim (fun e => absurd e (by decide)) (fun h => Or.inr (c13 h))), (fun h => h.elim (fun e => absurd e (by decide)) (fun h => Or.inr (c14 h))), (fun h => h.elim (fun e => absurd e (by decide)) (fun h => Or.inr (c16 h))), (fun h => h.elim (fun e => absurd e (by decide)) (fun h => Or.inr (c17 h))), (fun h => h.elim (fun e => absurd e (by decide)) (fun h => Or.inr (e17 h))), (fun h => h.elim (fun e => absurd e (by decide)) (fun h => Or.inr (c19 h))), (fun h => h.elim (fun e => absurd e (by decide)) (fun h => Or.inr (c20 h))), (fun h => h.elim (fun e => absurd e (by decide)) (fun h => Or.inr (e20 h))), (fun h => h.elim (fun e => absurd e (by decide)) (fun h => Or.inr (g20 h))), kp f0, kp f1, kp f2, kp f3, kp f4, fun _ => rfl, kp f6, kp f7, kp f8, kp f9, kp f10, kp f11, kp f12, kp f13, kp f14, kp f15, kp f16, kp f17, kp f18, kp f19, kp f20⟩
          · -- 6
            have d5 := f5 (hd' 5 (by kernel_rfl))
            refine slot_step rfl rfl (fun az hs K hK => ?_)
            have hK : Shut _ := hK
            have e54 := hs.get 54
            rw [d5] at e54
            go_simp
            exact hK.out _ _ ⟨r0, r5, r7, hfz, (fun h => v_N (fun e => h (Or.inr e))), (fun h h' => u_N (h.resolve_left (by decide)) (fun e => h' (Or.inr e))), (fun h => v_A (fun e => h (Or.inr e))), (fun h h' => u_A (h.resolve_left (by decide)) (fun e => h' (Or.inr e))), (fun h => h.elim (fun e => absurd e (by decide)) (fun h => Or.inr (c13 h))), (fun h => h.elim (fun e => absurd e (by decide)) (fun h => Or.inr (c14 h))), (fun h => h.elim (fun e => absurd e (by decide)) (fun h => Or.inr (c16 h))), (fun h => h.elim (fun e => absurd e (by decide)) (fun h => Or.inr (c17 h))), (fun h => h.elim (fun e => absurd e (by decide)) (fun h => Or.inr (e17 h))), (fun h => h.elim (fun e => absurd e (by decide)) (fun h => Or.inr (c19 h))), (fun h => h.elim (fun e => absurd e (by decide)) (fun h => Or.inr (c20 h))), (fun h => h.elim (fun e => absurd e (by decide)) (fun h => Or.inr (e20 h))), (fun h => h.elim (fun e => absurd e (by decide)) (fun h => Or.inr (g20 h))), kp f0, kp f1, kp f2, kp f3, kp f4, kp f5, fun _ => rfl, kp f7, kp f8, kp f9, kp f10, kp f11, kp f12, kp f13, kp f14, kp f15, kp f16, kp f17, kp f18, kp f19, kp f20⟩
          · -- 7
            have d6 := f6 (hd' 6 (by kernel_rfl))
            refine slot_step rfl rfl (fun az hs K hK => ?_)
            have hK : Shut _ := hK
            have e55 := hs.get 55
            rw [d6] at e55
            go_simp
            exact hK.out _ _ ⟨r0, r5, r7, hfz, (fun h => v_N (fun e => h (Or.inr e))), (fun h h' => u_N (h.resolve_left (by decide)) (fun e => h' (Or.inr e))), (fun h => v_A (fun e => h (Or.inr e))), (fun h h' => u_A (h.resolve_left (by decide)) (fun e => h' (Or.inr e))), (fun h => h.elim (fun e => absurd e (by decide)) (fun h => Or.inr (c13 h))), (fun h => h.elim (fun e => absurd e (by decide)) (fun h => Or.inr (c14 h))), (fun h => h.elim (fun e => absurd e (by decide)) (fun h => Or.inr (c16 h))), (fun h => h.elim (fun e => absurd e (by decide)) (fun h => Or.inr (c17 h))), (fun h => h.elim (fun e => absurd e (by decide)) (fun h => Or.inr (e17 h))), (fun h => h.elim (fun e => absurd e (by decide)) (fun h => Or.inr (c19 h))), (fun h => h.elim (fun e => absurd e (by decide)) (fun h => Or.inr (c20 h))), (fun h => h.elim (fun e => absurd e (by decide)) (fun h => Or.inr (e20 h))), (fun h => h.elim (fun e => absurd e (by decide)) (fun h => Or.inr (g20 h))), kp f0, kp f1, kp f2, kp f3, kp f4, kp f5, kp f6, fun _ => rfl, kp f8, kp f9, kp f10, kp f11, kp f12, kp f13, kp f14, kp f15, kp f16, kp f17, kp f18, kp f19, kp f20⟩
          · -- 8
            have d7 := f7 (hd' 7 (by kernel_rfl))
            refine slot_step rfl rfl (fun az hs K hK => ?_)
            have hK : Shut _ := hK
            have cz := hfz.cell k2 pN
            have e56 := hs.get 56
            rw [d7] at e56
            go_simp
            exact hK.out _ _ ⟨r0, r5, r7, hfz, (fun h => v_N (fun e => h (Or.inr e))), (fun h h' => u_N (h.resolve_left (by decide)) (fun e => h' (Or.inr e))), (fun h => v_A (fun e => h (Or.inr e))), (fun h h' => u_A (h.resolve_left (by decide)) (fun e => h' (Or.inr e))), (fun h => h.elim (fun e => absurd e (by decide)) (fun h => Or.inr (c13 h))), (fun h => h.elim (fun e => absurd e (by decide)) (fun h => Or.inr (c14 h))), (fun h => h.elim (fun e => absurd e (by decide)) (fun h => Or.inr (c16 h))), (fun h => h.elim (fun e => absurd e (by decide)) (fun h => Or.inr (c17 h))), (fun h => h.elim (fun e => absurd e (by decide)) (fun h => Or.inr (e17 h))), (fun h => h.elim (fun e => absurd e (by decide)) (fun h => Or.inr (c19 h))), (fun h => h.elim (fun e => absurd e (by decide)) (fun h => Or.inr (c20 h))), (fun h => h.elim (fun e => absurd e (by decide)) (fun h => Or.inr (e20 h))), (fun h => h.elim (fun e => absurd e (by decide)) (fun h => Or.inr (g20 h))), kp f0, kp f1, kp f2, kp f3, kp f4, kp f5, kp f6, kp f7, fun _ => rfl, kp f9, kp f10, kp f11, kp f12, kp f13, kp f14, kp f15, kp f16, kp f17, kp f18, kp f19, kp f20⟩
          · -- 9
            refine slot_step rfl rfl (fun az hs K hK => ?_)
            have hK : Shut _ := hK
            have e7 := hs.get 7
            rw [r7] at e7
            go_simp
            exact hK.out _ _ ⟨r0, r5, r7, hfz, (fun h => v_N (fun e => h (Or.inr e))), (fun h h' => u_N (h.resolve_left (by decide)) (fun e => h' (Or.inr e))), (fun h => v_A (fun e => h (Or.inr e))), (fun h h' => u_A (h.resolve_left (by decide)) (fun e => h' (Or.inr e))), (fun h => h.elim (fun e => absurd e (by decide)) (fun h => Or.inr (c13 h))), (fun h => h.elim (fun e => absurd e (by decide)) (fun h => Or.inr (c14 h))), (fun h => h.elim (fun e => absurd e (by decide)) (fun h => Or.inr (c16 h))), (fun h => h.elim (fun e => absurd e (by decide)) (fun h => Or.inr (c17 h))), (fun h => h.elim (fun e => absurd e (by decide)) (fun h => Or.inr (e17 h))), (fun h => h.elim (fun e => absurd e (by decide)) (fun h => Or.inr (c19 h))), (fun h => h.elim (fun e => absurd e (by decide)) (fun h => Or.inr (c20 h))), (fun h => h.elim (fun e => absurd e (by decide)) (fun h => Or.inr (e20 h))), (fun h => h.elim (fun e => absurd e (by decide)) (fun h => Or.inr (g20 h))), kp f0, kp f1, kp f2, kp f3, kp f4, kp f5, kp f6, kp f7, kp f8, fun _ => rfl, kp f10, kp f11, kp f12, kp f13, kp f14, kp f15, kp f16, kp f17, kp f18, kp f19, kp f20⟩
          · -- 10
            refine slot_step rfl rfl (fun az hs K hK => ?_)
            have hK : Shut _ := hK
            have e5 := hs.get 5
            rw [r5] at e5
            go_simp
            exact hK.out _ _ ⟨r0, r5, r7, hfz, (fun h => v_N (fun e => h (Or.inr e))), (fun h h' => u_N (h.resolve_left (by decide)) (fun e => h' (Or.inr e))), (fun h => v_A (fun e => h (Or.inr e))), (fun h h' => u_A (h.resolve_left (by decide)) (fun e => h' (Or.inr e))), (fun h => h.elim (fun e => absurd e (by decide)) (fun h => Or.inr (c13 h))), (fun h => h.elim (fun e => absurd e (by decide)) (fun h => Or.inr (c14 h))), (fun h => h.elim (fun e => absurd e (by decide)) (fun h => Or.inr (c16 h))), (fun h => h.elim (fun e => absurd e (by decide)) (fun h => Or.inr (c17 h))), (fun h => h.elim (fun e => absurd e (by decide)) (fun h => Or.inr (e17 h))), (fun h => h.elim (fun e => absurd e (by decide)) (fun h => Or.inr (c19 h))), (fun h => h.elim (fun e => absurd e (by decide)) (fun h => Or.inr (c20 h))), (fun h => h.elim (fun e => absurd e (by decide)) (fun h => Or.inr (e20 h))), (fun h => h.elim (fun e => absurd e (by decide)) (fun h => Or.inr (g20 h))), kp f0, kp f1, kp f2, kp f3, kp f4, kp f5, kp f6, kp f7, kp f8, kp f9, fun _ => rfl, kp f11, kp f12, kp f13, kp f14, kp f15, kp f16, kp f17, kp f18, kp f19, kp f20⟩
          · -- 11
            refine slot_step rfl rfl (fun az hs K hK => ?_)
            have hK : Shut _ := hK
            have e5 := hs.get 5
            rw [r5] at e5
            go_simp
            exact hK.out _ _ ⟨r0, r5, r7, hfz, (fun h => v_N (fun e => h (Or.inr e))), (fun h h' => u_N (h.resolve_left (by decide)) (fun e => h' (Or.inr e))), (fun h => v_A (fun e => h (Or.inr e))), (fun h h' => u_A (h.resolve_left (by decide)) (fun e => h' (Or.inr e))), (fun h => h.elim (fun e => absurd e (by decide)) (fun h => Or.inr (c13 h))), (fun h => h.elim (fun e => absurd e (by decide)) (fun h => Or.inr (c14 h))), (fun h => h.elim (fun e => absurd e (by decide)) (fun h => Or.inr (c16 h))), (fun h => h.elim (fun e => absurd e (by decide)) (fun h => Or.inr (c17 h))), (fun h => h.elim (fun e => absurd e (by decide)) (fun h => Or.inr (e17 h))), (fun h => h.elim (fun e => absurd e (by decide)) (fun h => Or.inr (c19 h))), (fun h => h.elim (fun e => absurd e (by decide)) (fun h => Or.inr (c20 h))), (fun h => h.elim (fun e => absurd e (by decide)) (fun h => Or.inr (e20 h))), (fun h => h.elim (fun e => absurd e (by decide)) (fun h => Or.inr (g20 h))), kp f0, kp f1, kp f2, kp f3, kp f4, kp f5, kp f6, kp f7, kp f8, kp f9, kp f10, fun _ => rfl, kp f12, kp f13, kp f14, kp f15, kp f16, kp f17, kp f18, kp f19, kp f20⟩
          · -- 12
            have d11 := f11 (hd' 11 (by kernel_rfl))
            refine slot_step rfl rfl (fun az hs K hK => ?_)
            have hK : Shut _ := hK
            have e60 := hs.get 60
            rw [d11] at e60
            go_wp2_with (go_at_call 108; refine (slices_Clone A1 q c1 (normC l) wz (by omega) (hfz.rd hr3.out hrd3)).mono ?_; rintro e wy ⟨v2, rfl, hown2, hbw⟩; obtain ⟨A2, c2, rfl, _, _, _⟩ := Rd.of_own hown2)
            exact ⟨r0, r5, r7, hfz.trans (Fr.of_below hbw), (fun h => (v_N (fun e => h (Or.inr e))).below hbw (v_N (fun e => h (Or.inr e))).lt), (fun h h' => let ⟨c, a1, a2⟩ := u_N (h.resolve_left (by decide)) (fun e => h' (Or.inr e)); ⟨c, a1, a2.block (hbw.block _ a2.mapS.lt)⟩), (fun h => (v_A (fun e => h (Or.inr e))).below hbw (v_A (fun e => h (Or.inr e))).lt), (fun h h' => let ⟨c, a1, a2⟩ := u_A (h.resolve_left (by decide)) (fun e => h' (Or.inr e)); ⟨c, a1, a2.block (hbw.block _ a2.mapS.lt)⟩), (fun h => h.elim (fun e => absurd e (by decide)) (fun h => Or.inr (c13 h))), (fun h => h.elim (fun e => absurd e (by decide)) (fun h => Or.inr (c14 h))), (fun h => h.elim (fun e => absurd e (by decide)) (fun h => Or.inr (c16 h))), (fun h => h.elim (fun e => absurd e (by decide)) (fun h => Or.inr (c17 h))), (fun h => h.elim (fun e => absurd e (by decide)) (fun h => Or.inr (e17 h))), (fun h => h.elim (fun e => absurd e (by decide)) (fun h => Or.inr (c19 h))), (fun h => h.elim (fun e => absurd e (by decide)) (fun h => Or.inr (c20 h))), (fun h => h.elim (fun e => absurd e (by decide)) (fun h => Or.inr (e20 h))), (fun h => h.elim (fun e => absurd e (by decide)) (fun h => Or.inr (g20 h))), kp f0, kp f1, kp f2, kp f3, kp f4, kp f5, kp f6, kp f7, kp f8, kp f9, kp f10, kp f11, fun _ => ⟨⟨A2, q, c2⟩, rfl, rfl, own_base hown2 hfz.size⟩, fun h => h.elim (fun e => absurd e (by decide)) (fun h => absurd (c13 h) hn), fun h => h.elim (fun e => absurd e (by decide)) (fun h => absurd (c13 (c14 h)) hn), kp f15, kp f16, fun h => h.elim (fun e => absurd e (by decide)) (fun h => (f17 h).below hbw (f17 h).lt), kp f18, kp f19, fun h => h.elim (fun e => absurd e (by decide)) (fun h => let ⟨b, a1, a2⟩ := f20 h; ⟨b, a1, a2.below hbw a2.lt⟩)⟩
          · -- 13
            have d12 := f12 (hd' 12 (by kernel_rfl))
            refine slot_step rfl rfl (fun az hs K hK => ?_)
            have hK : Shut _ := hK
            obtain ⟨⟨A2, n2, c2⟩, es, _⟩ := d12
            simp only [Sl.val] at es
            refine oper_buildW (.tmp 61) rfl A2 n2 c2 (hs.eval es) ?_
            exact hK.out (.agg #[.slice A2 n2 c2]) _ ⟨r0, r5, r7, hfz, (fun h => v_N (fun e => h (Or.inr e))), (fun h h' => u_N (h.resolve_left (by decide)) (fun e => h' (Or.inr e))), (fun h => v_A (fun e => h (Or.inr e))), (fun h h' => u_A (h.resolve_left (by decide)) (fun e => h' (Or.inr e))), (fun _ => Or.inr (hd' 12 (by kernel_rfl))), (fun h => h.elim (fun e => absurd e (by decide)) (fun h => Or.inr (c14 h))), (fun h => h.elim (fun e => absurd e (by decide)) (fun h => Or.inr (c16 h))), (fun h => h.elim (fun e => absurd e (by decide)) (fun h => Or.inr (c17 h))), (fun h => h.elim (fun e => absurd e (by decide)) (fun h => Or.inr (e17 h))), (fun h => h.elim (fun e => absurd e (by decide)) (fun h => Or.inr (c19 h))), (fun h => h.elim (fun e => absurd e (by decide)) (fun h => Or.inr (c20 h))), (fun h => h.elim (fun e => absurd e (by decide)) (fun h => Or.inr (e20 h))), (fun h => h.elim (fun e => absurd e (by decide)) (fun h => Or.inr (g20 h))), kp f0, kp f1, kp f2, kp f3, kp f4, kp f5, kp f6, kp f7, kp f8, kp f9, kp f10, kp f11, kp f12, fun _ => ⟨⟨A2, n2, c2⟩, es, rfl⟩, kp f14, kp f15, kp f16, kp f17, kp f18, kp f19, kp f20⟩
          · -- 14
            have d13 := f13 (hd' 13 (by kernel_rfl))
            refine slot_step rfl rfl (fun az hs K hK => ?_)
            have hK : Shut _ := hK
            obtain ⟨⟨A2, n2, c2⟩, es, e2⟩ := d13
            simp only [Sl.val] at e2
            have hbw := (Below.refl wz.heap.size wz).alloc (Nat.le_refl _) (.cells #[.slice A2 n2 c2] 139)
            refine oper_boxW (.tmp 62) rfl A2 n2 c2 (hs.eval e2) ?_
            exact hK.out (.pointer (some ⟨wz.heap.size, 0, none⟩)) (wz.alloc (.cells #[.slice A2 n2 c2] 139)) ⟨r0, r5, r7, hfz.trans (Fr.of_below hbw), (fun h => (v_N (fun e => h (Or.inr e))).below hbw (v_N (fun e => h (Or.inr e))).lt), (fun h h' => let ⟨c, a1, a2⟩ := u_N (h.resolve_left (by decide)) (fun e => h' (Or.inr e)); ⟨c, a1, a2.block (hbw.block _ a2.mapS.lt)⟩), (fun h => (v_A (fun e => h (Or.inr e))).below hbw (v_A (fun e => h (Or.inr e))).lt), (fun h h' => let ⟨c, a1, a2⟩ := u_A (h.resolve_left (by decide)) (fun e => h' (Or.inr e)); ⟨c, a1, a2.block (hbw.block _ a2.mapS.lt)⟩), (fun h => h.elim (fun e => absurd e (by decide)) (fun h => Or.inr (c13 h))), (fun _ => Or.inr (hd' 13 (by kernel_rfl))), (fun h => h.elim (fun e => absurd e (by decide)) (fun h => Or.inr (c16 h))), (fun h => h.elim (fun e => absurd e (by decide)) (fun h => Or.inr (c17 h))), (fun h => h.elim (fun e => absurd e (by decide)) (fun h => Or.inr (e17 h))), (fun h => h.elim (fun e => absurd e (by decide)) (fun h => Or.inr (c19 h))), (fun h => h.elim (fun e => absurd e (by decide)) (fun h => Or.inr (c20 h))), (fun h => h.elim (fun e => absurd e (by decide)) (fun h => Or.inr (e20 h))), (fun h => h.elim (fun e => absurd e (by decide)) (fun h => Or.inr (g20 h))), kp f0, kp f1, kp f2, kp f3, kp f4, kp f5, kp f6, kp f7, kp f8, kp f9, kp f10, kp f11, fun h => h.elim (fun e => absurd e (by decide)) (fun h => let ⟨sw, a1, a2, a3⟩ := f12 h; ⟨sw, a1, a2, own_keep a3 hbw⟩), kp f13, fun _ => ⟨⟨A2, n2, c2⟩, wz.heap.size, es, rfl, hfz.size, Blk.new wz _ _⟩, kp f15, kp f16, fun h => h.elim (fun e => absurd e (by decide)) (fun h => (f17 h).below hbw (f17 h).lt), kp f18, kp f19, fun h => h.elim (fun e => absurd e (by decide)) (fun h => absurd (g20 h) hn)⟩
          · -- 15
            have d3 := f3 (hd' 3 (by kernel_rfl))
            have d4 := f4 (hd' 4 (by kernel_rfl))
            refine slot_step rfl rfl (fun az hs K hK => ?_)
            have hK : Shut _ := hK
            have e52 := hs.get 52
            rw [d3] at e52
            have e53 := hs.get 53
            rw [d4] at e53
            refine oper_entryNew (keyLaw_int Try.underlying3) mapNU zero_sl (.tmp 52) (.tmp 53) rfl (v_N hn) next hnN (hs.eval d3) (hs.eval d4) ?_
            intro wy c9 hent hgr hsz9
            exact hK.out _ _ ⟨r0, r5, r7, hfz.trans (Fr.of_grown hgr (fun q e => .inl (by cases e; exact .inr rfl))), (fun h => (h (by simp)).elim), (fun _ _ => ⟨c9, rfl, hent⟩), (fun h => (v_A (fun e => h (Or.inr e))).grown hgr (by simp; exact d1)), (fun h h' => let ⟨c, a1, a2⟩ := u_A (h.resolve_left (by decide)) (fun e => h' (Or.inr e)); ⟨c, a1, a2.block (hgr.block _ a2.mapS.lt (by simp; exact d1))⟩), (fun h => h.elim (fun e => absurd e (by decide)) (fun h => Or.inr (c13 h))), (fun h => h.elim (fun e => absurd e (by decide)) (fun h => Or.inr (c14 h))), (fun h => h.elim (fun e => absurd e (by decide)) (fun h => Or.inr (c16 h))), (fun h => h.elim (fun e => absurd e (by decide)) (fun h => Or.inr (c17 h))), (fun h => h.elim (fun e => absurd e (by decide)) (fun h => Or.inr (e17 h))), (fun h => h.elim (fun e => absurd e (by decide)) (fun h => Or.inr (c19 h))), (fun h => h.elim (fun e => absurd e (by decide)) (fun h => Or.inr (c20 h))), (fun h => h.elim (fun e => absurd e (by decide)) (fun h => Or.inr (e20 h))), (fun h => h.elim (fun e => absurd e (by decide)) (fun h => Or.inr (g20 h))), kp f0, kp f1, kp f2, kp f3, kp f4, kp f5, kp f6, kp f7, kp f8, kp f9, kp f10, kp f11, fun h => h.elim (fun e => absurd e (by decide)) (fun h => let ⟨sw, a1, a2, a3⟩ := f12 h; ⟨sw, a1, a2, a3.kept hgr (.inr (fun e => own_map_ne a3 (v_N hn) e.symm))⟩), kp f13, fun h => h.elim (fun e => absurd e (by decide)) (fun h => let ⟨sw, b, a1, a2, a3, a4⟩ := f14 h; ⟨sw, b, a1, a2, a3, a4.grown hgr (by simp; exact map_blk (v_N hn) a4)⟩), fun _ => trivial, fun h => h.elim (fun e => absurd e (by decide)) (fun h => absurd (c16 h) hn), fun h => h.elim (fun e => absurd e (by decide)) (fun h => absurd (c17 h) hn), kp f18, kp f19, fun h => h.elim (fun e => absurd e (by decide)) (fun h => let ⟨b, a1, a2⟩ := f20 h; ⟨b, a1, a2.grown hgr (by simp; exact d1)⟩)⟩
          · -- 16
            have d15 := f15 (hd' 15 (by kernel_rfl))
            refine slot_step rfl rfl (fun az hs K hK => ?_)
            have hK : Shut _ := hK
            obtain ⟨c9, et, _⟩ := u_N (hd' 15 (by kernel_rfl)) (fun e => hn (e17 e))
            have e64 := hs.get 64
            rw [et] at e64
            go_simp
            exact hK.out _ _ ⟨r0, r5, r7, hfz, (fun h => v_N (fun e => h (Or.inr e))), (fun h h' => u_N (h.resolve_left (by decide)) (fun e => h' (Or.inr e))), (fun h => v_A (fun e => h (Or.inr e))), (fun h h' => u_A (h.resolve_left (by decide)) (fun e => h' (Or.inr e))), (fun h => h.elim (fun e => absurd e (by decide)) (fun h => Or.inr (c13 h))), (fun h => h.elim (fun e => absurd e (by decide)) (fun h => Or.inr (c14 h))), (fun _ => Or.inr (hd' 15 (by kernel_rfl))), (fun h => h.elim (fun e => absurd e (by decide)) (fun h => Or.inr (c17 h))), (fun h => h.elim (fun e => absurd e (by decide)) (fun h => Or.inr (e17 h))), (fun h => h.elim (fun e => absurd e (by decide)) (fun h => Or.inr (c19 h))), (fun h => h.elim (fun e => absurd e (by decide)) (fun h => Or.inr (c20 h))), (fun h => h.elim (fun e => absurd e (by decide)) (fun h => Or.inr (e20 h))), (fun h => h.elim (fun e => absurd e (by decide)) (fun h => Or.inr (g20 h))), kp f0, kp f1, kp f2, kp f3, kp f4, kp f5, kp f6, kp f7, kp f8, kp f9, kp f10, kp f11, kp f12, kp f13, kp f14, kp f15, fun _ => ⟨c9, et, rfl⟩, kp f17, kp f18, kp f19, kp f20⟩
          · -- 17
            have d3 := f3 (hd' 3 (by kernel_rfl))
            have d16 := f16 (hd' 16 (by kernel_rfl))
            have d10 := f10 (hd' 10 (by kernel_rfl))
            refine slot_step rfl rfl (fun az hs K hK => ?_)
            have hK : Shut _ := hK
            obtain ⟨c9, et, e5⟩ := d16
            obtain ⟨c8, et2, hent⟩ := u_N (c16 (hd' 16 (by kernel_rfl))) hn
            rw [et] at et2
            injection et2 with et2
            simp only [Array.mk.injEq, List.cons.injEq, Value.int.injEq, true_and, and_true] at et2
            have et3 : c9 = c8 := by omega
            subst et3
            have e52 := hs.get 52
            rw [d3] at e52
            have e59 := hs.get 59
            rw [d10] at e59
            refine oper_entryStore encI_inj (.tmp 52) (.tmp 65) (.tmp 59) rfl hent (.slice A1 q c1) (hs.eval d3) (hs.eval e5) (hs.eval d10) ?_
            intro wy hmap hgr hsz9
            rw [mput_twice] at hmap
            exact hK.out undef _ ⟨r0, r5, r7, hfz.trans (Fr.of_grown hgr (fun q e => .inl (by cases e; exact .inr rfl))), (fun h => (h (Or.inr (c16 (hd' 16 (by kernel_rfl))))).elim), (fun _ h' => (h' (by simp)).elim), (fun h => (v_A (fun e => h (Or.inr e))).grown hgr (by simp; exact d1)), (fun h h' => let ⟨c, a1, a2⟩ := u_A (h.resolve_left (by decide)) (fun e => h' (Or.inr e)); ⟨c, a1, a2.block (hgr.block _ a2.mapS.lt (by simp; exact d1))⟩), (fun h => h.elim (fun e => absurd e (by decide)) (fun h => Or.inr (c13 h))), (fun h => h.elim (fun e => absurd e (by decide)) (fun h => Or.inr (c14 h))), (fun h => h.elim (fun e => absurd e (by decide)) (fun h => Or.inr (c16 h))), (fun _ => Or.inr (c16 (hd' 16 (by kernel_rfl)))), (fun _ => Or.inr (hd' 16 (by kernel_rfl))), (fun h => h.elim (fun e => absurd e (by decide)) (fun h => Or.inr (c19 h))), (fun h => h.elim (fun e => absurd e (by decide)) (fun h => Or.inr (c20 h))), (fun h => h.elim (fun e => absurd e (by decide)) (fun h => Or.inr (e20 h))), (fun h => h.elim (fun e => absurd e (by decide)) (fun h => Or.inr (g20 h))), kp f0, kp f1, kp f2, kp f3, kp f4, kp f5, kp f6, kp f7, kp f8, kp f9, kp f10, kp f11, fun h => h.elim (fun e => absurd e (by decide)) (fun h => let ⟨sw, a1, a2, a3⟩ := f12 h; ⟨sw, a1, a2, a3.kept hgr (.inr (fun e => own_map_ne a3 hent.mapS e.symm))⟩), kp f13, fun h => h.elim (fun e => absurd e (by decide)) (fun h => let ⟨sw, b, a1, a2, a3, a4⟩ := f14 h; ⟨sw, b, a1, a2, a3, a4.grown hgr (by simp; exact map_blk hent.mapS a4)⟩), kp f15, kp f16, fun _ => hmap, kp f18, kp f19, fun h => h.elim (fun e => absurd e (by decide)) (fun h => let ⟨b, a1, a2⟩ := f20 h; ⟨b, a1, a2.grown hgr (by simp; exact d1)⟩)⟩
          · -- 18
            have d8 := f8 (hd' 8 (by kernel_rfl))
            have d9 := f9 (hd' 9 (by kernel_rfl))
            refine slot_step rfl rfl (fun az hs K hK => ?_)
            have hK : Shut _ := hK
            have e57 := hs.get 57
            rw [d8] at e57
            have e58 := hs.get 58
            rw [d9] at e58
            refine oper_entryNew (keyLaw_int Try.underlying3) mapAU zero_pw (.tmp 57) (.tmp 58) rfl (v_A hn) next hnA (hs.eval d8) (hs.eval d9) ?_
            intro wy c9 hent hgr hsz9
            exact hK.out _ _ ⟨r0, r5, r7, hfz.trans (Fr.of_grown hgr (fun q e => .inl (by cases e; exact .inl rfl))), (fun h => (v_N (fun e => h (Or.inr e))).grown hgr (by simp; exact d1.symm)), (fun h h' => let ⟨c, a1, a2⟩ := u_N (h.resolve_left (by decide)) (fun e => h' (Or.inr e)); ⟨c, a1, a2.block (hgr.block _ a2.mapS.lt (by simp; exact d1.symm))⟩), (fun h => (h (by simp)).elim), (fun _ _ => ⟨c9, rfl, hent⟩), (fun h => h.elim (fun e => absurd e (by decide)) (fun h => Or.inr (c13 h))), (fun h => h.elim (fun e => absurd e (by decide)) (fun h => Or.inr (c14 h))), (fun h => h.elim (fun e => absurd e (by decide)) (fun h => Or.inr (c16 h))), (fun h => h.elim (fun e => absurd e (by decide)) (fun h => Or.inr (c17 h))), (fun h => h.elim (fun e => absurd e (by decide)) (fun h => Or.inr (e17 h))), (fun h => h.elim (fun e => absurd e (by decide)) (fun h => Or.inr (c19 h))), (fun h => h.elim (fun e => absurd e (by decide)) (fun h => Or.inr (c20 h))), (fun h => h.elim (fun e => absurd e (by decide)) (fun h => Or.inr (e20 h))), (fun h => h.elim (fun e => absurd e (by decide)) (fun h => Or.inr (g20 h))), kp f0, kp f1, kp f2, kp f3, kp f4, kp f5, kp f6, kp f7, kp f8, kp f9, kp f10, kp f11, fun h => h.elim (fun e => absurd e (by decide)) (fun h => let ⟨sw, a1, a2, a3⟩ := f12 h; ⟨sw, a1, a2, a3.kept hgr (.inr (fun e => own_map_ne a3 (v_A hn) e.symm))⟩), kp f13, fun h => h.elim (fun e => absurd e (by decide)) (fun h => let ⟨sw, b, a1, a2, a3, a4⟩ := f14 h; ⟨sw, b, a1, a2, a3, a4.grown hgr (by simp; exact map_blk (v_A hn) a4)⟩), kp f15, kp f16, fun h => h.elim (fun e => absurd e (by decide)) (fun h => (f17 h).grown hgr (by simp; exact d1.symm)), fun _ => trivial, fun h => h.elim (fun e => absurd e (by decide)) (fun h => absurd (c19 h) hn), fun h => h.elim (fun e => absurd e (by decide)) (fun h => absurd (c20 h) hn)⟩
          · -- 19
            have d18 := f18 (hd' 18 (by kernel_rfl))
            refine slot_step rfl rfl (fun az hs K hK => ?_)
            have hK : Shut _ := hK
            obtain ⟨c9, et, _⟩ := u_A (hd' 18 (by kernel_rfl)) (fun e => hn (e20 e))
            have e66 := hs.get 66
            rw [et] at e66
            go_simp
            exact hK.out _ _ ⟨r0, r5, r7, hfz, (fun h => v_N (fun e => h (Or.inr e))), (fun h h' => u_N (h.resolve_left (by decide)) (fun e => h' (Or.inr e))), (fun h => v_A (fun e => h (Or.inr e))), (fun h h' => u_A (h.resolve_left (by decide)) (fun e => h' (Or.inr e))), (fun h => h.elim (fun e => absurd e (by decide)) (fun h => Or.inr (c13 h))), (fun h => h.elim (fun e => absurd e (by decide)) (fun h => Or.inr (c14 h))), (fun h => h.elim (fun e => absurd e (by decide)) (fun h => Or.inr (c16 h))), (fun h => h.elim (fun e => absurd e (by decide)) (fun h => Or.inr (c17 h))), (fun h => h.elim (fun e => absurd e (by decide)) (fun h => Or.inr (e17 h))), (fun _ => Or.inr (hd' 18 (by kernel_rfl))), (fun h => h.elim (fun e => absurd e (by decide)) (fun h => Or.inr (c20 h))), (fun h => h.elim (fun e => absurd e (by decide)) (fun h => Or.inr (e20 h))), (fun h => h.elim (fun e => absurd e (by decide)) (fun h => Or.inr (g20 h))), kp f0, kp f1, kp f2, kp f3, kp f4, kp f5, kp f6, kp f7, kp f8, kp f9, kp f10, kp f11, kp f12, kp f13, kp f14, kp f15, kp f16, kp f17, kp f18, fun _ => ⟨c9, et, rfl⟩, kp f20⟩
          · -- 20
            have d8 := f8 (hd' 8 (by kernel_rfl))
            have d19 := f19 (hd' 19 (by kernel_rfl))
            have d14 := f14 (hd' 14 (by kernel_rfl))
            refine slot_step rfl rfl (fun az hs K hK => ?_)
            have hK : Shut _ := hK
            obtain ⟨sw, b, _, e14, _⟩ := d14
            obtain ⟨c9, et, e5⟩ := d19
            obtain ⟨c8, et2, hent⟩ := u_A (c19 (hd' 19 (by kernel_rfl))) hn
            rw [et] at et2
            injection et2 with et2
            simp only [Array.mk.injEq, List.cons.injEq, Value.int.injEq, true_and, and_true] at et2
            have et3 : c9 = c8 := by omega
            subst et3
            have e57 := hs.get 57
            rw [d8] at e57
            refine oper_entryStore encI_inj (.tmp 57) (.tmp 67) (.tmp 63) rfl hent (.pointer (some ⟨b, 0, none⟩)) (hs.eval d8) (hs.eval e5) (hs.eval e14) ?_
            intro wy hmap hgr hsz9
            rw [mput_twice] at hmap
            exact hK.out undef _ ⟨r0, r5, r7, hfz.trans (Fr.of_grown hgr (fun q e => .inl (by cases e; exact .inl rfl))), (fun h => (v_N (fun e => h (Or.inr e))).grown hgr (by simp; exact d1.symm)), (fun h h' => let ⟨c, a1, a2⟩ := u_N (h.resolve_left (by decide)) (fun e => h' (Or.inr e)); ⟨c, a1, a2.block (hgr.block _ a2.mapS.lt (by simp; exact d1.symm))⟩), (fun h => (h (Or.inr (c19 (hd' 19 (by kernel_rfl))))).elim), (fun _ h' => (h' (by simp)).elim), (fun h => h.elim (fun e => absurd e (by decide)) (fun h => Or.inr (c13 h))), (fun h => h.elim (fun e => absurd e (by decide)) (fun h => Or.inr (c14 h))), (fun h => h.elim (fun e => absurd e (by decide)) (fun h => Or.inr (c16 h))), (fun h => h.elim (fun e => absurd e (by decide)) (fun h => Or.inr (c17 h))), (fun h => h.elim (fun e => absurd e (by decide)) (fun h => Or.inr (e17 h))), (fun h => h.elim (fun e => absurd e (by decide)) (fun h => Or.inr (c19 h))), (fun _ => Or.inr (c19 (hd' 19 (by kernel_rfl)))), (fun _ => Or.inr (hd' 19 (by kernel_rfl))), (fun _ => Or.inr (hd' 14 (by kernel_rfl))), kp f0, kp f1, kp f2, kp f3, kp f4, kp f5, kp f6, kp f7, kp f8, kp f9, kp f10, kp f11, fun h => h.elim (fun e => absurd e (by decide)) (fun h => let ⟨sw, a1, a2, a3⟩ := f12 h; ⟨sw, a1, a2, a3.kept hgr (.inr (fun e => own_map_ne a3 hent.mapS e.symm))⟩), kp f13, fun h => h.elim (fun e => absurd e (by decide)) (fun h => let ⟨sw, b, a1, a2, a3, a4⟩ := f14 h; ⟨sw, b, a1, a2, a3, a4.grown hgr (by simp; exact map_blk hent.mapS a4)⟩), kp f15, kp f16, fun h => h.elim (fun e => absurd e (by decide)) (fun h => (f17 h).grown hgr (by simp; exact d1.symm)), kp f18, kp f19, fun _ => ⟨b, e14, hmap⟩⟩
        case hdone =>
          rintro D g wz hD ⟨r0, r5, r7, hfz, v_N, u_N, v_A, u_A, c13, c14, c16, c17, e17, c19, c20, e20, g20, f0, f1, f2, f3, f4, f5, f6, f7, f8, f9, f10, f11, f12, f13, f14, f15, f16, f17, f18, f19, f20⟩
          simp only [setAll, List.foldl_cons, List.foldl_nil, List.setIfInBounds_toArray, List.set_cons_succ, List.set_cons_zero]
          obtain ⟨sw, es, hswn, how⟩ := f12 (hD 12)
          obtain ⟨sw2, b, es2, eb, hbl, hbk⟩ := f14 (hD 14)
          have hmN := f17 (hD 17)
          obtain ⟨b2, eb2, hmA⟩ := f20 (hD 20)
          have hss := sl_val (es.symm.trans es2)
          subst hss
          have hbb : b = b2 := by rw [eb] at eb2; injection eb2 with e; injection e with e; injection e
          subst hbb
          clear f0 f1 f2 f3 f4 f5 f6 f7 f8 f9 f10 f11 f12 f13 f14 f15 f16 f17 f18 f19 f20 hD r0 r5 r7 es es2 eb eb2 v_N u_N v_A u_A c13 c14 c16 c17 e17 c19 c20 e20 g20
          have hbox5 := hfz.blk hbox3.out pN
          have hsho5 := map_fr hsho3.out hfz (fun e => e.elim (fun e => d2 e.symm) (fun e => d4 e.symm))
          have hby5 := map_fr hby3.out hfz (fun e => e.elim (fun e => d3 e.symm) (fun e => d5 e.symm))
          have hfre5 := hfz.own hfre3.out (fun g hg e => e.elim (fun e => own_map_ne hfre3.out hall3.out (by rw [hg, e])) (fun e => own_map_ne hfre3.out hnor3.out (by rw [hg, e])))
          have hr5 := hfz.rd hr3.out hrd3
          have hb5 := hide (hb3.out.trans (hfz.below (Nat.le_trans hbase hsz3) (fun g e => by have := hlo.out; rcases e with e | e <;> omega)))
          have hszz := hfz.size
          have hfr5 := hide (hfr3.out.trans (hfz.more (fun g _ e => .inr (e.elim (fun e => .inl e) (fun e => .inr (.inl e))))))
          obtain ⟨w5, hw5⟩ : ∃ w5, w5 = wz := ⟨_, rfl⟩
          subst hw5
          clear hfz hfr3 hbox3 hsho3 hby3 hfre3 hall3 hnor3 hr3 hb3 hw3
          have hb5W : b ≠ p := blk_ne hbk hbox5 (by decide)
          have k4 : w5.cell? ⟨p, 4, none⟩ = some (.map (some mS)) := hbox5.cell 4
          have hbox6 := hide hbox5
          have hsho6 := hide hsho5
          have hby6 := hide hby5
          have hfre6 := hide hfre5
          have hr6 := hide hr5
          have how6 := hide how
          have hbk6 := hide hbk
          have hmN6 := hide hmN
          have hmA6 := hide hmA
          clear hbox5 hsho5 hby5 hfre5 hr5 how hbk hmN hmA
          go_wp2_with (at_mapUpdate; refine wpList_updateS (keyLaw_int Try.underlying3) mapSU rfl _ _ _ rfl hsho6.out next (.bool true) (by rfl) (by rfl) (by rfl) ?_; intro w9 hm9 hg9 hz9)
          have hf9 := (Fr.of_grown hg9 (fun g e => .inl (by cases e; rfl)) : Fr (fun g => g = mS) w5 w9)
          replace hm9 := hide hm9
          replace hf9 := hide hf9
          clear hg9
          go_ret
          have hlt := hqlt.out
          have hsF := hsho6.out.lt
          have hmS : W.heap.size ≤ b := by omega
          refine .inr ⟨by rw [hok.out, hfit.out]; rfl, rfl, fv, ⟨A1, q, c1⟩, sw, b, ⟨hf9.out.blk hbox6.out (map_blk hsho6.out hbox6.out), map_fr hmA6.out hf9.out d2, map_fr hmN6.out hf9.out d4, ?_, map_fr hby6.out hf9.out (fun e => d6 e.symm), ?_, ⟨d1, d2, d3, d4, d5, d6⟩, hlo.out⟩, hf9.out.blk hbk6.out (map_blk hsho6.out hbk6.out), hmS, ?_, hq.out.symm, ?_, hlo1.out, hb5.out.trans (hf9.out.below (Nat.le_trans hbase (Nat.le_trans hsz3 hszz)) (fun g e => by rw [e]; exact hlo.out.2.2.2.1)), hfr5.out.trans (hf9.out.more (fun g _ e => .inr (.inr (.inr (.inl e))))), fun g e => .inl e, fun ad he e => (by have h7 := hlo1.out ad he; have h8 := hfW.out _ e; omega), fun _ => rfl⟩
          · rw [if_pos hlt]; exact hm9.out
          · rw [if_pos hlt]; exact hf9.out.own hfre6.out (fun g hg e => own_map_ne hfre6.out hsho6.out (by rw [hg, e]))
          · rw [hq.out]; exact own_base (hf9.out.own how6.out (fun g hg e => own_map_ne how6.out hsho6.out (by rw [hg, e]))) hsz3
          · exact hf9.out.rd hr6.out (fun ad he e => by have h7 := hlo1.out ad he; have h8 := hmSW.out; omega)
    · obtain ⟨Q1, hQ⟩ : ∃ Q1, q = Q1 + 1 := ⟨q - 1, by omega⟩
      obtain ⟨ad, xl, hA, hltA, hxl, cl⟩ := hr1.get (k := Q1) (by omega)
      subst hA
      have hxb := hrN.out xl (List.mem_of_getElem? hxl)
      obtain ⟨kx, hkx⟩ : ∃ kx, xl / 2 = kx := ⟨_, rfl⟩
      have hqt : xl.tdiv 2 = kx := by rw [Int.tdiv_eq_ediv_of_nonneg (by omega), hkx]
      have hqw : IntKind.i64.wrap kx = kx := IntWalk.i64_in _ (by omega)
      have hqw2 : IntKind.i64.wrap (xl.tdiv 2) = kx := by rw [hqt]; exact hqw
      have hQw : IntKind.i64.wrap ((q : Int) - 1) = (Q1 : Int) := by rw [show (q : Int) - 1 = Q1 by omega]; exact IntWalk.i64_in _ (by omega)
      have k0 : w1.cell? ⟨p, 0, none⟩ = some (.int .i64 n) := h1.box.cell 0
      have hqz : 0 < q := by omega
      have hqz1 : decide ((0 : Int) < q) = true := decide_eq_true (by omega)
      have hQq : Q1 < q := by omega
      have hfl := fit_last (n := n) (hq.trans hQ) hxl
      rw [hkx] at hfl
      replace hQ := hide hQ
      by_cases hnk : n < kx
      · have hfit := hide (show fitC n l = false by rw [hfl]; simp [hnk])
        have hnk1 : decide (n < kx) = true := decide_eq_true hnk
        replace hfl := hide hfl
        replace hrN := hide hrN
        replace hxb := hide hxb
        replace hxl := hide hxl
        have hpW1 := h1.box.lt
        replace h1 := hide h1
        replace hb1 := hide hb1
        replace hr1 := hide hr1
        replace hq := hide hq
        go_wp2
        refine wp_region_slots [13, 14, 15, 16, 17, 18, 19, 20, 21, 22, 23, 24, 25, 26, 27, 28, 29, 30, 31, 32, 33, 34, 35, 36, 37] (fun D g wz => g 0 = .pointer (some ⟨p, 0, none⟩) ∧ g 5 = .slice (some ad) q c1 ∧ g 6 = .bool true ∧ Dr w1 wz ∧ (D 0 → g 13 = .pointer (some ⟨p, 0, none⟩)) ∧ (D 1 → g 14 = .bool false) ∧ (D 2 → g 15 = .bool false) ∧ (D 3 → g 16 = .bool true) ∧ (D 4 → g 17 = .bool false) ∧ (D 5 → g 18 = .bool false) ∧ (D 6 → g 19 = .bool false) ∧ (D 7 → g 20 = .slice (some ad) q c1) ∧ (D 8 → g 21 = .int .i64 q) ∧ (D 9 → g 22 = .bool true) ∧ (D 10 → g 23 = .bool true) ∧ (D 11 → g 24 = .slice (some ad) q c1) ∧ (D 12 → g 25 = .slice (some ad) q c1) ∧ (D 13 → g 26 = .int .i64 q) ∧ (D 14 → g 27 = .int .i64 Q1) ∧ (D 15 → g 28 = .pointer (some (ad.add Q1))) ∧ (D 16 → g 29 = .int .i64 xl) ∧ (D 17 → g 30 = .int .i64 kx) ∧ (D 18 → g 31 = .pointer (some ⟨p, 0, none⟩)) ∧ (D 19 → g 32 = .pointer (some ⟨p, 0, none⟩)) ∧ (D 20 → g 33 = .pointer (some ⟨p, 0, none⟩)) ∧ (D 21 → g 34 = .int .i64 n) ∧ (D 22 → g 35 = .bool true) ∧ (D 23 → g 36 = .bool true) ∧ (D 24 → g 37 = .bool true)) (by kernel_rfl) (by kernel_rfl) 87 rfl (by kernel_rfl) ?h0 ?hstep ?hdone
        case h0 => exact ⟨rfl, rfl, rfl, (Dr.refl w1).drew, nt0, nt0, nt0, nt0, nt0, nt0, nt0, nt0, nt0, nt0, nt0, nt0, nt0, nt0, nt0, nt0, nt0, nt0, nt0, nt0, nt0, nt0, nt0, nt0, nt0⟩
        case hstep =>
          intro D g wz i hi' hn hd' hI2
          obtain ⟨r0, r5, r6, hbz, f0, f1, f2, f3, f4, f5, f6, f7, f8, f9, f10, f11, f12, f13, f14, f15, f16, f17, f18, f19, f20, f21, f22, f23, f24⟩ := hI2
          have hi' : i < 25 := hi'
          rcases (show i = 0 ∨ i = 1 ∨ i = 2 ∨ i = 3 ∨ i = 4 ∨ i = 5 ∨ i = 6 ∨ i = 7 ∨ i = 8 ∨ i = 9 ∨ i = 10 ∨ i = 11 ∨ i = 12 ∨ i = 13 ∨ i = 14 ∨ i = 15 ∨ i = 16 ∨ i = 17 ∨ i = 18 ∨ i = 19 ∨ i = 20 ∨ i = 21 ∨ i = 22 ∨ i = 23 ∨ i = 24 by omega) with rfl | rfl | rfl | rfl | rfl | rfl | rfl | rfl | rfl | rfl | rfl | rfl | rfl | rfl | rfl | rfl | rfl | rfl | rfl | rfl | rfl | rfl | rfl | rfl | rfl
          · -- 0
            refine slot_step rfl rfl (fun az hs K hK => ?_)
            have hK : Shut _ := hK
            have e0 := hs.get 0
            rw [r0] at e0
            go_simp
            exact hK.out _ _ ⟨r0, r5, r6, hbz, fun _ => rfl, kp f1, kp f2, kp f3, kp f4, kp f5, kp f6, kp f7, kp f8, kp f9, kp f10, kp f11, kp f12, kp f13, kp f14, kp f15, kp f16, kp f17, kp f18, kp f19, kp f20, kp f21, kp f22, kp f23, kp f24⟩
          · -- 1
            have d0 := f0 (hd' 0 (by kernel_rfl))
            refine slot_step rfl rfl (fun az hs K hK => ?_)
            have hK : Shut _ := hK
            have e13 := hs.get 13
            rw [d0] at e13
            go_simp
            exact hK.out _ _ ⟨r0, r5, r6, hbz, kp f0, fun _ => rfl, kp f2, kp f3, kp f4, kp f5, kp f6, kp f7, kp f8, kp f9, kp f10, kp f11, kp f12, kp f13, kp f14, kp f15, kp f16, kp f17, kp f18, kp f19, kp f20, kp f21, kp f22, kp f23, kp f24⟩
          · -- 2
            have d1 := f1 (hd' 1 (by kernel_rfl))
            refine slot_step rfl rfl (fun az hs K hK => ?_)
            have hK : Shut _ := hK
            have e14 := hs.get 14
            rw [d1] at e14
            go_simp
            exact hK.out _ _ ⟨r0, r5, r6, hbz, kp f0, kp f1, fun _ => rfl, kp f3, kp f4, kp f5, kp f6, kp f7, kp f8, kp f9, kp f10, kp f11, kp f12, kp f13, kp f14, kp f15, kp f16, kp f17, kp f18, kp f19, kp f20, kp f21, kp f22, kp f23, kp f24⟩
          · -- 3
            have d2 := f2 (hd' 2 (by kernel_rfl))
            refine slot_step_yes (j := 2) (d := 15) rfl rfl rfl (by decide) (d2) (fun az hs K hK => ?_)
            have hK : Shut _ := hK
            have e15 := hs.get 15
            rw [d2] at e15
            have e6 := hs.get 6
            rw [r6] at e6
            go_simp
            exact hK.out _ _ ⟨r0, r5, r6, hbz, kp f0, kp f1, kp f2, fun _ => rfl, kp f4, kp f5, kp f6, kp f7, kp f8, kp f9, kp f10, kp f11, kp f12, kp f13, kp f14, kp f15, kp f16, kp f17, kp f18, kp f19, kp f20, kp f21, kp f22, kp f23, kp f24⟩
          · -- 4
            have d2 := f2 (hd' 2 (by kernel_rfl))
            have d3 := f3 (hd' 3 (by kernel_rfl))
            refine slot_step_yes (j := 2) (d := 15) rfl rfl rfl (by decide) (d2) (fun az hs K hK => ?_)
            have hK : Shut _ := hK
            have e15 := hs.get 15
            rw [d2] at e15
            have e16 := hs.get 16
            rw [d3] at e16
            go_simp
            exact hK.out _ _ ⟨r0, r5, r6, hbz, kp f0, kp f1, kp f2, kp f3, fun _ => rfl, kp f5, kp f6, kp f7, kp f8, kp f9, kp f10, kp f11, kp f12, kp f13, kp f14, kp f15, kp f16, kp f17, kp f18, kp f19, kp f20, kp f21, kp f22, kp f23, kp f24⟩
          · -- 5
            have d2 := f2 (hd' 2 (by kernel_rfl))
            have d4 := f4 (hd' 4 (by kernel_rfl))
            refine slot_step rfl rfl (fun az hs K hK => ?_)
            have hK : Shut _ := hK
            have e15 := hs.get 15
            rw [d2] at e15
            have e17 := hs.get 17
            rw [d4] at e17
            go_simp
            exact hK.out _ _ ⟨r0, r5, r6, hbz, kp f0, kp f1, kp f2, kp f3, kp f4, fun _ => rfl, kp f6, kp f7, kp f8, kp f9, kp f10, kp f11, kp f12, kp f13, kp f14, kp f15, kp f16, kp f17, kp f18, kp f19, kp f20, kp f21, kp f22, kp f23, kp f24⟩
          · -- 6
            have d5 := f5 (hd' 5 (by kernel_rfl))
            refine slot_step rfl rfl (fun az hs K hK => ?_)
            have hK : Shut _ := hK
            have e18 := hs.get 18
            rw [d5] at e18
            go_simp
            exact hK.out _ _ ⟨r0, r5, r6, hbz, kp f0, kp f1, kp f2, kp f3, kp f4, kp f5, fun _ => rfl, kp f7, kp f8, kp f9, kp f10, kp f11, kp f12, kp f13, kp f14, kp f15, kp f16, kp f17, kp f18, kp f19, kp f20, kp f21, kp f22, kp f23, kp f24⟩
          · -- 7
            have d6 := f6 (hd' 6 (by kernel_rfl))
            refine slot_step_yes (j := 6) (d := 19) rfl rfl rfl (by decide) (d6) (fun az hs K hK => ?_)
            have hK : Shut _ := hK
            have e19 := hs.get 19
            rw [d6] at e19
            have e5 := hs.get 5
            rw [r5] at e5
            go_simp
            exact hK.out _ _ ⟨r0, r5, r6, hbz, kp f0, kp f1, kp f2, kp f3, kp f4, kp f5, kp f6, fun _ => rfl, kp f8, kp f9, kp f10, kp f11, kp f12, kp f13, kp f14, kp f15, kp f16, kp f17, kp f18, kp f19, kp f20, kp f21, kp f22, kp f23, kp f24⟩
          · -- 8
            have d6 := f6 (hd' 6 (by kernel_rfl))
            have d7 := f7 (hd' 7 (by kernel_rfl))
            refine slot_step_yes (j := 6) (d := 19) rfl rfl rfl (by decide) (d6) (fun az hs K hK => ?_)
            have hK : Shut _ := hK
            have e19 := hs.get 19
            rw [d6] at e19
            have e20 := hs.get 20
            rw [d7] at e20
            go_simp
            exact hK.out _ _ ⟨r0, r5, r6, hbz, kp f0, kp f1, kp f2, kp f3, kp f4, kp f5, kp f6, kp f7, fun _ => rfl, kp f9, kp f10, kp f11, kp f12, kp f13, kp f14, kp f15, kp f16, kp f17, kp f18, kp f19, kp f20, kp f21, kp f22, kp f23, kp f24⟩
          · -- 9
            have d6 := f6 (hd' 6 (by kernel_rfl))
            have d8 := f8 (hd' 8 (by kernel_rfl))
            refine slot_step_yes (j := 6) (d := 19) rfl rfl rfl (by decide) (d6) (fun az hs K hK => ?_)
            have hK : Shut _ := hK
            have e19 := hs.get 19
            rw [d6] at e19
            have e21 := hs.get 21
            rw [d8] at e21
            go_simp
            exact hK.out _ _ ⟨r0, r5, r6, hbz, kp f0, kp f1, kp f2, kp f3, kp f4, kp f5, kp f6, kp f7, kp f8, fun _ => rfl, kp f10, kp f11, kp f12, kp f13, kp f14, kp f15, kp f16, kp f17, kp f18, kp f19, kp f20, kp f21, kp f22, kp f23, kp f24⟩
          · -- 10
            have d6 := f6 (hd' 6 (by kernel_rfl))
            have d9 := f9 (hd' 9 (by kernel_rfl))
            refine slot_step_yes (j := 6) (d := 19) rfl rfl rfl (by decide) (d6) (fun az hs K hK => ?_)
            have hK : Shut _ := hK
            have e19 := hs.get 19
            rw [d6] at e19
            have e22 := hs.get 22
            rw [d9] at e22
            go_simp
            exact hK.out _ _ ⟨r0, r5, r6, hbz, kp f0, kp f1, kp f2, kp f3, kp f4, kp f5, kp f6, kp f7, kp f8, kp f9, fun _ => rfl, kp f11, kp f12, kp f13, kp f14, kp f15, kp f16, kp f17, kp f18, kp f19, kp f20, kp f21, kp f22, kp f23, kp f24⟩
          · -- 11
            have d10 := f10 (hd' 10 (by kernel_rfl))
            refine slot_step_yes (j := 10) (d := 23) rfl rfl rfl (by decide) (d10) (fun az hs K hK => ?_)
            have hK : Shut _ := hK
            have e23 := hs.get 23
            rw [d10] at e23
            have e5 := hs.get 5
            rw [r5] at e5
            go_simp
            exact hK.out _ _ ⟨r0, r5, r6, hbz, kp f0, kp f1, kp f2, kp f3, kp f4, kp f5, kp f6, kp f7, kp f8, kp f9, kp f10, fun _ => rfl, kp f12, kp f13, kp f14, kp f15, kp f16, kp f17, kp f18, kp f19, kp f20, kp f21, kp f22, kp f23, kp f24⟩
          · -- 12
            have d10 := f10 (hd' 10 (by kernel_rfl))
            refine slot_step_yes (j := 10) (d := 23) rfl rfl rfl (by decide) (d10) (fun az hs K hK => ?_)
            have hK : Shut _ := hK
            have e23 := hs.get 23
            rw [d10] at e23
            have e5 := hs.get 5
            rw [r5] at e5
            go_simp
            exact hK.out _ _ ⟨r0, r5, r6, hbz, kp f0, kp f1, kp f2, kp f3, kp f4, kp f5, kp f6, kp f7, kp f8, kp f9, kp f10, kp f11, fun _ => rfl, kp f13, kp f14, kp f15, kp f16, kp f17, kp f18, kp f19, kp f20, kp f21, kp f22, kp f23, kp f24⟩
          · -- 13
            have d10 := f10 (hd' 10 (by kernel_rfl))
            have d12 := f12 (hd' 12 (by kernel_rfl))
            refine slot_step_yes (j := 10) (d := 23) rfl rfl rfl (by decide) (d10) (fun az hs K hK => ?_)
            have hK : Shut _ := hK
            have e23 := hs.get 23
            rw [d10] at e23
            have e25 := hs.get 25
            rw [d12] at e25
            go_simp
            exact hK.out _ _ ⟨r0, r5, r6, hbz, kp f0, kp f1, kp f2, kp f3, kp f4, kp f5, kp f6, kp f7, kp f8, kp f9, kp f10, kp f11, kp f12, fun _ => rfl, kp f14, kp f15, kp f16, kp f17, kp f18, kp f19, kp f20, kp f21, kp f22, kp f23, kp f24⟩
          · -- 14
            have d10 := f10 (hd' 10 (by kernel_rfl))
            have d13 := f13 (hd' 13 (by kernel_rfl))
            refine slot_step_yes (j := 10) (d := 23) rfl rfl rfl (by decide) (d10) (fun az hs K hK => ?_)
            have hK : Shut _ := hK
            have e23 := hs.get 23
            rw [d10] at e23
            have e26 := hs.get 26
            rw [d13] at e26
            go_simp
            exact hK.out _ _ ⟨r0, r5, r6, hbz, kp f0, kp f1, kp f2, kp f3, kp f4, kp f5, kp f6, kp f7, kp f8, kp f9, kp f10, kp f11, kp f12, kp f13, fun _ => rfl, kp f15, kp f16, kp f17, kp f18, kp f19, kp f20, kp f21, kp f22, kp f23, kp f24⟩
          · -- 15
            have d10 := f10 (hd' 10 (by kernel_rfl))
            have d11 := f11 (hd' 11 (by kernel_rfl))
            have d14 := f14 (hd' 14 (by kernel_rfl))
            refine slot_step_yes (j := 10) (d := 23) rfl rfl rfl (by decide) (d10) (fun az hs K hK => ?_)
            have hK : Shut _ := hK
            have e23 := hs.get 23
            rw [d10] at e23
            have e24 := hs.get 24
            rw [d11] at e24
            have e27 := hs.get 27
            rw [d14] at e27
            go_simp
            exact hK.out _ _ ⟨r0, r5, r6, hbz, kp f0, kp f1, kp f2, kp f3, kp f4, kp f5, kp f6, kp f7, kp f8, kp f9, kp f10, kp f11, kp f12, kp f13, kp f14, fun _ => rfl, kp f16, kp f17, kp f18, kp f19, kp f20, kp f21, kp f22, kp f23, kp f24⟩
          · -- 16
            have d10 := f10 (hd' 10 (by kernel_rfl))
            have d15 := f15 (hd' 15 (by kernel_rfl))
            refine slot_step_yes (j := 10) (d := 23) rfl rfl rfl (by decide) (d10) (fun az hs K hK => ?_)
            have hK : Shut _ := hK
            have cz := (hbz.cell _).trans cl
            have e23 := hs.get 23
            rw [d10] at e23
            have e28 := hs.get 28
            rw [d15] at e28
            go_simp
            exact hK.out _ _ ⟨r0, r5, r6, hbz, kp f0, kp f1, kp f2, kp f3, kp f4, kp f5, kp f6, kp f7, kp f8, kp f9, kp f10, kp f11, kp f12, kp f13, kp f14, kp f15, fun _ => rfl, kp f17, kp f18, kp f19, kp f20, kp f21, kp f22, kp f23, kp f24⟩
          · -- 17
            have d10 := f10 (hd' 10 (by kernel_rfl))
            have d16 := f16 (hd' 16 (by kernel_rfl))
            refine slot_step_yes (j := 10) (d := 23) rfl rfl rfl (by decide) (d10) (fun az hs K hK => ?_)
            have hK : Shut _ := hK
            have e23 := hs.get 23
            rw [d10] at e23
            have e29 := hs.get 29
            rw [d16] at e29
            go_simp
            exact hK.out _ _ ⟨r0, r5, r6, hbz, kp f0, kp f1, kp f2, kp f3, kp f4, kp f5, kp f6, kp f7, kp f8, kp f9, kp f10, kp f11, kp f12, kp f13, kp f14, kp f15, kp f16, fun _ => rfl, kp f18, kp f19, kp f20, kp f21, kp f22, kp f23, kp f24⟩
          · -- 18
            have d10 := f10 (hd' 10 (by kernel_rfl))
            refine slot_step_yes (j := 10) (d := 23) rfl rfl rfl (by decide) (d10) (fun az hs K hK => ?_)
            have hK : Shut _ := hK
            have e23 := hs.get 23
            rw [d10] at e23
            have e0 := hs.get 0
            rw [r0] at e0
            go_simp
            exact hK.out _ _ ⟨r0, r5, r6, hbz, kp f0, kp f1, kp f2, kp f3, kp f4, kp f5, kp f6, kp f7, kp f8, kp f9, kp f10, kp f11, kp f12, kp f13, kp f14, kp f15, kp f16, kp f17, fun _ => rfl, kp f19, kp f20, kp f21, kp f22, kp f23, kp f24⟩
          · -- 19
            have d10 := f10 (hd' 10 (by kernel_rfl))
            have d18 := f18 (hd' 18 (by kernel_rfl))
            refine slot_step_yes (j := 10) (d := 23) rfl rfl rfl (by decide) (d10) (fun az hs K hK => ?_)
            have hK : Shut _ := hK
            have e23 := hs.get 23
            rw [d10] at e23
            have e31 := hs.get 31
            rw [d18] at e31
            go_simp
            exact hK.out _ _ ⟨r0, r5, r6, hbz, kp f0, kp f1, kp f2, kp f3, kp f4, kp f5, kp f6, kp f7, kp f8, kp f9, kp f10, kp f11, kp f12, kp f13, kp f14, kp f15, kp f16, kp f17, kp f18, fun _ => rfl, kp f20, kp f21, kp f22, kp f23, kp f24⟩
          · -- 20
            have d10 := f10 (hd' 10 (by kernel_rfl))
            have d19 := f19 (hd' 19 (by kernel_rfl))
            refine slot_step_yes (j := 10) (d := 23) rfl rfl rfl (by decide) (d10) (fun az hs K hK => ?_)
            have hK : Shut _ := hK
            have e23 := hs.get 23
            rw [d10] at e23
            have e32 := hs.get 32
            rw [d19] at e32
            go_simp
            exact hK.out _ _ ⟨r0, r5, r6, hbz, kp f0, kp f1, kp f2, kp f3, kp f4, kp f5, kp f6, kp f7, kp f8, kp f9, kp f10, kp f11, kp f12, kp f13, kp f14, kp f15, kp f16, kp f17, kp f18, kp f19, fun _ => rfl, kp f21, kp f22, kp f23, kp f24⟩
          · -- 21
            have d10 := f10 (hd' 10 (by kernel_rfl))
            have d20 := f20 (hd' 20 (by kernel_rfl))
            refine slot_step_yes (j := 10) (d := 23) rfl rfl rfl (by decide) (d10) (fun az hs K hK => ?_)
            have hK : Shut _ := hK
            have cz := (hbz.cell _).trans k0
            have e23 := hs.get 23
            rw [d10] at e23
            have e33 := hs.get 33
            rw [d20] at e33
            go_simp
            exact hK.out _ _ ⟨r0, r5, r6, hbz, kp f0, kp f1, kp f2, kp f3, kp f4, kp f5, kp f6, kp f7, kp f8, kp f9, kp f10, kp f11, kp f12, kp f13, kp f14, kp f15, kp f16, kp f17, kp f18, kp f19, kp f20, fun _ => rfl, kp f22, kp f23, kp f24⟩
          · -- 22
            have d10 := f10 (hd' 10 (by kernel_rfl))
            have d17 := f17 (hd' 17 (by kernel_rfl))
            have d21 := f21 (hd' 21 (by kernel_rfl))
            refine slot_step_yes (j := 10) (d := 23) rfl rfl rfl (by decide) (d10) (fun az hs K hK => ?_)
            have hK : Shut _ := hK
            have e23 := hs.get 23
            rw [d10] at e23
            have e30 := hs.get 30
            rw [d17] at e30
            have e34 := hs.get 34
            rw [d21] at e34
            go_simp
            exact hK.out _ _ ⟨r0, r5, r6, hbz, kp f0, kp f1, kp f2, kp f3, kp f4, kp f5, kp f6, kp f7, kp f8, kp f9, kp f10, kp f11, kp f12, kp f13, kp f14, kp f15, kp f16, kp f17, kp f18, kp f19, kp f20, kp f21, fun _ => rfl, kp f23, kp f24⟩
          · -- 23
            have d6 := f6 (hd' 6 (by kernel_rfl))
            have d10 := f10 (hd' 10 (by kernel_rfl))
            have d22 := f22 (hd' 22 (by kernel_rfl))
            refine slot_step_yes (j := 6) (d := 19) rfl rfl rfl (by decide) (d6) (fun az hs K hK => ?_)
            have hK : Shut _ := hK
            have e19 := hs.get 19
            rw [d6] at e19
            have e23 := hs.get 23
            rw [d10] at e23
            have e35 := hs.get 35
            rw [d22] at e35
            go_simp
            exact hK.out _ _ ⟨r0, r5, r6, hbz, kp f0, kp f1, kp f2, kp f3, kp f4, kp f5, kp f6, kp f7, kp f8, kp f9, kp f10, kp f11, kp f12, kp f13, kp f14, kp f15, kp f16, kp f17, kp f18, kp f19, kp f20, kp f21, kp f22, fun _ => rfl, kp f24⟩
          · -- 24
            have d6 := f6 (hd' 6 (by kernel_rfl))
            have d23 := f23 (hd' 23 (by kernel_rfl))
            refine slot_step rfl rfl (fun az hs K hK => ?_)
            have hK : Shut _ := hK
            have e19 := hs.get 19
            rw [d6] at e19
            have e36 := hs.get 36
            rw [d23] at e36
            go_simp
            exact hK.out _ _ ⟨r0, r5, r6, hbz, kp f0, kp f1, kp f2, kp f3, kp f4, kp f5, kp f6, kp f7, kp f8, kp f9, kp f10, kp f11, kp f12, kp f13, kp f14, kp f15, kp f16, kp f17, kp f18, kp f19, kp f20, kp f21, kp f22, kp f23, fun _ => rfl⟩
        case hdone =>
          rintro D g wz hD ⟨r0, r5, r6, hbz, f0, f1, f2, f3, f4, f5, f6, f7, f8, f9, f10, f11, f12, f13, f14, f15, f16, f17, f18, f19, f20, f21, f22, f23, f24⟩
          simp only [setAll, List.foldl_cons, List.foldl_nil, List.setIfInBounds_toArray, List.set_cons_succ, List.set_cons_zero]
          have e37 := f24 (hD 24)
          rw [e37]
          clear f0 f1 f2 f3 f4 f5 f6 f7 f8 f9 f10 f11 f12 f13 f14 f15 f16 f17 f18 f19 f20 f21 f22 f23 f24 hD r0 r5 r6 e37
          have hbF := hide (hb1.out.trans (hbz.below _))
          have hF := hide (h1.out.keep (hbz.below _))
          obtain ⟨w2, hw2⟩ : ∃ w2, w2 = wz := ⟨_, rfl⟩
          subst hw2
          clear hbz
          go_wp2
          go_ret
          exact .inl ⟨by rw [hok.out, hfit.out]; rfl, rfl, hF.out, hbF.out⟩
      · have hfit := hide (show fitC n l = true by rw [hfl]; simp [hnk])
        have hnk1 : decide (n < kx) = false := decide_eq_false hnk
        replace hfl := hide hfl
        replace hxb := hide hxb
        replace hxl := hide hxl
        go_wp2
        refine wp_region_slots [13, 14, 15, 16, 17, 18, 19, 20, 21, 22, 23, 24, 25, 26, 27, 28, 29, 30, 31, 32, 33, 34, 35, 36, 37] (fun D g wz => g 0 = .pointer (some ⟨p, 0, none⟩) ∧ g 5 = .slice (some ad) q c1 ∧ g 6 = .bool true ∧ Dr w1 wz ∧ (D 0 → g 13 = .pointer (some ⟨p, 0, none⟩)) ∧ (D 1 → g 14 = .bool false) ∧ (D 2 → g 15 = .bool false) ∧ (D 3 → g 16 = .bool true) ∧ (D 4 → g 17 = .bool false) ∧ (D 5 → g 18 = .bool false) ∧ (D 6 → g 19 = .bool false) ∧ (D 7 → g 20 = .slice (some ad) q c1) ∧ (D 8 → g 21 = .int .i64 q) ∧ (D 9 → g 22 = .bool true) ∧ (D 10 → g 23 = .bool true) ∧ (D 11 → g 24 = .slice (some ad) q c1) ∧ (D 12 → g 25 = .slice (some ad) q c1) ∧ (D 13 → g 26 = .int .i64 q) ∧ (D 14 → g 27 = .int .i64 Q1) ∧ (D 15 → g 28 = .pointer (some (ad.add Q1))) ∧ (D 16 → g 29 = .int .i64 xl) ∧ (D 17 → g 30 = .int .i64 kx) ∧ (D 18 → g 31 = .pointer (some ⟨p, 0, none⟩)) ∧ (D 19 → g 32 = .pointer (some ⟨p, 0, none⟩)) ∧ (D 20 → g 33 = .pointer (some ⟨p, 0, none⟩)) ∧ (D 21 → g 34 = .int .i64 n) ∧ (D 22 → g 35 = .bool false) ∧ (D 23 → g 36 = .bool false) ∧ (D 24 → g 37 = .bool false)) (by kernel_rfl) (by kernel_rfl) 87 rfl (by kernel_rfl) ?h0 ?hstep ?hdone
        case h0 => exact ⟨rfl, rfl, rfl, (Dr.refl w1).drew, nt0, nt0, nt0, nt0, nt0, nt0, nt0, nt0, nt0, nt0, nt0, nt0, nt0, nt0, nt0, nt0, nt0, nt0, nt0, nt0, nt0, nt0, nt0, nt0, nt0⟩
        case hstep =>
          intro D g wz i hi' hn hd' hI2
          obtain ⟨r0, r5, r6, hbz, f0, f1, f2, f3, f4, f5, f6, f7, f8, f9, f10, f11, f12, f13, f14, f15, f16, f17, f18, f19, f20, f21, f22, f23, f24⟩ := hI2
          have hi' : i < 25 := hi'
          rcases (show i = 0 ∨ i = 1 ∨ i = 2 ∨ i = 3 ∨ i = 4 ∨ i = 5 ∨ i = 6 ∨ i = 7 ∨ i = 8 ∨ i = 9 ∨ i = 10 ∨ i = 11 ∨ i = 12 ∨ i = 13 ∨ i = 14 ∨ i = 15 ∨ i = 16 ∨ i = 17 ∨ i = 18 ∨ i = 19 ∨ i = 20 ∨ i = 21 ∨ i = 22 ∨ i = 23 ∨ i = 24 by omega) with rfl | rfl | rfl | rfl | rfl | rfl | rfl | rfl | rfl | rfl | rfl | rfl | rfl | rfl | rfl | rfl | rfl | rfl | rfl | rfl | rfl | rfl | rfl | rfl | rfl
          · -- 0
            refine slot_step rfl rfl (fun az hs K hK => ?_)
            have hK : Shut _ := hK
            have e0 := hs.get 0
            rw [r0] at e0
            go_simp
            exact hK.out _ _ ⟨r0, r5, r6, hbz, fun _ => rfl, kp f1, kp f2, kp f3, kp f4, kp f5, kp f6, kp f7, kp f8, kp f9, kp f10, kp f11, kp f12, kp f13, kp f14, kp f15, kp f16, kp f17, kp f18, kp f19, kp f20, kp f21, kp f22, kp f23, kp f24⟩
          · -- 1
            have d0 := f0 (hd' 0 (by kernel_rfl))
            refine slot_step rfl rfl (fun az hs K hK => ?_)
            have hK : Shut _ := hK
            have e13 := hs.get 13
            rw [d0] at e13
            go_simp
            exact hK.out _ _ ⟨r0, r5, r6, hbz, kp f0, fun _ => rfl, kp f2, kp f3, kp f4, kp f5, kp f6, kp f7, kp f8, kp f9, kp f10, kp f11, kp f12, kp f13, kp f14, kp f15, kp f16, kp f17, kp f18, kp f19, kp f20, kp f21, kp f22, kp f23, kp f24⟩
          · -- 2
            have d1 := f1 (hd' 1 (by kernel_rfl))
            refine slot_step rfl rfl (fun az hs K hK => ?_)
            have hK : Shut _ := hK
            have e14 := hs.get 14
            rw [d1] at e14
            go_simp
            exact hK.out _ _ ⟨r0, r5, r6, hbz, kp f0, kp f1, fun _ => rfl, kp f3, kp f4, kp f5, kp f6, kp f7, kp f8, kp f9, kp f10, kp f11, kp f12, kp f13, kp f14, kp f15, kp f16, kp f17, kp f18, kp f19, kp f20, kp f21, kp f22, kp f23, kp f24⟩
          · -- 3
            have d2 := f2 (hd' 2 (by kernel_rfl))
            refine slot_step_yes (j := 2) (d := 15) rfl rfl rfl (by decide) (d2) (fun az hs K hK => ?_)
            have hK : Shut _ := hK
            have e15 := hs.get 15
            rw [d2] at e15
            have e6 := hs.get 6
            rw [r6] at e6
            go_simp
            exact hK.out _ _ ⟨r0, r5, r6, hbz, kp f0, kp f1, kp f2, fun _ => rfl, kp f4, kp f5, kp f6, kp f7, kp f8, kp f9, kp f10, kp f11, kp f12, kp f13, kp f14, kp f15, kp f16, kp f17, kp f18, kp f19, kp f20, kp f21, kp f22, kp f23, kp f24⟩
          · -- 4
            have d2 := f2 (hd' 2 (by kernel_rfl))
            have d3 := f3 (hd' 3 (by kernel_rfl))
            refine slot_step_yes (j := 2) (d := 15) rfl rfl rfl (by decide) (d2) (fun az hs K hK => ?_)
            have hK : Shut _ := hK
            have e15 := hs.get 15
            rw [d2] at e15
            have e16 := hs.get 16
            rw [d3] at e16
            go_simp
            exact hK.out _ _ ⟨r0, r5, r6, hbz, kp f0, kp f1, kp f2, kp f3, fun _ => rfl, kp f5, kp f6, kp f7, kp f8, kp f9, kp f10, kp f11, kp f12, kp f13, kp f14, kp f15, kp f16, kp f17, kp f18, kp f19, kp f20, kp f21, kp f22, kp f23, kp f24⟩
          · -- 5
            have d2 := f2 (hd' 2 (by kernel_rfl))
            have d4 := f4 (hd' 4 (by kernel_rfl))
            refine slot_step rfl rfl (fun az hs K hK => ?_)
            have hK : Shut _ := hK
            have e15 := hs.get 15
            rw [d2] at e15
            have e17 := hs.get 17
            rw [d4] at e17
            go_simp
            exact hK.out _ _ ⟨r0, r5, r6, hbz, kp f0, kp f1, kp f2, kp f3, kp f4, fun _ => rfl, kp f6, kp f7, kp f8, kp f9, kp f10, kp f11, kp f12, kp f13, kp f14, kp f15, kp f16, kp f17, kp f18, kp f19, kp f20, kp f21, kp f22, kp f23, kp f24⟩
          · -- 6
            have d5 := f5 (hd' 5 (by kernel_rfl))
            refine slot_step rfl rfl (fun az hs K hK => ?_)
            have hK : Shut _ := hK
            have e18 := hs.get 18
            rw [d5] at e18
            go_simp
            exact hK.out _ _ ⟨r0, r5, r6, hbz, kp f0, kp f1, kp f2, kp f3, kp f4, kp f5, fun _ => rfl, kp f7, kp f8, kp f9, kp f10, kp f11, kp f12, kp f13, kp f14, kp f15, kp f16, kp f17, kp f18, kp f19, kp f20, kp f21, kp f22, kp f23, kp f24⟩
          · -- 7
            have d6 := f6 (hd' 6 (by kernel_rfl))
            refine slot_step_yes (j := 6) (d := 19) rfl rfl rfl (by decide) (d6) (fun az hs K hK => ?_)
            have hK : Shut _ := hK
            have e19 := hs.get 19
            rw [d6] at e19
            have e5 := hs.get 5
            rw [r5] at e5
            go_simp
            exact hK.out _ _ ⟨r0, r5, r6, hbz, kp f0, kp f1, kp f2, kp f3, kp f4, kp f5, kp f6, fun _ => rfl, kp f8, kp f9, kp f10, kp f11, kp f12, kp f13, kp f14, kp f15, kp f16, kp f17, kp f18, kp f19, kp f20, kp f21, kp f22, kp f23, kp f24⟩
          · -- 8
            have d6 := f6 (hd' 6 (by kernel_rfl))
            have d7 := f7 (hd' 7 (by kernel_rfl))
            refine slot_step_yes (j := 6) (d := 19) rfl rfl rfl (by decide) (d6) (fun az hs K hK => ?_)
            have hK : Shut _ := hK
            have e19 := hs.get 19
            rw [d6] at e19
            have e20 := hs.get 20
            rw [d7] at e20
            go_simp
            exact hK.out _ _ ⟨r0, r5, r6, hbz, kp f0, kp f1, kp f2, kp f3, kp f4, kp f5, kp f6, kp f7, fun _ => rfl, kp f9, kp f10, kp f11, kp f12, kp f13, kp f14, kp f15, kp f16, kp f17, kp f18, kp f19, kp f20, kp f21, kp f22, kp f23, kp f24⟩
          · -- 9
            have d6 := f6 (hd' 6 (by kernel_rfl))
            have d8 := f8 (hd' 8 (by kernel_rfl))
            refine slot_step_yes (j := 6) (d := 19) rfl rfl rfl (by decide) (d6) (fun az hs K hK => ?_)
            have hK : Shut _ := hK
            have e19 := hs.get 19
            rw [d6] at e19
            have e21 := hs.get 21
            rw [d8] at e21
            go_simp
            exact hK.out _ _ ⟨r0, r5, r6, hbz, kp f0, kp f1, kp f2, kp f3, kp f4, kp f5, kp f6, kp f7, kp f8, fun _ => rfl, kp f10, kp f11, kp f12, kp f13, kp f14, kp f15, kp f16, kp f17, kp f18, kp f19, kp f20, kp f21, kp f22, kp f23, kp f24⟩
          · -- 10
            have d6 := f6 (hd' 6 (by kernel_rfl))
            have d9 := f9 (hd' 9 (by kernel_rfl))
            refine slot_step_yes (j := 6) (d := 19) rfl rfl rfl (by decide) (d6) (fun az hs K hK => ?_)
            have hK : Shut _ := hK
            have e19 := hs.get 19
            rw [d6] at e19
            have e22 := hs.get 22
            rw [d9] at e22
            go_simp
            exact hK.out _ _ ⟨r0, r5, r6, hbz, kp f0, kp f1, kp f2, kp f3, kp f4, kp f5, kp f6, kp f7, kp f8, kp f9, fun _ => rfl, kp f11, kp f12, kp f13, kp f14, kp f15, kp f16, kp f17, kp f18, kp f19, kp f20, kp f21, kp f22, kp f23, kp f24⟩
          · -- 11
            have d10 := f10 (hd' 10 (by kernel_rfl))
            refine slot_step_yes (j := 10) (d := 23) rfl rfl rfl (by decide) (d10) (fun az hs K hK => ?_)
            have hK : Shut _ := hK
            have e23 := hs.get 23
            rw [d10] at e23
            have e5 := hs.get 5
            rw [r5] at e5
            go_simp
            exact hK.out _ _ ⟨r0, r5, r6, hbz, kp f0, kp f1, kp f2, kp f3, kp f4, kp f5, kp f6, kp f7, kp f8, kp f9, kp f10, fun _ => rfl, kp f12, kp f13, kp f14, kp f15, kp f16, kp f17, kp f18, kp f19, kp f20, kp f21, kp f22, kp f23, kp f24⟩
          · -- 12
            have d10 := f10 (hd' 10 (by kernel_rfl))
            refine slot_step_yes (j := 10) (d := 23) rfl rfl rfl (by decide) (d10) (fun az hs K hK => ?_)
            have hK : Shut _ := hK
            have e23 := hs.get 23
            rw [d10] at e23
            have e5 := hs.get 5
            rw [r5] at e5
            go_simp
            exact hK.out _ _ ⟨r0, r5, r6, hbz, kp f0, kp f1, kp f2, kp f3, kp f4, kp f5, kp f6, kp f7, kp f8, kp f9, kp f10, kp f11, fun _ => rfl, kp f13, kp f14, kp f15, kp f16, kp f17, kp f18, kp f19, kp f20, kp f21, kp f22, kp f23, kp f24⟩
          · -- 13
            have d10 := f10 (hd' 10 (by kernel_rfl))
            have d12 := f12 (hd' 12 (by kernel_rfl))
            refine slot_step_yes (j := 10) (d := 23) rfl rfl rfl (by decide) (d10) (fun az hs K hK => ?_)
            have hK : Shut _ := hK
            have e23 := hs.get 23
            rw [d10] at e23
            have e25 := hs.get 25
            rw [d12] at e25
            go_simp
            exact hK.out _ _ ⟨r0, r5, r6, hbz, kp f0, kp f1, kp f2, kp f3, kp f4, kp f5, kp f6, kp f7, kp f8, kp f9, kp f10, kp f11, kp f12, fun _ => rfl, kp f14, kp f15, kp f16, kp f17, kp f18, kp f19, kp f20, kp f21, kp f22, kp f23, kp f24⟩
          · -- 14
            have d10 := f10 (hd' 10 (by kernel_rfl))
            have d13 := f13 (hd' 13 (by kernel_rfl))
            refine slot_step_yes (j := 10) (d := 23) rfl rfl rfl (by decide) (d10) (fun az hs K hK => ?_)
            have hK : Shut _ := hK
            have e23 := hs.get 23
            rw [d10] at e23
            have e26 := hs.get 26
            rw [d13] at e26
            go_simp
            exact hK.out _ _ ⟨r0, r5, r6, hbz, kp f0, kp f1, kp f2, kp f3, kp f4, kp f5, kp f6, kp f7, kp f8, kp f9, kp f10, kp f11, kp f12, kp f13, fun _ => rfl, kp f15, kp f16, kp f17, kp f18, kp f19, kp f20, kp f21, kp f22, kp f23, kp f24⟩
          · -- 15
            have d10 := f10 (hd' 10 (by kernel_rfl))
            have d11 := f11 (hd' 11 (by kernel_rfl))
            have d14 := f14 (hd' 14 (by kernel_rfl))
            refine slot_step_yes (j := 10) (d := 23) rfl rfl rfl (by decide) (d10) (fun az hs K hK => ?_)
            have hK : Shut _ := hK
            have e23 := hs.get 23
            rw [d10] at e23
            have e24 := hs.get 24
            rw [d11] at e24
            have e27 := hs.get 27
            rw [d14] at e27
            go_simp
            exact hK.out _ _ ⟨r0, r5, r6, hbz, kp f0, kp f1, kp f2, kp f3, kp f4, kp f5, kp f6, kp f7, kp f8, kp f9, kp f10, kp f11, kp f12, kp f13, kp f14, fun _ => rfl, kp f16, kp f17, kp f18, kp f19, kp f20, kp f21, kp f22, kp f23, kp f24⟩
          · -- 16
            have d10 := f10 (hd' 10 (by kernel_rfl))
            have d15 := f15 (hd' 15 (by kernel_rfl))
            refine slot_step_yes (j := 10) (d := 23) rfl rfl rfl (by decide) (d10) (fun az hs K hK => ?_)
            have hK : Shut _ := hK
            have cz := (hbz.cell _).trans cl
            have e23 := hs.get 23
            rw [d10] at e23
            have e28 := hs.get 28
            rw [d15] at e28
            go_simp
            exact hK.out _ _ ⟨r0, r5, r6, hbz, kp f0, kp f1, kp f2, kp f3, kp f4, kp f5, kp f6, kp f7, kp f8, kp f9, kp f10, kp f11, kp f12, kp f13, kp f14, kp f15, fun _ => rfl, kp f17, kp f18, kp f19, kp f20, kp f21, kp f22, kp f23, kp f24⟩
          · -- 17
            have d10 := f10 (hd' 10 (by kernel_rfl))
            have d16 := f16 (hd' 16 (by kernel_rfl))
            refine slot_step_yes (j := 10) (d := 23) rfl rfl rfl (by decide) (d10) (fun az hs K hK => ?_)
            have hK : Shut _ := hK
            have e23 := hs.get 23
            rw [d10] at e23
            have e29 := hs.get 29
            rw [d16] at e29
            go_simp
            exact hK.out _ _ ⟨r0, r5, r6, hbz, kp f0, kp f1, kp f2, kp f3, kp f4, kp f5, kp f6, kp f7, kp f8, kp f9, kp f10, kp f11, kp f12, kp f13, kp f14, kp f15, kp f16, fun _ => rfl, kp f18, kp f19, kp f20, kp f21, kp f22, kp f23, kp f24⟩
          · -- 18
            have d10 := f10 (hd' 10 (by kernel_rfl))
            refine slot_step_yes (j := 10) (d := 23) rfl rfl rfl (by decide) (d10) (fun az hs K hK => ?_)
            have hK : Shut _ := hK
            have e23 := hs.get 23
            rw [d10] at e23
            have e0 := hs.get 0
            rw [r0] at e0
            go_simp
            exact hK.out _ _ ⟨r0, r5, r6, hbz, kp f0, kp f1, kp f2, kp f3, kp f4, kp f5, kp f6, kp f7, kp f8, kp f9, kp f10, kp f11, kp f12, kp f13, kp f14, kp f15, kp f16, kp f17, fun _ => rfl, kp f19, kp f20, kp f21, kp f22, kp f23, kp f24⟩
          · -- 19
            have d10 := f10 (hd' 10 (by kernel_rfl))
            have d18 := f18 (hd' 18 (by kernel_rfl))
            refine slot_step_yes (j := 10) (d := 23) rfl rfl rfl (by decide) (d10) (fun az hs K hK => ?_)
            have hK : Shut _ := hK
            have e23 := hs.get 23
            rw [d10] at e23
            have e31 := hs.get 31
            rw [d18] at e31
            go_simp
            exact hK.out _ _ ⟨r0, r5, r6, hbz, kp f0, kp f1, kp f2, kp f3, kp f4, kp f5, kp f6, kp f7, kp f8, kp f9, kp f10, kp f11, kp f12, kp f13, kp f14, kp f15, kp f16, kp f17, kp f18, fun _ => rfl, kp f20, kp f21, kp f22, kp f23, kp f24⟩
          · -- 20
            have d10 := f10 (hd' 10 (by kernel_rfl))
            have d19 := f19 (hd' 19 (by kernel_rfl))
            refine slot_step_yes (j := 10) (d := 23) rfl rfl rfl (by decide) (d10) (fun az hs K hK => ?_)
            have hK : Shut _ := hK
            have e23 := hs.get 23
            rw [d10] at e23
            have e32 := hs.get 32
            rw [d19] at e32
            go_simp
            exact hK.out _ _ ⟨r0, r5, r6, hbz, kp f0, kp f1, kp f2, kp f3, kp f4, kp f5, kp f6, kp f7, kp f8, kp f9, kp f10, kp f11, kp f12, kp f13, kp f14, kp f15, kp f16, kp f17, kp f18, kp f19, fun _ => rfl, kp f21, kp f22, kp f23, kp f24⟩
          · -- 21
            have d10 := f10 (hd' 10 (by kernel_rfl))
            have d20 := f20 (hd' 20 (by kernel_rfl))
            refine slot_step_yes (j := 10) (d := 23) rfl rfl rfl (by decide) (d10) (fun az hs K hK => ?_)
            have hK : Shut _ := hK
            have cz := (hbz.cell _).trans k0
            have e23 := hs.get 23
            rw [d10] at e23
            have e33 := hs.get 33
            rw [d20] at e33
            go_simp
            exact hK.out _ _ ⟨r0, r5, r6, hbz, kp f0, kp f1, kp f2, kp f3, kp f4, kp f5, kp f6, kp f7, kp f8, kp f9, kp f10, kp f11, kp f12, kp f13, kp f14, kp f15, kp f16, kp f17, kp f18, kp f19, kp f20, fun _ => rfl, kp f22, kp f23, kp f24⟩
          · -- 22
            have d10 := f10 (hd' 10 (by kernel_rfl))
            have d17 := f17 (hd' 17 (by kernel_rfl))
            have d21 := f21 (hd' 21 (by kernel_rfl))
            refine slot_step_yes (j := 10) (d := 23) rfl rfl rfl (by decide) (d10) (fun az hs K hK => ?_)
            have hK : Shut _ := hK
            have e23 := hs.get 23
            rw [d10] at e23
            have e30 := hs.get 30
            rw [d17] at e30
            have e34 := hs.get 34
            rw [d21] at e34
            go_simp
            exact hK.out _ _ ⟨r0, r5, r6, hbz, kp f0, kp f1, kp f2, kp f3, kp f4, kp f5, kp f6, kp f7, kp f8, kp f9, kp f10, kp f11, kp f12, kp f13, kp f14, kp f15, kp f16, kp f17, kp f18, kp f19, kp f20, kp f21, fun _ => rfl, kp f23, kp f24⟩
          · -- 23
            have d6 := f6 (hd' 6 (by kernel_rfl))
            have d10 := f10 (hd' 10 (by kernel_rfl))
            have d22 := f22 (hd' 22 (by kernel_rfl))
            refine slot_step_yes (j := 6) (d := 19) rfl rfl rfl (by decide) (d6) (fun az hs K hK => ?_)
            have hK : Shut _ := hK
            have e19 := hs.get 19
            rw [d6] at e19
            have e23 := hs.get 23
            rw [d10] at e23
            have e35 := hs.get 35
            rw [d22] at e35
            go_simp
            exact hK.out _ _ ⟨r0, r5, r6, hbz, kp f0, kp f1, kp f2, kp f3, kp f4, kp f5, kp f6, kp f7, kp f8, kp f9, kp f10, kp f11, kp f12, kp f13, kp f14, kp f15, kp f16, kp f17, kp f18, kp f19, kp f20, kp f21, kp f22, fun _ => rfl, kp f24⟩
          · -- 24
            have d6 := f6 (hd' 6 (by kernel_rfl))
            have d23 := f23 (hd' 23 (by kernel_rfl))
            refine slot_step rfl rfl (fun az hs K hK => ?_)
            have hK : Shut _ := hK
            have e19 := hs.get 19
            rw [d6] at e19
            have e36 := hs.get 36
            rw [d23] at e36
            go_simp
            exact hK.out _ _ ⟨r0, r5, r6, hbz, kp f0, kp f1, kp f2, kp f3, kp f4, kp f5, kp f6, kp f7, kp f8, kp f9, kp f10, kp f11, kp f12, kp f13, kp f14, kp f15, kp f16, kp f17, kp f18, kp f19, kp f20, kp f21, kp f22, kp f23, fun _ => rfl⟩
        case hdone =>
          rintro D g wz hD ⟨r0, r5, r6, hbz, f0, f1, f2, f3, f4, f5, f6, f7, f8, f9, f10, f11, f12, f13, f14, f15, f16, f17, f18, f19, f20, f21, f22, f23, f24⟩
          simp only [setAll, List.foldl_cons, List.foldl_nil, List.setIfInBounds_toArray, List.set_cons_succ, List.set_cons_zero]
          have e37 := f24 (hD 24)
          rw [e37]
          clear f0 f1 f2 f3 f4 f5 f6 f7 f8 f9 f10 f11 f12 f13 f14 f15 f16 f17 f18 f19 f20 f21 f22 f23 f24 hD r0 r5 r6 e37
          have h2 := h1.keep (hbz.below _)
          obtain ⟨w2, hw2⟩ : ∃ w2, w2 = wz := ⟨_, rfl⟩
          subst hw2
          have hb2 := hb1.trans ((hbz.below _).mono hb1.size)
          have hr2 := hr1.below (hbz.below _) (Nat.le_refl _)
          clear hbz
          have k1 : w2.cell? ⟨p, 1, none⟩ = some (.int .i64 next) := h2.box.cell 1
          have fz1 := h2.box.frozen 1
          obtain ⟨w3, hw3⟩ : ∃ w3, w2.setCell ⟨p, 1, none⟩ (.int .i64 (next + 1)) = w3 := ⟨_, rfl⟩
          have hset := fr_set (S := fun g => g = p) (p := ⟨p, 1, none⟩) (w := w2) rfl (.int .i64 (next + 1))
          have hbox3 := h2.box.set_ 1 (.int .i64 (next + 1))
          have hall3 := h2.all.setCell (p := ⟨p, 1, none⟩) (fun e => map_blk h2.all h2.box e.symm) (.int .i64 (next + 1))
          have hnor3 := h2.norms.setCell (p := ⟨p, 1, none⟩) (fun e => map_blk h2.norms h2.box e.symm) (.int .i64 (next + 1))
          have hsho3 := h2.short.setCell (p := ⟨p, 1, none⟩) (fun e => map_blk h2.short h2.box e.symm) (.int .i64 (next + 1))
          have hby3 := h2.by_.setCell (p := ⟨p, 1, none⟩) (fun e => map_blk h2.by_ h2.box e.symm) (.int .i64 (next + 1))
          have hfre3 := hset.own h2.fresh (fun g hg e => own_blk_ne h2.fresh h2.box (by decide) (by rw [hg, e]))
          have hp2 : p < w2.heap.size := h2.box.lt
          have hpW : p < W.heap.size := h.box.lt
          have hmSW := hide h.short.lt
          have hfW := hide (show ∀ g : Nat, fv.ownBlock = some g → g < W.heap.size from fun g hg => by rcases own_cases h.fresh with ⟨h2, _⟩ | ⟨g2, cap, h2, _, h3, _⟩ <;> rw [h2] at hg <;> cases hg; exact h3)
          have hset2 := (Below.refl base w2).setCell (p := ⟨p, 1, none⟩) h2.lo.1 (.int .i64 (next + 1))
          have hr3 : Rd (w2.setCell ⟨p, 1, none⟩ (.int .i64 (next + 1))) (some ad) q (ivs (normC l)) := hset.rd hr2 (fun ad he e => by have := hlo1 ad he; omega)
          rw [hw3] at hset hbox3 hall3 hnor3 hsho3 hby3 hfre3 hset2 hr3
          have hfr3 := hide ((Fr.of_below (S := fun g => g = p ∨ g = mA ∨ g = mN ∨ g = mS ∨ fv.ownBlock = some g) hb2).trans (hset.more (fun g _ e => .inl e)))
          have hb3 := hide (((hb2.mono hbase).trans (hset2.mono (Nat.le_refl _))))
          have hsz3 : W.heap.size ≤ w3.heap.size := Nat.le_trans hb2.size hset2.size
          obtain ⟨d1, d2, d3, d4, d5, d6⟩ := h.d1
          have hlo := hide h.lo
          have k3 : w3.cell? ⟨p, 3, none⟩ = some (.map (some mN)) := hbox3.cell 3
          have k2 : w3.cell? ⟨p, 2, none⟩ = some (.map (some mA)) := hbox3.cell 2
          have hrd3 : ∀ ad0 : Addr, (some ad) = some ad0 → ¬ (ad0.block = mA ∨ ad0.block = mN) := fun ad0 he e => by
            have h7 := hlo1 ad0 he
            have h8 := h.all.lt
            have h9 := h.norms.lt
            omega
          have pN : ¬ (p = mA ∨ p = mN) := fun e => e.elim (map_blk hall3 hbox3) (map_blk hnor3 hbox3)
          replace hbox3 := hide (show Blk w3 p 131 (boxS n (next + 1) mA mN mS mB fv) from hbox3)
          replace hall3 := hide hall3
          replace hnor3 := hide hnor3
          replace hsho3 := hide hsho3
          replace hby3 := hide hby3
          replace hfre3 := hide hfre3
          replace hr3 := hide hr3
          replace hlo1 := hide hlo1
          replace hb2 := hide hb2
          clear h1 h2 hr2 hset hset2 hb1 h
          go_wp2
          refine wp_region_slots [49, 50, 51, 52, 53, 54, 55, 56, 57, 58, 59, 60, 61, 62, 63, 64, 65, 66, 67] (fun D g wz => g 0 = .pointer (some ⟨p, 0, none⟩) ∧ g 5 = .slice (some ad) q c1 ∧ g 7 = .int .i64 next ∧ Fr (fun g => g = mA ∨ g = mN) w3 wz ∧ (¬ D 15 → MapS wz Lt.encI mN nl) ∧ (D 15 → ¬ D 17 → ∃ c9 : Nat, g 64 = .tuple #[.slice none 0 0, .int .i64 (c9 : Int)] ∧ EntS wz Lt.encI mN (mput nl next (.slice none 0 0)) next c9) ∧ (¬ D 18 → MapS wz Lt.encI mA al) ∧ (D 18 → ¬ D 20 → ∃ c9 : Nat, g 66 = .tuple #[.pointer none, .int .i64 (c9 : Int)] ∧ EntS wz Lt.encI mA (mput al next (.pointer none)) next c9) ∧ (D 13 → D 12) ∧ (D 14 → D 13) ∧ (D 16 → D 15) ∧ (D 17 → D 15) ∧ (D 17 → D 16) ∧ (D 19 → D 18) ∧ (D 20 → D 18) ∧ (D 20 → D 19) ∧ (D 20 → D 14) ∧ (D 0 → g 49 = .pointer (some ⟨p, 0, none⟩)) ∧ (D 1 → g 50 = .pointer (some ⟨p, 0, none⟩)) ∧ (D 2 → g 51 = .pointer (some ⟨p, 3, none⟩)) ∧ (D 3 → g 52 = .map (some mN)) ∧ (D 4 → g 53 = .int .i64 next) ∧ (D 5 → g 54 = .pointer (some ⟨p, 0, none⟩)) ∧ (D 6 → g 55 = .pointer (some ⟨p, 0, none⟩)) ∧ (D 7 → g 56 = .pointer (some ⟨p, 2, none⟩)) ∧ (D 8 → g 57 = .map (some mA)) ∧ (D 9 → g 58 = .int .i64 next) ∧ (D 10 → g 59 = .slice (some ad) q c1) ∧ (D 11 → g 60 = .slice (some ad) q c1) ∧ (D 12 → ∃ sw : Sl, g 61 = sw.val ∧ sw.n = q ∧ wz.ownsRow w3.heap.size 3 1 sw.val q (ivs (normC l))) ∧ (D 13 → ∃ sw : Sl, g 61 = sw.val ∧ g 62 = .agg #[sw.val]) ∧ (D 14 → ∃ (sw : Sl) (b : Nat), g 61 = sw.val ∧ g 63 = .pointer (some ⟨b, 0, none⟩) ∧ w3.heap.size ≤ b ∧ Blk wz b 139 #[sw.val]) ∧ (D 15 → True) ∧ (D 16 → ∃ c9 : Nat, g 64 = .tuple #[.slice none 0 0, .int .i64 (c9 : Int)] ∧ g 65 = .int .i64 (c9 : Int)) ∧ (D 17 → MapS wz Lt.encI mN (mput nl next (.slice (some ad) q c1))) ∧ (D 18 → True) ∧ (D 19 → ∃ c9 : Nat, g 66 = .tuple #[.pointer none, .int .i64 (c9 : Int)] ∧ g 67 = .int .i64 (c9 : Int)) ∧ (D 20 → ∃ b : Nat, g 63 = .pointer (some ⟨b, 0, none⟩) ∧ MapS wz Lt.encI mA (mput al next (.pointer (some ⟨b, 0, none⟩))))) (by kernel_rfl) (by kernel_rfl) 87 rfl (by kernel_rfl) ?h0 ?hstep ?hdone
          case h0 => exact ⟨rfl, rfl, rfl, Fr.of_below ((Dr.refl w3).drew.below _), (fun _ => hnor3.out.dr (Dr.refl w3).drew), nt0, (fun _ => hall3.out.dr (Dr.refl w3).drew), nt0, nt0, nt0, nt0, nt0, nt0, nt0, nt0, nt0, nt0, nt0, nt0, nt0, nt0, nt0, nt0, nt0, nt0, nt0, nt0, nt0, nt0, nt0, nt0, nt0, nt0, nt0, nt0, nt0, nt0, nt0⟩
          case hstep =>
            intro D g wz i hi' hn hd' hI2
            obtain ⟨r0, r5, r7, hfz, v_N, u_N, v_A, u_A, c13, c14, c16, c17, e17, c19, c20, e20, g20, f0, f1, f2, f3, f4, f5, f6, f7, f8, f9, f10, f11, f12, f13, f14, f15, f16, f17, f18, f19, f20⟩ := hI2
            have hi' : i < 21 := hi'
            rcases (show i = 0 ∨ i = 1 ∨ i = 2 ∨ i = 3 ∨ i = 4 ∨ i = 5 ∨ i = 6 ∨ i = 7 ∨ i = 8 ∨ i = 9 ∨ i = 10 ∨ i = 11 ∨ i = 12 ∨ i = 13 ∨ i = 14 ∨ i = 15 ∨ i = 16 ∨ i = 17 ∨ i = 18 ∨ i = 19 ∨ i = 20 by omega) with rfl | rfl | rfl | rfl | rfl | rfl | rfl | rfl | rfl | rfl | rfl | rfl | rfl | rfl | rfl | rfl | rfl | rfl | rfl | rfl | rfl
            · -- 0
              refine slot_step rfl rfl (fun az hs K hK => ?_)
              have hK : Shut _ := hK
              have e0 := hs.get 0
              rw [r0] at e0
              go_simp
              exact hK.out _ _ ⟨r0, r5, r7, hfz, (fun h => v_N (fun e => h (Or.inr e))), (fun h h' => u_N (h.resolve_left (by decide)) (fun e => h' (Or.inr e))), (fun h => v_A (fun e => h (Or.inr e))), (fun h h' => u_A (h.resolve_left (by decide)) (fun e => h' (Or.inr e))), (fun h => h.elim (fun e => absurd e (by decide)) (fun h => Or.inr (c13 h))), (fun h => h.elim (fun e => absurd e (by decide)) (fun h => Or.inr (c14 h))), (fun h => h.elim (fun e => absurd e (by decide)) (fun h => Or.inr (c16 h))), (fun h => h.elim (fun e => absurd e (by decide)) (fun h => Or.inr (c17 h))), (fun h => h.elim (fun e => absurd e (by decide)) (fun h => Or.inr (e17 h))), (fun h => h.elim (fun e => absurd e (by decide)) (fun h => Or.inr (c19 h))), (fun h => h.elim (fun e => absurd e (by decide)) (fun h => Or.inr (c20 h))), (fun h => h.elim (fun e => absurd e (by decide)) (fun h => Or.inr (e20 h))), (fun h => h.elim (fun e => absurd e (by decide)) (fun h => Or.inr (g20 h))), fun _ => rfl, kp f1, kp f2, kp f3, kp f4, kp f5, kp f6, kp f7, kp f8, kp f9, kp f10, kp f11, kp f12, kp f13, kp f14, kp f15, kp f16, kp f17, kp f18, kp f19, kp f20⟩
            · -- 1
              have d0 := f0 (hd' 0 (by kernel_rfl))
              refine slot_step rfl rfl (fun az hs K hK => ?_)
              have hK : Shut _ := hK
              have e49 := hs.get 49
              rw [d0] at e49
              go_simp
              exact hK.out _ _ ⟨r0, r5, r7, hfz, (fun h => v_N (fun e => h (Or.inr e))), (fun h h' => u_N (h.resolve_left (by decide)) (fun e => h' (Or.inr e))), (fun h => v_A (fun e => h (Or.inr e))), (fun h h' => u_A (h.resolve_left (by decide)) (fun e => h' (Or.inr e))), (fun h => h.elim (fun e => absurd e (by decide)) (fun h => Or.inr (c13 h))), (fun h => h.elim (fun e => absurd e (by decide)) (fun h => Or.inr (c14 h))), (fun h => h.elim (fun e => absurd e (by decide)) (fun h => Or.inr (c16 h))), (fun h => h.elim (fun e => absurd e (by decide)) (fun h => Or.inr (c17 h))), (fun h => h.elim (fun e => absurd e (by decide)) (fun h => Or.inr (e17 h))), (fun h => h.elim (fun e => absurd e (by decide)) (fun h => Or.inr (c19 h))), (fun h => h.elim (fun e => absurd e (by decide)) (fun h => Or.inr (c20 h))), (fun h => h.elim (fun e => absurd e (by decide)) (fun h => Or.inr (e20 h))), (fun h => h.elim (fun e => absurd e (by decide)) (fun h => Or.inr (g20 h))), kp f0, fun _ => rfl, kp f2, kp f3, kp f4, kp f5, kp f6, kp f7, kp f8, kp f9, kp f10, kp f11, kp f12, kp f13, kp f14, kp f15, kp f16, kp f17, kp f18, kp f19, kp f20⟩
            · -- 2
              have d1 := f1 (hd' 1 (by kernel_rfl))
              refine slot_step rfl rfl (fun az hs K hK => ?_)
              have hK : Shut _ := hK
              have e50 := hs.get 50
              rw [d1] at e50
              go_simp
              exact hK.out _ _ ⟨r0, r5, r7, hfz, (fun h => v_N (fun e => h (Or.inr e))), (fun h h' => u_N (h.resolve_left (by decide)) (fun e => h' (Or.inr e))), (fun h => v_A (fun e => h (Or.inr e))), (fun h h' => u_A (h.resolve_left (by decide)) (fun e => h' (Or.inr e))), (fun h => h.elim (fun e => absurd e (by decide)) (fun h => Or.inr (c13 h))), (fun h => h.elim (fun e => absurd e (by decide)) (fun h => Or.inr (c14 h))), (fun h => h.elim (fun e => absurd e (by decide)) (fun h => Or.inr (c16 h))), (fun h => h.elim (fun e => absurd e (by decide)) (fun h => Or.inr (c17 h))), (fun h => h.elim (fun e => absurd e (by decide)) (fun h => Or.inr (e17 h))), (fun h => h.elim (fun e => absurd e (by decide)) (fun h => Or.inr (c19 h))), (fun h => h.elim (fun e => absurd e (by decide)) (fun h => Or.inr (c20 h))), (fun h => h.elim (fun e => absurd e (by decide)) (fun h => Or.inr (e20 h))), (fun h => h.elim (fun e => absurd e (by decide)) (fun h => Or.inr (g20 h))), kp f0, kp f1, fun _ => rfl, kp f3, kp f4, kp f5, kp f6, kp f7, kp f8, kp f9, kp f10, kp f11, kp f12, kp f13, kp f14, kp f15, kp f16, kp f17, kp f18, kp f19, kp f20⟩
            · -- 3
              have d2 := f2 (hd' 2 (by kernel_rfl))
              refine slot_step rfl rfl (fun az hs K hK => ?_)
              have hK : Shut _ := hK
              have cz := hfz.cell k3 pN
              have e51 := hs.get 51
              rw [d2] at e51
              go_simp
              exact hK.out _ _ ⟨r0, r5, r7, hfz, (fun h => v_N (fun e => h (Or.inr e))), (fun h h' => u_N (h.resolve_left (by decide)) (fun e => h' (Or.inr e))), (fun h => v_A (fun e => h (Or.inr e))), (fun h h' => u_A (h.resolve_left (by decide)) (fun e => h' (Or.inr e))), (fun h => h.elim (fun e => absurd e (by decide)) (fun h => Or.inr (c13 h))), (fun h => h.elim (fun e => absurd e (by decide)) (fun h => Or.inr (c14 h))), (fun h => h.elim (fun e => absurd e (by decide)) (fun h => Or.inr (c16 h))), (fun h => h.elim (fun e => absurd e (by decide)) (fun h => Or.inr (c17 h))), (fun h => h.elim (fun e => absurd e (by decide)) (fun h => Or.inr (e17 h))), (fun h => h.elim (fun e => absurd e (by decide)) (fun h => Or.inr (c19 h))), (fun h => h.elim (fun e => absurd e (by decide)) (fun h => Or.inr (c20 h))), (fun h => h.elim (fun e => absurd e (by decide)) (fun h => Or.inr (e20 h))), (fun h => h.elim (fun e => absurd e (by decide)) (fun h => Or.inr (g20 h))), kp f0, kp f1, kp f2, fun _ => rfl, kp f4, kp f5, kp f6, kp f7, kp f8, kp f9, kp f10, kp f11, kp f12, kp f13, kp f14, kp f15, kp f16, kp f17, kp f18, kp f19, kp f20⟩
            · -- 4
              refine slot_step rfl rfl (fun az hs K hK => ?_)
              have hK : Shut _ := hK
              have e7 := hs.get 7
              rw [r7] at e7
              go_simp
              exact hK.out _ _ ⟨r0, r5, r7, hfz, (fun h => v_N (fun e => h (Or.inr e))), (fun h h' => u_N (h.resolve_left (by decide)) (fun e => h' (Or.inr e))), (fun h => v_A (fun e => h (Or.inr e))), (fun h h' => u_A (h.resolve_left (by decide)) (fun e => h' (Or.inr e))), (fun h => h.elim (fun e => absurd e (by decide)) (fun h => Or.inr (c13 h))), (fun h => h.elim (fun e => absurd e (by decide)) (fun h => Or.inr (c14 h))), (fun h => h.elim (fun e => absurd e (by decide)) (fun h => Or.inr (c16 h))), (fun h => h.elim (fun e => absurd e (by decide)) (fun h => Or.inr (c17 h))), (fun h => h.elim (fun e => absurd e (by decide)) (fun h => Or.inr (e17 h))), (fun h => h.elim (fun e => absurd e (by decide)) (fun h => Or.inr (c19 h))), (fun h => h.elim (fun e => absurd e (by decide)) (fun h => Or.inr (c20 h))), (fun h => h.elim (fun e => absurd e (by decide)) (fun h => Or.inr (e20 h))), (fun h => h.elim (fun e => absurd e (by decide)) (fun h => Or.inr (g20 h))), kp f0, kp f1, kp f2, kp f3, fun _ => rfl, kp f5, kp f6, kp f7, kp f8, kp f9, kp f10, kp f11, kp f12, kp f13, kp f14, kp f15, kp f16, kp f17, kp f18, kp f19, kp f20⟩
            · -- 5
              refine slot_step rfl rfl (fun az hs K hK => ?_)
              have hK : Shut _ := hK
              have e0 := hs.get 0
              rw [r0] at e0
              go_simp
              exact hK.out _ _ ⟨r0, r5, r7, hfz, (fun h => v_N (fun e => h (Or.inr e))), (fun h h' => u_N (h.resolve_left (by decide)) (fun e => h' (Or.inr e))), (fun h => v_A (fun e => h (Or.inr e))), (fun h h' => u_A (h.resolve_left (by decide)) (fun e => h' (Or.inr e))), (fun h => h.elim (fun e => absurd e (by decide)) (fun h => Or.inr (c13 h))), (fun h => h.elim (fun e => absurd e (by decide)) (fun h => Or.inr (c14 h))), (fun h => h.elim (fun e => absurd e (by decide)) (fun h => Or.inr (c16 h))), (fun h => h.elim (fun e => absurd e (by decide)) (fun h => Or.inr (c17 h))), (fun h => h.elim (fun e => absurd e (by decide)) (fun h => Or.inr (e17 h))), (fun h => h.elim (fun e => absurd e (by decide)) (fun h => Or.inr (c19 h))), (fun h => h.elim (fun e => absurd e (by decide)) (fun h => Or.inr (c20 h))), (fun h => h.elim (fun e => absurd e (by decide)) (fun h => Or.inr (e20 h))), (fun h => h.elim (fun e => absurd e (by decide)) (fun h => Or.inr (g20 h))), kp f0, kp f1, kp f2, kp f3, kp f4, fun _ => rfl, kp f6, kp f7, kp f8, kp f9, kp f10, kp f11, kp f12, kp f13, kp f14, kp f15, kp f16, kp f17, kp f18, kp f19, kp f20⟩
            · -- 6
              have d5 := f5 (hd' 5 (by kernel_rfl))
              refine slot_step rfl rfl (fun az hs K hK => ?_)
              have hK : Shut _ := hK
              have e54 := hs.get 54
              rw [d5] at e54
              go_simp
              exact hK.out _ _ ⟨r0, r5, r7, hfz, (fun h => v_N (fun e => h (Or.inr e))), (fun h h' => u_N (h.resolve_left (by decide)) (fun e => h' (Or.inr e))), (fun h => v_A (fun e => h (Or.inr e))), (fun h h' => u_A (h.resolve_left (by decide)) (fun e => h' (Or.inr e))), (fun h => h.elim (fun e => absurd e (by decide)) (fun h => Or.inr (c13 h))), (fun h => h.elim (fun e => absurd e (by decide)) (fun h => Or.inr (c14 h))), (fun h => h.elim (fun e => absurd e (by decide)) (fun h => Or.inr (c16 h))), (fun h => h.elim (fun e => absurd e (by decide)) (fun h => Or.inr (c17 h))), (fun h => h.elim (fun e => absurd e (by decide)) (fun h => Or.inr (e17 h))), (fun h => h.elim (fun e => absurd e (by decide)) (fun h => Or.inr (c19 h))), (fun h => h.elim (fun e => absurd e (by decide)) (fun h => Or.inr (c20 h))), (fun h => h.elim (fun e => absurd e (by decide)) (fun h => Or.inr (e20 h))), (fun h => h.elim (fun e => absurd e (by decide)) (fun h => Or.inr (g20 h))), kp f0, kp f1, kp f2, kp f3, kp f4, kp f5, fun _ => rfl, kp f7, kp f8, kp f9, kp f10, kp f11, kp f12, kp f13, kp f14, kp f15, kp f16, kp f17, kp f18, kp f19, kp f20⟩
            · -- 7
              have d6 := f6 (hd' 6 (by kernel_rfl))
              refine slot_step rfl rfl (fun az hs K hK => ?_)
              have hK : Shut _ := hK
              have e55 := hs.get 55
              rw [d6] at e55
              go_simp
              exact hK.out _ _ ⟨r0, r5, r7, hfz, (fun h => v_N (fun e => h (Or.inr e))), (fun h h' => u_N (h.resolve_left (by decide)) (fun e => h' (Or.inr e))), (fun h => v_A (fun e => h (Or.inr e))), (fun h h' => u_A (h.resolve_left (by decide)) (fun e => h' (Or.inr e))), (fun h => h.elim (fun e => absurd e (by decide)) (fun h => Or.inr (c13 h))), (fun h => h.elim (fun e => absurd e (by decide)) (fun h => Or.inr (c14 h))), (fun h => h.elim (fun e => absurd e (by decide)) (fun h => Or.inr (c16 h))), (fun h => h.elim (fun e => absurd e (by decide)) (fun h => Or.inr (c17 h))), (fun h => h.elim (fun e => absurd e (by decide)) (fun h => Or.inr (e17 h))), (fun h => h.elim (fun e => absurd e (by decide)) (fun h => Or.inr (c19 h))), (fun h => h.elim (fun e => absurd e (by decide)) (fun h => Or.inr (c20 h))), (fun h => h.elim (fun e => absurd e (by decide)) (fun h => Or.inr (e20 h))), (fun h => h.elim (fun e => absurd e (by decide)) (fun h => Or.inr (g20 h))), kp f0, kp f1, kp f2, kp f3, kp f4, kp f5, kp f6, fun _ => rfl, kp f8, kp f9, kp f10, kp f11, kp f12, kp f13, kp f14, kp f15, kp f16, kp f17, kp f18, kp f19, kp f20⟩
            · -- 8
              have d7 := f7 (hd' 7 (by kernel_rfl))
              refine slot_step rfl rfl (fun az hs K hK => ?_)
              have hK : Shut _ := hK
              have cz := hfz.cell k2 pN
              have e56 := hs.get 56
              rw [d7] at e56
              go_simp
              exact hK.out _ _ ⟨r0, r5, r7, hfz, (fun h => v_N (fun e => h (Or.inr e))), (fun h h' => u_N (h.resolve_left (by decide)) (fun e => h' (Or.inr e))), (fun h => v_A (fun e => h (Or.inr e))), (fun h h' => u_A (h.resolve_left (by decide)) (fun e => h' (Or.inr e))), (fun h => h.elim (fun e => absurd e (by decide)) (fun h => Or.inr (c13 h))), (fun h => h.elim (fun e => absurd e (by decide)) (fun h => Or.inr (c14 h))), (fun h => h.elim (fun e => absurd e (by decide)) (fun h => Or.inr (c16 h))), (fun h => h.elim (fun e => absurd e (by decide)) (fun h => Or.inr (c17 h))), (fun h => h.elim (fun e => absurd e (by decide)) (fun h => Or.inr (e17 h))), (fun h => h.elim (fun e => absurd e (by decide)) (fun h => Or.inr (c19 h))), (fun h => h.elim (fun e => absurd e (by decide)) (fun h => Or.inr (c20 h))), (fun h => h.elim (fun e => absurd e (by decide)) (fun h => Or.inr (e20 h))), (fun h => h.elim (fun e => absurd e (by decide)) (fun h => Or.inr (g20 h))), kp f0, kp f1, kp f2, kp f3, kp f4, kp f5, kp f6, kp f7, fun _ => rfl, kp f9, kp f10, kp f11, kp f12, kp f13, kp f14, kp f15, kp f16, kp f17, kp f18, kp f19, kp f20⟩
            · -- 9
              refine slot_step rfl rfl (fun az hs K hK => ?_)
              have hK : Shut _ := hK
              have e7 := hs.get 7
              rw [r7] at e7
              go_simp
              exact hK.out _ _ ⟨r0, r5, r7, hfz, (fun h => v_N (fun e => h (Or.inr e))), (fun h h' => u_N (h.resolve_left (by decide)) (fun e => h' (Or.inr e))), (fun h => v_A (fun e => h (Or.inr e))), (fun h h' => u_A (h.resolve_left (by decide)) (fun e => h' (Or.inr e))), (fun h => h.elim (fun e => absurd e (by decide)) (fun h => Or.inr (c13 h))), (fun h => h.elim (fun e => absurd e (by decide)) (fun h => Or.inr (c14 h))), (fun h => h.elim (fun e => absurd e (by decide)) (fun h => Or.inr (c16 h))), (fun h => h.elim (fun e => absurd e (by decide)) (fun h => Or.inr (c17 h))), (fun h => h.elim (fun e => absurd e (by decide)) (fun h => Or.inr (e17 h))), (fun h => h.elim (fun e => absurd e (by decide)) (fun h => Or.inr (c19 h))), (fun h => h.elim (fun e => absurd e (by decide)) (fun h => Or.inr (c20 h))), (fun h => h.elim (fun e => absurd e (by decide)) (fun h => Or.inr (e20 h))), (fun h => h.elim (fun e => absurd e (by decide)) (fun h => Or.inr (g20 h))), kp f0, kp f1, kp f2, kp f3, kp f4, kp f5, kp f6, kp f7, kp f8, fun _ => rfl, kp f10, kp f11, kp f12, kp f13, kp f14, kp f15, kp f16, kp f17, kp f18, kp f19, kp f20⟩
            · -- 10
              refine slot_step rfl rfl (fun az hs K hK => ?_)
              have hK : Shut _ := hK
              have e5 := hs.get 5
              rw [r5] at e5
              go_simp
              exact hK.out _ _ ⟨r0, r5, r7, hfz, (fun h => v_N (fun e => h (Or.inr e))), (fun h h' => u_N (h.resolve_left (by decide)) (fun e => h' (Or.inr e))), (fun h => v_A (fun e => h (Or.inr e))), (fun h h' => u_A (h.resolve_left (by decide)) (fun e => h' (Or.inr e))), (fun h => h.elim (fun e => absurd e (by decide)) (fun h => Or.inr (c13 h))), (fun h => h.elim (fun e => absurd e (by decide)) (fun h => Or.inr (c14 h))), (fun h => h.elim (fun e => absurd e (by decide)) (fun h => Or.inr (c16 h))), (fun h => h.elim (fun e => absurd e (by decide)) (fun h => Or.inr (c17 h))), (fun h => h.elim (fun e => absurd e (by decide)) (fun h => Or.inr (e17 h))), (fun h => h.elim (fun e => absurd e (by decide)) (fun h => Or.inr (c19 h))), (fun h => h.elim (fun e => absurd e (by decide)) (fun h => Or.inr (c20 h))), (fun h => h.elim (fun e => absurd e (by decide)) (fun h => Or.inr (e20 h))), (fun h => h.elim (fun e => absurd e (by decide)) (fun h => Or.inr (g20 h))), kp f0, kp f1, kp f2, kp f3, kp f4, kp f5, kp f6, kp f7, kp f8, kp f9, fun _ => rfl, kp f11, kp f12, kp f13, kp f14, kp f15, kp f16, kp f17, kp f18, kp f19, kp f20⟩
            · -- 11
              refine slot_step rfl rfl (fun az hs K hK => ?_)
              have hK : Shut _ := hK
              have e5 := hs.get 5
              rw [r5] at e5
              go_simp
              exact hK.out _ _ ⟨r0, r5, r7, hfz, (fun h => v_N (fun e => h (Or.inr e))), (fun h h' => u_N (h.resolve_left (by decide)) (fun e => h' (Or.inr e))), (fun h => v_A (fun e => h (Or.inr e))), (fun h h' => u_A (h.resolve_left (by decide)) (fun e => h' (Or.inr e))), (fun h => h.elim (fun e => absurd e (by decide)) (fun h => Or.inr (c13 h))), (fun h => h.elim (fun e => absurd e (by decide)) (fun h => Or.inr (c14 h))), (fun h => h.elim (fun e => absurd e (by decide)) (fun h => Or.inr (c16 h))), (fun h => h.elim (fun e => absurd e (by decide)) (fun h => Or.inr (c17 h))), (fun h => h.elim (fun e => absurd e (by decide)) (fun h => Or.inr (e17 h))), (fun h => h.elim (fun e => absurd e (by decide)) (fun h => Or.inr (c19 h))), (fun h => h.elim (fun e => absurd e (by decide)) (fun h => Or.inr (c20 h))), (fun h => h.elim (fun e => absurd e (by decide)) (fun h => Or.inr (e20 h))), (fun h => h.elim (fun e => absurd e (by decide)) (fun h => Or.inr (g20 h))), kp f0, kp f1, kp f2, kp f3, kp f4, kp f5, kp f6, kp f7, kp f8, kp f9, kp f10, fun _ => rfl, kp f12, kp f13, kp f14, kp f15, kp f16, kp f17, kp f18, kp f19, kp f20⟩
            · -- 12
              have d11 := f11 (hd' 11 (by kernel_rfl))
              refine slot_step rfl rfl (fun az hs K hK => ?_)
              have hK : Shut _ := hK
              have e60 := hs.get 60
              rw [d11] at e60
              go_wp2_with (go_at_call 108; refine (slices_Clone (some ad) q c1 (normC l) wz (by omega) (hfz.rd hr3.out hrd3)).mono ?_; rintro e wy ⟨v2, rfl, hown2, hbw⟩; obtain ⟨A2, c2, rfl, _, _, _⟩ := Rd.of_own hown2)
              exact ⟨r0, r5, r7, hfz.trans (Fr.of_below hbw), (fun h => (v_N (fun e => h (Or.inr e))).below hbw (v_N (fun e => h (Or.inr e))).lt), (fun h h' => let ⟨c, a1, a2⟩ := u_N (h.resolve_left (by decide)) (fun e => h' (Or.inr e)); ⟨c, a1, a2.block (hbw.block _ a2.mapS.lt)⟩), (fun h => (v_A (fun e => h (Or.inr e))).below hbw (v_A (fun e => h (Or.inr e))).lt), (fun h h' => let ⟨c, a1, a2⟩ := u_A (h.resolve_left (by decide)) (fun e => h' (Or.inr e)); ⟨c, a1, a2.block (hbw.block _ a2.mapS.lt)⟩), (fun h => h.elim (fun e => absurd e (by decide)) (fun h => Or.inr (c13 h))), (fun h => h.elim (fun e => absurd e (by decide)) (fun h => Or.inr (c14 h))), (fun h => h.elim (fun e => absurd e (by decide)) (fun h => Or.inr (c16 h))), (fun h => h.elim (fun e => absurd e (by decide)) (fun h => Or.inr (c17 h))), (fun h => h.elim (fun e => absurd e (by decide)) (fun h => Or.inr (e17 h))), (fun h => h.elim (fun e => absurd e (by decide)) (fun h => Or.inr (c19 h))), (fun h => h.elim (fun e => absurd e (by decide)) (fun h => Or.inr (c20 h))), (fun h => h.elim (fun e => absurd e (by decide)) (fun h => Or.inr (e20 h))), (fun h => h.elim (fun e => absurd e (by decide)) (fun h => Or.inr (g20 h))), kp f0, kp f1, kp f2, kp f3, kp f4, kp f5, kp f6, kp f7, kp f8, kp f9, kp f10, kp f11, fun _ => ⟨⟨A2, q, c2⟩, rfl, rfl, own_base hown2 hfz.size⟩, fun h => h.elim (fun e => absurd e (by decide)) (fun h => absurd (c13 h) hn), fun h => h.elim (fun e => absurd e (by decide)) (fun h => absurd (c13 (c14 h)) hn), kp f15, kp f16, fun h => h.elim (fun e => absurd e (by decide)) (fun h => (f17 h).below hbw (f17 h).lt), kp f18, kp f19, fun h => h.elim (fun e => absurd e (by decide)) (fun h => let ⟨b, a1, a2⟩ := f20 h; ⟨b, a1, a2.below hbw a2.lt⟩)⟩
            · -- 13
              have d12 := f12 (hd' 12 (by kernel_rfl))
              refine slot_step rfl rfl (fun az hs K hK => ?_)
              have hK : Shut _ := hK
              obtain ⟨⟨A2, n2, c2⟩, es, _⟩ := d12
              simp only [Sl.val] at es
              refine oper_buildW (.tmp 61) rfl A2 n2 c2 (hs.eval es) ?_
              exact hK.out (.agg #[.slice A2 n2 c2]) _ ⟨r0, r5, r7, hfz, (fun h => v_N (fun e => h (Or.inr e))), (fun h h' => u_N (h.resolve_left (by decide)) (fun e => h' (Or.inr e))), (fun h => v_A (fun e => h (Or.inr e))), (fun h h' => u_A (h.resolve_left (by decide)) (fun e => h' (Or.inr e))), (fun _ => Or.inr (hd' 12 (by kernel_rfl))), (fun h => h.elim (fun e => absurd e (by decide)) (fun h => Or.inr (c14 h))), (fun h => h.elim (fun e => absurd e (by decide)) (fun h => Or.inr (c16 h))), (fun h => h.elim (fun e => absurd e (by decide)) (fun h => Or.inr (c17 h))), (fun h => h.elim (fun e => absurd e (by decide)) (fun h => Or.inr (e17 h))), (fun h => h.elim (fun e => absurd e (by decide)) (fun h => Or.inr (c19 h))), (fun h => h.elim (fun e => absurd e (by decide)) (fun h => Or.inr (c20 h))), (fun h => h.elim (fun e => absurd e (by decide)) (fun h => Or.inr (e20 h))), (fun h => h.elim (fun e => absurd e (by decide)) (fun h => Or.inr (g20 h))), kp f0, kp f1, kp f2, kp f3, kp f4, kp f5, kp f6, kp f7, kp f8, kp f9, kp f10, kp f11, kp f12, fun _ => ⟨⟨A2, n2, c2⟩, es, rfl⟩, kp f14, kp f15, kp f16, kp f17, kp f18, kp f19, kp f20⟩
            · -- 14
              have d13 := f13 (hd' 13 (by kernel_rfl))
              refine slot_step rfl rfl (fun az hs K hK => ?_)
              have hK : Shut _ := hK
              obtain ⟨⟨A2, n2, c2⟩, es, e2⟩ := d13
              simp only [Sl.val] at e2
              have hbw := (Below.refl wz.heap.size wz).alloc (Nat.le_refl _) (.cells #[.slice A2 n2 c2] 139)
              refine oper_boxW (.tmp 62) rfl A2 n2 c2 (hs.eval e2) ?_
              exact hK.out (.pointer (some ⟨wz.heap.size, 0, none⟩)) (wz.alloc (.cells #[.slice A2 n2 c2] 139)) ⟨r0, r5, r7, hfz.trans (Fr.of_below hbw), (fun h => (v_N (fun e => h (Or.inr e))).below hbw (v_N (fun e => h (Or.inr e))).lt), (fun h h' => let ⟨c, a1, a2⟩ := u_N (h.resolve_left (by decide)) (fun e => h' (Or.inr e)); ⟨c, a1, a2.block (hbw.block _ a2.mapS.lt)⟩), (fun h => (v_A (fun e => h (Or.inr e))).below hbw (v_A (fun e => h (Or.inr e))).lt), (fun h h' => let ⟨c, a1, a2⟩ := u_A (h.resolve_left (by decide)) (fun e => h' (Or.inr e)); ⟨c, a1, a2.block (hbw.block _ a2.mapS.lt)⟩), (fun h => h.elim (fun e => absurd e (by decide)) (fun h => Or.inr (c13 h))), (fun _ => Or.inr (hd' 13 (by kernel_rfl))), (fun h => h.elim (fun e => absurd e (by decide)) (fun h => Or.inr (c16 h))), (fun h => h.elim (fun e => absurd e (by decide)) (fun h => Or.inr (c17 h))), (fun h => h.elim (fun e => absurd e (by decide)) (fun h => Or.inr (e17 h))), (fun h => h.elim (fun e => absurd e (by decide)) (fun h => Or.inr (c19 h))), (fun h => h.elim (fun e => absurd e (by decide)) (fun h => Or.inr (c20 h))), (fun h => h.elim (fun e => absurd e (by decide)) (fun h => Or.inr (e20 h))), (fun h => h.elim (fun e => absurd e (by decide)) (fun h => Or.inr (g20 h))), kp f0, kp f1, kp f2, kp f3, kp f4, kp f5, kp f6, kp f7, kp f8, kp f9, kp f10, kp f11, fun h => h.elim (fun e => absurd e (by decide)) (fun h => let ⟨sw, a1, a2, a3⟩ := f12 h; ⟨sw, a1, a2, own_keep a3 hbw⟩), kp f13, fun _ => ⟨⟨A2, n2, c2⟩, wz.heap.size, es, rfl, hfz.size, Blk.new wz _ _⟩, kp f15, kp f16, fun h => h.elim (fun e => absurd e (by decide)) (fun h => (f17 h).below hbw (f17 h).lt), kp f18, kp f19, fun h => h.elim (fun e => absurd e (by decide)) (fun h => absurd (g20 h) hn)⟩
            · -- 15
              have d3 := f3 (hd' 3 (by kernel_rfl))
              have d4 := f4 (hd' 4 (by kernel_rfl))
              refine slot_step rfl rfl (fun az hs K hK => ?_)
              have hK : Shut _ := hK
              have e52 := hs.get 52
              rw [d3] at e52
              have e53 := hs.get 53
              rw [d4] at e53
              refine oper_entryNew (keyLaw_int Try.underlying3) mapNU zero_sl (.tmp 52) (.tmp 53) rfl (v_N hn) next hnN (hs.eval d3) (hs.eval d4) ?_
              intro wy c9 hent hgr hsz9
              exact hK.out _ _ ⟨r0, r5, r7, hfz.trans (Fr.of_grown hgr (fun q e => .inl (by cases e; exact .inr rfl))), (fun h => (h (by simp)).elim), (fun _ _ => ⟨c9, rfl, hent⟩), (fun h => (v_A (fun e => h (Or.inr e))).grown hgr (by simp; exact d1)), (fun h h' => let ⟨c, a1, a2⟩ := u_A (h.resolve_left (by decide)) (fun e => h' (Or.inr e)); ⟨c, a1, a2.block (hgr.block _ a2.mapS.lt (by simp; exact d1))⟩), (fun h => h.elim (fun e => absurd e (by decide)) (fun h => Or.inr (c13 h))), (fun h => h.elim (fun e => absurd e (by decide)) (fun h => Or.inr (c14 h))), (fun h => h.elim (fun e => absurd e (by decide)) (fun h => Or.inr (c16 h))), (fun h => h.elim (fun e => absurd e (by decide)) (fun h => Or.inr (c17 h))), (fun h => h.elim (fun e => absurd e (by decide)) (fun h => Or.inr (e17 h))), (fun h => h.elim (fun e => absurd e (by decide)) (fun h => Or.inr (c19 h))), (fun h => h.elim (fun e => absurd e (by decide)) (fun h => Or.inr (c20 h))), (fun h => h.elim (fun e => absurd e (by decide)) (fun h => Or.inr (e20 h))), (fun h => h.elim (fun e => absurd e (by decide)) (fun h => Or.inr (g20 h))), kp f0, kp f1, kp f2, kp f3, kp f4, kp f5, kp f6, kp f7, kp f8, kp f9, kp f10, kp f11, fun h => h.elim (fun e => absurd e (by decide)) (fun h => let ⟨sw, a1, a2, a3⟩ := f12 h; ⟨sw, a1, a2, a3.kept hgr (.inr (fun e => own_map_ne a3 (v_N hn) e.symm))⟩), kp f13, fun h => h.elim (fun e => absurd e (by decide)) (fun h => let ⟨sw, b, a1, a2, a3, a4⟩ := f14 h; ⟨sw, b, a1, a2, a3, a4.grown hgr (by simp; exact map_blk (v_N hn) a4)⟩), fun _ => trivial, fun h => h.elim (fun e => absurd e (by decide)) (fun h => absurd (c16 h) hn), fun h => h.elim (fun e => absurd e (by decide)) (fun h => absurd (c17 h) hn), kp f18, kp f19, fun h => h.elim (fun e => absurd e (by decide)) (fun h => let ⟨b, a1, a2⟩ := f20 h; ⟨b, a1, a2.grown hgr (by simp; exact d1)⟩)⟩
            · -- 16
              have d15 := f15 (hd' 15 (by kernel_rfl))
              refine slot_step rfl rfl (fun az hs K hK => ?_)
              have hK : Shut _ := hK
              obtain ⟨c9, et, _⟩ := u_N (hd' 15 (by kernel_rfl)) (fun e => hn (e17 e))
              have e64 := hs.get 64
              rw [et] at e64
              go_simp
              exact hK.out _ _ ⟨r0, r5, r7, hfz, (fun h => v_N (fun e => h (Or.inr e))), (fun h h' => u_N (h.resolve_left (by decide)) (fun e => h' (Or.inr e))), (fun h => v_A (fun e => h (Or.inr e))), (fun h h' => u_A (h.resolve_left (by decide)) (fun e => h' (Or.inr e))), (fun h => h.elim (fun e => absurd e (by decide)) (fun h => Or.inr (c13 h))), (fun h => h.elim (fun e => absurd e (by decide)) (fun h => Or.inr (c14 h))), (fun _ => Or.inr (hd' 15 (by kernel_rfl))), (fun h => h.elim (fun e => absurd e (by decide)) (fun h => Or.inr (c17 h))), (fun h => h.elim (fun e => absurd e (by decide)) (fun h => Or.inr (e17 h))), (fun h => h.elim (fun e => absurd e (by decide)) (fun h => Or.inr (c19 h))), (fun h => h.elim (fun e => absurd e (by decide)) (fun h => Or.inr (c20 h))), (fun h => h.elim (fun e => absurd e (by decide)) (fun h => Or.inr (e20 h))), (fun h => h.elim (fun e => absurd e (by decide)) (fun h => Or.inr (g20 h))), kp f0, kp f1, kp f2, kp f3, kp f4, kp f5, kp f6, kp f7, kp f8, kp f9, kp f10, kp f11, kp f12, kp f13, kp f14, kp f15, fun _ => ⟨c9, et, rfl⟩, kp f17, kp f18, kp f19, kp f20⟩
            · -- 17
              have d3 := f3 (hd' 3 (by kernel_rfl))
              have d16 := f16 (hd' 16 (by kernel_rfl))
              have d10 := f10 (hd' 10 (by kernel_rfl))
              refine slot_step rfl rfl (fun az hs K hK => ?_)
              have hK : Shut _ := hK
              obtain ⟨c9, et, e5⟩ := d16
              obtain ⟨c8, et2, hent⟩ := u_N (c16 (hd' 16 (by kernel_rfl))) hn
              rw [et] at et2
              injection et2 with et2
              simp only [Array.mk.injEq, List.cons.injEq, Value.int.injEq, true_and, and_true] at et2
              have et3 : c9 = c8 := by omega
              subst et3
              have e52 := hs.get 52
              rw [d3] at e52
              have e59 := hs.get 59
              rw [d10] at e59
              refine oper_entryStore encI_inj (.tmp 52) (.tmp 65) (.tmp 59) rfl hent (.slice (some ad) q c1) (hs.eval d3) (hs.eval e5) (hs.eval d10) ?_
              intro wy hmap hgr hsz9
              rw [mput_twice] at hmap
              exact hK.out undef _ ⟨r0, r5, r7, hfz.trans (Fr.of_grown hgr (fun q e => .inl (by cases e; exact .inr rfl))), (fun h => (h (Or.inr (c16 (hd' 16 (by kernel_rfl))))).elim), (fun _ h' => (h' (by simp)).elim), (fun h => (v_A (fun e => h (Or.inr e))).grown hgr (by simp; exact d1)), (fun h h' => let ⟨c, a1, a2⟩ := u_A (h.resolve_left (by decide)) (fun e => h' (Or.inr e)); ⟨c, a1, a2.block (hgr.block _ a2.mapS.lt (by simp; exact d1))⟩), (fun h => h.elim (fun e => absurd e (by decide)) (fun h => Or.inr (c13 h))), (fun h => h.elim (fun e => absurd e (by decide)) (fun h => Or.inr (c14 h))), (fun h => h.elim (fun e => absurd e (by decide)) (fun h => Or.inr (c16 h))), (fun _ => Or.inr (c16 (hd' 16 (by kernel_rfl)))), (fun _ => Or.inr (hd' 16 (by kernel_rfl))), (fun h => h.elim (fun e => absurd e (by decide)) (fun h => Or.inr (c19 h))), (fun h => h.elim (fun e => absurd e (by decide)) (fun h => Or.inr (c20 h))), (fun h => h.elim (fun e => absurd e (by decide)) (fun h => Or.inr (e20 h))), (fun h => h.elim (fun e => absurd e (by decide)) (fun h => Or.inr (g20 h))), kp f0, kp f1, kp f2, kp f3, kp f4, kp f5, kp f6, kp f7, kp f8, kp f9, kp f10, kp f11, fun h => h.elim (fun e => absurd e (by decide)) (fun h => let ⟨sw, a1, a2, a3⟩ := f12 h; ⟨sw, a1, a2, a3.kept hgr (.inr (fun e => own_map_ne a3 hent.mapS e.symm))⟩), kp f13, fun h => h.elim (fun e => absurd e (by decide)) (fun h => let ⟨sw, b, a1, a2, a3, a4⟩ := f14 h; ⟨sw, b, a1, a2, a3, a4.grown hgr (by simp; exact map_blk hent.mapS a4)⟩), kp f15, kp f16, fun _ => hmap, kp f18, kp f19, fun h => h.elim (fun e => absurd e (by decide)) (fun h => let ⟨b, a1, a2⟩ := f20 h; ⟨b, a1, a2.grown hgr (by simp; exact d1)⟩)⟩
            · -- 18
              have d8 := f8 (hd' 8 (by kernel_rfl))
              have d9 := f9 (hd' 9 (by kernel_rfl))
              refine slot_step rfl rfl (fun az hs K hK => ?_)
              have hK : Shut _ := hK
              have e57 := hs.get 57
              rw [d8] at e57
              have e58 := hs.get 58
              rw [d9] at e58
              refine oper_entryNew (keyLaw_int Try.underlying3) mapAU zero_pw (.tmp 57) (.tmp 58) rfl (v_A hn) next hnA (hs.eval d8) (hs.eval d9) ?_
              intro wy c9 hent hgr hsz9
              exact hK.out _ _ ⟨r0, r5, r7, hfz.trans (Fr.of_grown hgr (fun q e => .inl (by cases e; exact .inl rfl))), (fun h => (v_N (fun e => h (Or.inr e))).grown hgr (by simp; exact d1.symm)), (fun h h' => let ⟨c, a1, a2⟩ := u_N (h.resolve_left (by decide)) (fun e => h' (Or.inr e)); ⟨c, a1, a2.block (hgr.block _ a2.mapS.lt (by simp; exact d1.symm))⟩), (fun h => (h (by simp)).elim), (fun _ _ => ⟨c9, rfl, hent⟩), (fun h => h.elim (fun e => absurd e (by decide)) (fun h => Or.inr (c13 h))), (fun h => h.elim (fun e => absurd e (by decide)) (fun h => Or.inr (c14 h))), (fun h => h.elim (fun e => absurd e (by decide)) (fun h => Or.inr (c16 h))), (fun h => h.elim (fun e => absurd e (by decide)) (fun h => Or.inr (c17 h))), (fun h => h.elim (fun e => absurd e (by decide)) (fun h => Or.inr (e17 h))), (fun h => h.elim (fun e => absurd e (by decide)) (fun h => Or.inr (c19 h))), (fun h => h.elim (fun e => absurd e (by decide)) (fun h => Or.inr (c20 h))), (fun h => h.elim (fun e => absurd e (by decide)) (fun h => Or.inr (e20 h))), (fun h => h.elim (fun e => absurd e (by decide)) (fun h => Or.inr (g20 h))), kp f0, kp f1, kp f2, kp f3, kp f4, kp f5, kp f6, kp f7, kp f8, kp f9, kp f10, kp f11, fun h => h.elim (fun e => absurd e (by decide)) (fun h => let ⟨sw, a1, a2, a3⟩ := f12 h; ⟨sw, a1, a2, a3.kept hgr (.inr (fun e => own_map_ne a3 (v_A hn) e.symm))⟩), kp f13, fun h => h.elim (fun e => absurd e (by decide)) (fun h => let ⟨sw, b, a1, a2, a3, a4⟩ := f14 h; ⟨sw, b, a1, a2, a3, a4.grown hgr (by simp; exact map_blk (v_A hn) a4)⟩), kp f15, kp f16, fun h => h.elim (fun e => absurd e (by decide)) (fun h => (f17 h).grown hgr (by simp; exact d1.symm)), fun _ => trivial, fun h => h.elim (fun e => absurd e (by decide)) (fun h => absurd (c19 h) hn), fun h => h.elim (fun e => absurd e (by decide)) (fun h => absurd (c20 h) hn)⟩
            · -- 19
              have d18 := f18 (hd' 18 (by kernel_rfl))
              refine slot_step rfl rfl (fun az hs K hK => ?_)
              have hK : Shut _ := hK
              obtain ⟨c9, et, _⟩ := u_A (hd' 18 (by kernel_rfl)) (fun e => hn (e20 e))
              have e66 := hs.get 66
              rw [et] at e66
              go_simp
              exact hK.out _ _ ⟨r0, r5, r7, hfz, (fun h => v_N (fun e => h (Or.inr e))), (fun h h' => u_N (h.resolve_left (by decide)) (fun e => h' (Or.inr e))), (fun h => v_A (fun e => h (Or.inr e))), (fun h h' => u_A (h.resolve_left (by decide)) (fun e => h' (Or.inr e))), (fun h => h.elim (fun e => absurd e (by decide)) (fun h => Or.inr (c13 h))), (fun h => h.elim (fun e => absurd e (by decide)) (fun h => Or.inr (c14 h))), (fun h => h.elim (fun e => absurd e (by decide)) (fun h => Or.inr (c16 h))), (fun h => h.elim (fun e => absurd e (by decide)) (fun h => Or.inr (c17 h))), (fun h => h.elim (fun e => absurd e (by decide)) (fun h => Or.inr (e17 h))), (fun _ => Or.inr (hd' 18 (by kernel_rfl))), (fun h => h.elim (fun e => absurd e (by decide)) (fun h => Or.inr (c20 h))), (fun h => h.elim (fun e => absurd e (by decide)) (fun h => Or.inr (e20 h))), (fun h => h.elim (fun e => absurd e (by decide)) (fun h => Or.inr (g20 h))), kp f0, kp f1, kp f2, kp f3, kp f4, kp f5, kp f6, kp f7, kp f8, kp f9, kp f10, kp f11, kp f12, kp f13, kp f14, kp f15, kp f16, kp f17, kp f18, fun _ => ⟨c9, et, rfl⟩, kp f20⟩
            · -- 20
              have d8 := f8 (hd' 8 (by kernel_rfl))
              have d19 := f19 (hd' 19 (by kernel_rfl))
              have d14 := f14 (hd' 14 (by kernel_rfl))
              refine slot_step rfl rfl (fun az hs K hK => ?_)
              have hK : Shut _ := hK
              obtain ⟨sw, b, _, e14, _⟩ := d14
              obtain ⟨c9, et, e5⟩ := d19
              obtain ⟨c8, et2, hent⟩ := u_A (c19 (hd' 19 (by kernel_rfl))) hn
              rw [et] at et2
              injection et2 with et2
              simp only [Array.mk.injEq, List.cons.injEq, Value.int.injEq, true_and, and_true] at et2
              have et3 : c9 = c8 := by omega
              subst et3
              have e57 := hs.get 57
              rw [d8] at e57
              refine oper_entryStore encI_inj (.tmp 57) (.tmp 67) (.tmp 63) rfl hent (.pointer (some ⟨b, 0, none⟩)) (hs.eval d8) (hs.eval e5) (hs.eval e14) ?_
              intro wy hmap hgr hsz9
              rw [mput_twice] at hmap
              exact hK.out undef _ ⟨r0, r5, r7, hfz.trans (Fr.of_grown hgr (fun q e => .inl (by cases e; exact .inl rfl))), (fun h => (v_N (fun e => h (Or.inr e))).grown hgr (by simp; exact d1.symm)), (fun h h' => let ⟨c, a1, a2⟩ := u_N (h.resolve_left (by decide)) (fun e => h' (Or.inr e)); ⟨c, a1, a2.block (hgr.block _ a2.mapS.lt (by simp; exact d1.symm))⟩), (fun h => (h (Or.inr (c19 (hd' 19 (by kernel_rfl))))).elim), (fun _ h' => (h' (by simp)).elim), (fun h => h.elim (fun e => absurd e (by decide)) (fun h => Or.inr (c13 h))), (fun h => h.elim (fun e => absurd e (by decide)) (fun h => Or.inr (c14 h))), (fun h => h.elim (fun e => absurd e (by decide)) (fun h => Or.inr (c16 h))), (fun h => h.elim (fun e => absurd e (by decide)) (fun h => Or.inr (c17 h))), (fun h => h.elim (fun e => absurd e (by decide)) (fun h => Or.inr (e17 h))), (fun h => h.elim (fun e => absurd e (by decide)) (fun h => Or.inr (c19 h))), (fun _ => Or.inr (c19 (hd' 19 (by kernel_rfl)))), (fun _ => Or.inr (hd' 19 (by kernel_rfl))), (fun _ => Or.inr (hd' 14 (by kernel_rfl))), kp f0, kp f1, kp f2, kp f3, kp f4, kp f5, kp f6, kp f7, kp f8, kp f9, kp f10, kp f11, fun h => h.elim (fun e => absurd e (by decide)) (fun h => let ⟨sw, a1, a2, a3⟩ := f12 h; ⟨sw, a1, a2, a3.kept hgr (.inr (fun e => own_map_ne a3 hent.mapS e.symm))⟩), kp f13, fun h => h.elim (fun e => absurd e (by decide)) (fun h => let ⟨sw, b, a1, a2, a3, a4⟩ := f14 h; ⟨sw, b, a1, a2, a3, a4.grown hgr (by simp; exact map_blk hent.mapS a4)⟩), kp f15, kp f16, fun h => h.elim (fun e => absurd e (by decide)) (fun h => (f17 h).grown hgr (by simp; exact d1.symm)), kp f18, kp f19, fun _ => ⟨b, e14, hmap⟩⟩
          case hdone =>
            rintro D g wz hD ⟨r0, r5, r7, hfz, v_N, u_N, v_A, u_A, c13, c14, c16, c17, e17, c19, c20, e20, g20, f0, f1, f2, f3, f4, f5, f6, f7, f8, f9, f10, f11, f12, f13, f14, f15, f16, f17, f18, f19, f20⟩
            simp only [setAll, List.foldl_cons, List.foldl_nil, List.setIfInBounds_toArray, List.set_cons_succ, List.set_cons_zero]
            obtain ⟨sw, es, hswn, how⟩ := f12 (hD 12)
            obtain ⟨sw2, b, es2, eb, hbl, hbk⟩ := f14 (hD 14)
            have hmN := f17 (hD 17)
            obtain ⟨b2, eb2, hmA⟩ := f20 (hD 20)
            have hss := sl_val (es.symm.trans es2)
            subst hss
            have hbb : b = b2 := by rw [eb] at eb2; injection eb2 with e; injection e with e; injection e
            subst hbb
            clear f0 f1 f2 f3 f4 f5 f6 f7 f8 f9 f10 f11 f12 f13 f14 f15 f16 f17 f18 f19 f20 hD r0 r5 r7 es es2 eb eb2 v_N u_N v_A u_A c13 c14 c16 c17 e17 c19 c20 e20 g20
            have hbox5 := hfz.blk hbox3.out pN
            have hsho5 := map_fr hsho3.out hfz (fun e => e.elim (fun e => d2 e.symm) (fun e => d4 e.symm))
            have hby5 := map_fr hby3.out hfz (fun e => e.elim (fun e => d3 e.symm) (fun e => d5 e.symm))
            have hfre5 := hfz.own hfre3.out (fun g hg e => e.elim (fun e => own_map_ne hfre3.out hall3.out (by rw [hg, e])) (fun e => own_map_ne hfre3.out hnor3.out (by rw [hg, e])))
            have hr5 := hfz.rd hr3.out hrd3
            have hb5 := hide (hb3.out.trans (hfz.below (Nat.le_trans hbase hsz3) (fun g e => by have := hlo.out; rcases e with e | e <;> omega)))
            have hszz := hfz.size
            have hfr5 := hide (hfr3.out.trans (hfz.more (fun g _ e => .inr (e.elim (fun e => .inl e) (fun e => .inr (.inl e))))))
            obtain ⟨w5, hw5⟩ : ∃ w5, w5 = wz := ⟨_, rfl⟩
            subst hw5
            clear hfz hfr3 hbox3 hsho3 hby3 hfre3 hall3 hnor3 hr3 hb3 hw3
            have hb5W : b ≠ p := blk_ne hbk hbox5 (by decide)
            replace hq := hide hq
            replace hq1 := hide hq1
            by_cases hlt2 : q < 2
            · have hq2 : decide ((q : Int) < 2) = true := decide_eq_true (by omega)
              have hqlt := hide (show (normC l).length < 2 by rw [hq.out]; exact hlt2)
              have k4 : w5.cell? ⟨p, 4, none⟩ = some (.map (some mS)) := hbox5.cell 4
              have hbox6 := hide hbox5
              have hsho6 := hide hsho5
              have hby6 := hide hby5
              have hfre6 := hide hfre5
              have hr6 := hide hr5
              have how6 := hide how
              have hbk6 := hide hbk
              have hmN6 := hide hmN
              have hmA6 := hide hmA
              clear hbox5 hsho5 hby5 hfre5 hr5 how hbk hmN hmA
              go_wp2_with (at_mapUpdate; refine wpList_updateS (keyLaw_int Try.underlying3) mapSU rfl _ _ _ rfl hsho6.out next (.bool true) (by rfl) (by rfl) (by rfl) ?_; intro w9 hm9 hg9 hz9)
              have hf9 := (Fr.of_grown hg9 (fun g e => .inl (by cases e; rfl)) : Fr (fun g => g = mS) w5 w9)
              replace hm9 := hide hm9
              replace hf9 := hide hf9
              clear hg9
              go_ret
              have hlt := hqlt.out
              have hsF := hsho6.out.lt
              have hmS : W.heap.size ≤ b := by omega
              refine .inr ⟨by rw [hok.out, hfit.out]; rfl, rfl, fv, ⟨(some ad), q, c1⟩, sw, b, ⟨hf9.out.blk hbox6.out (map_blk hsho6.out hbox6.out), map_fr hmA6.out hf9.out d2, map_fr hmN6.out hf9.out d4, ?_, map_fr hby6.out hf9.out (fun e => d6 e.symm), ?_, ⟨d1, d2, d3, d4, d5, d6⟩, hlo.out⟩, hf9.out.blk hbk6.out (map_blk hsho6.out hbk6.out), hmS, ?_, hq.out.symm, ?_, hlo1.out, hb5.out.trans (hf9.out.below (Nat.le_trans hbase (Nat.le_trans hsz3 hszz)) (fun g e => by rw [e]; exact hlo.out.2.2.2.1)), hfr5.out.trans (hf9.out.more (fun g _ e => .inr (.inr (.inr (.inl e))))), fun g e => .inl e, fun ad he e => (by have h7 := hlo1.out ad he; have h8 := hfW.out _ e; omega), fun _ => rfl⟩
              · rw [if_pos hlt]; exact hm9.out
              · rw [if_pos hlt]; exact hf9.out.own hfre6.out (fun g hg e => own_map_ne hfre6.out hsho6.out (by rw [hg, e]))
              · rw [hq.out]; exact own_base (hf9.out.own how6.out (fun g hg e => own_map_ne how6.out hsho6.out (by rw [hg, e]))) hsz3
              · exact hf9.out.rd hr6.out (fun ad he e => by have h7 := hlo1.out ad he; have h8 := hmSW.out; omega)
            · have hq2 : decide ((q : Int) < 2) = false := decide_eq_false (by omega)
              have hge := hide (show ¬ (normC l).length < 2 by rw [hq.out]; exact hlt2)
              have k5 : w5.cell? ⟨p, 5, none⟩ = some fv := hbox5.cell 5
              have y5 := hbox5.frozen 5
              have hbase5 : base ≤ w5.heap.size := Nat.le_trans hbase (Nat.le_trans hsz3 hszz)
              obtain ⟨L, hL⟩ : ∃ L, fr.length = L := ⟨_, rfl⟩
              have hfre6 := hfre5
              rw [hL] at hfre6 hfr
              obtain ⟨fA, fc, hfv, _, _, _⟩ := Rd.of_own hfre6
              subst hfv
              have hbox6 := hide hbox5
              have hsho6 := hide hsho5
              have hby6 := hide hby5
              have hfr6 := hide hfre6
              have hr6 := hide hr5
              have how6 := hide how
              have hbk6 := hide hbk
              have hmN6 := hide hmN
              have hmA6 := hide hmA
              replace hL := hide hL
              clear hbox5 hsho5 hby5 hfre5 hr5 how hbk hmN hmA hfre6
              go_wp2_with (at_builtin; refine wpList_pushAt rfl _ _ _ rfl Try.underlying40 info_i rfl (by decide) rfl rfl hfr6.out (Below.refl base w5) hbase5 rfl (by simp [Value.oneCell']) (by unfold maxLen; omega) (by omega) ?_; intro v8 w8 hown8 hb8 hg8 hat8; have bp8 := (hbox6.out.alloc (.cells #[.int .i64 next] 3)).grown hg8 (own_blk_ne (hfr6.out.alloc (.cells #[.int .i64 next] 3)) (hbox6.out.alloc (.cells #[.int .i64 next] 3)) (by decide)); obtain ⟨A8, c8, rfl, _, _, _⟩ := Rd.of_own hown8; have x5 : w8.cell? ⟨p, 5, none⟩ = some (.slice fA L fc) := bp8.cell 5; have y5 := bp8.frozen 5; replace hown8 := hide hown8; replace bp8 := hide bp8; replace hb8 := hide hb8; replace hg8 := hide hg8; replace hat8 := hide hat8)
              go_ret
              have hl1 : ∀ e, (Value.slice fA L fc).ownBlock = some e → e < W.heap.size := fun g e => hfW.out g e
              have hFa : Fr (fun g => (Value.slice fA L fc).ownBlock = some g) w5 w8 := (Fr.of_below ((Below.refl w5.heap.size w5).alloc (Nat.le_refl _) (.cells #[.int .i64 next] 3))).trans (Fr.of_grown hg8.out (fun g e => .inl e))
              have hFb : Fr (fun g => g = p) w8 (w8.setCell ⟨p, 5, none⟩ (.slice A8 (L + 1) c8)) := fr_set (S := fun g => g = p) (p := ⟨p, 5, none⟩) rfl _
              have hF : Fr (fun g => (Value.slice fA L fc).ownBlock = some g ∨ g = p) w5 (w8.setCell ⟨p, 5, none⟩ (.slice A8 (L + 1) c8)) := (hFa.more (fun g _ e => .inl e)).trans (hFb.more (fun g _ e => .inr e))
              have hnm : ∀ {B : Nat} {ml : List (Int × Value)}, MapS w5 Lt.encI B ml → ¬ ((Value.slice fA L fc).ownBlock = some B ∨ B = p) := fun hm e => e.elim (fun e => own_map_ne hfr6.out hm e.symm) (fun e => map_blk hm hbox6.out e.symm)
              have hnb : ¬ ((Value.slice fA L fc).ownBlock = some b ∨ b = p) := fun e => e.elim (fun e => own_blk_ne hfr6.out hbk6.out (by decide) e.symm) hb5W
              have hmS : W.heap.size ≤ b := by omega
              have hlen : (fr ++ [next]).length = L + 1 := by rw [List.length_append, hL.out]; rfl
              have hll := hlo.out
              refine .inr ⟨by rw [hok.out, hfit.out]; rfl, rfl, .slice A8 (L + 1) c8, ⟨(some ad), q, c1⟩, sw, b, ⟨bp8.out.set_ 5 _, map_fr hmA6.out hF (hnm hmA6.out), map_fr hmN6.out hF (hnm hmN6.out), ?_, map_fr hby6.out hF (hnm hby6.out), ?_, ⟨d1, d2, d3, d4, d5, d6⟩, hll⟩, hF.blk hbk6.out hnb, hmS, ?_, hq.out.symm, ?_, hlo1.out, hb5.out.trans (hF.below hbase5 (fun g e => e.elim (fun e => Nat.le_of_not_lt (fun hlt => own_low_ne hfr6.out hlt e.symm)) (fun e => by rw [e]; exact hll.1))), hfr5.out.trans (hF.more (fun g _ e => e.elim (fun e => .inr (.inr (.inr (.inr e)))) (fun e => .inl e))), fun g e => (hat8.out.elim (fun h8 => .inl (h8 ▸ e)) (fun h8 => .inr (by rw [h8] at e; injection e with e; omega))), fun ad0 he e => (by have h7 := hlo1.out ad0 he; obtain ⟨ad2, he2, hl2⟩ := hr6.out.addr (by omega); have he3 := he.symm.trans he2; injection he3 with he3; subst he3; exact hat8.out.elim (fun h8 => by rw [h8] at e; have := hl1 _ e; omega) (fun h8 => by rw [h8] at e; injection e with e; omega)), fun h9 => absurd h9 hge.out⟩
              · rw [if_neg hge.out]; exact map_fr hsho6.out hF (hnm hsho6.out)
              · rw [if_neg hge.out, hlen]
                have := hFb.own hown8.out (fun g hg e => own_blk_ne hown8.out bp8.out (by decide) (by rw [hg, e]))
                unfold ivs; rw [List.map_append]; exact this
              · rw [hq.out]
                exact own_base (hF.own how6.out (fun g hg e => by
                  have h7 : w3.heap.size ≤ g := Nat.le_of_not_lt (fun hlt => own_low_ne how6.out hlt hg.symm)
                  rcases e with e | e
                  · have := hl1 g e; omega
                  · omega)) hsz3
              · exact hF.rd hr6.out (fun ad he e => by
                  have h7 := hlo1.out ad he
                  rcases e with e | e
                  · have := hl1 _ e; omega
                  · omega)
theorem watch_Add {base : Nat} {W : World} {p mA mN mS mB : Nat} {n next : Int} {fv : Value} {al nl sl bl : List (Int × Value)} {fr : List Int} (h : StM base W p mA mN mS mB n next fv al nl sl bl fr) (hbase : base ≤ W.heap.size) (hn : 0 ≤ n ∧ n ≤ 1048576) (hnext : 0 ≤ next ∧ next ≤ 1000000) (hfr : fr.length ≤ 1000000) (hnA : mfind al next 0 = none) (hnN : mfind nl next 0 = none)
    (A : Option Addr) (m c : Nat) (l : List Int) (hm : m ≤ 1000) (hr : Rd W A m (ivs l)) :
    Calls Try.prog 57 #[.pointer (some ⟨p, 0, none⟩), .slice A m c] W fun e w' =>
      AddIs base W p mA mN mS mB n next fv al nl sl bl fr l e w' := by
  refine (watch_Add2 h hbase hn hnext hfr hnA hnN A m c l hm hr).mono ?_
  rintro e w' (h1 | ⟨h1, h2, fv', s, sw, b, q1, q2, q3, q4, q5, q6, q7, q8, q9, q10, _, _⟩)
  · exact .inl h1
  · exact .inr ⟨h1, h2, fv', s, sw, b, q1, q2, q3, q4, q5, q6, q7, q8, q9, q10⟩
end Go.Proofs.Ytcjoohaagdihlaa.Watch
end
