/- The contract of the program's Inject (under way). -/
import Derived.Test.YtcjoohaagdihlaaDoorFaultInjP1
import Derived.Test.YtcjoohaagdihlaaDoorFaultOuts
import Derived.Deep.RegionHeld3
namespace Go.Proofs.YtcjoohaagdihlaaDoor.Fault
open Go.RowKit Go.Lt Go.Proofs.YtcjoohaagdihlaaDoor.Lit Go.Instr
set_option linter.unusedVariables false
set_option linter.unusedSimpArgs false

theorem encN_set {l : List Nd} {k : Nat} {x : Nd} (h : l[k]? = some x) (a : Int) : (encN l).set (k * 2) (.int .i64 a) = encN (l.set k ⟨a, x.B⟩) := by
  refine List.ext_getElem? fun j => ?_
  have hk := (List.getElem?_eq_some_iff.1 h).1
  rw [List.getElem?_set]
  unfold encN
  rw [flat_get cellsN 2 (fun _ => rfl) (by omega), flat_get cellsN 2 (fun _ => rfl) (by omega), List.getElem?_set]
  by_cases hj : k * 2 = j
  · rw [if_pos hj, if_pos (by have := flat_len cellsN 2 (fun _ => rfl) l; omega), if_pos (by omega), if_pos hk]
    have : j % 2 = 0 := by omega
    rw [this]; rfl
  · rw [if_neg hj]
    by_cases hj2 : k = j / 2
    · rw [if_pos hj2, if_pos hk, ← hj2, h]
      have : j % 2 = 1 := by omega
      rw [this]; rfl
    · rw [if_neg hj2]
theorem encN_setB {l : List Nd} {k : Nat} {x : Nd} (h : l[k]? = some x) (b : Int) : (encN l).set (k * 2 + 1) (.int .i64 b) = encN (l.set k ⟨x.A, b⟩) := by
  refine List.ext_getElem? fun j => ?_
  have hk := (List.getElem?_eq_some_iff.1 h).1
  rw [List.getElem?_set]
  unfold encN
  rw [flat_get cellsN 2 (fun _ => rfl) (by omega), flat_get cellsN 2 (fun _ => rfl) (by omega), List.getElem?_set]
  by_cases hj : k * 2 + 1 = j
  · rw [if_pos hj, if_pos (by have := flat_len cellsN 2 (fun _ => rfl) l; omega), if_pos (by omega), if_pos hk]
    have : j % 2 = 1 := by omega
    rw [this]; rfl
  · rw [if_neg hj]
    by_cases hj2 : k = j / 2
    · rw [if_pos hj2, if_pos hk, ← hj2, h]
      have : j % 2 = 0 := by omega
      rw [this]; rfl
    · rw [if_neg hj2]
theorem injN_pin {l : List Nd} {f : Ft} {k : Nat} {x : Nd} (hf : goodF l f = true) (hk : f.v = (k : Int) + 1) (hx : l[k]? = some x) (hp : f.p = 1 ∨ f.p = 2) :
    injN l f = l.set k (if f.p = 1 then ⟨atB f.o, x.B⟩ else ⟨x.A, atB f.o⟩) := by
  unfold injN
  rw [if_pos hf]
  refine List.ext_getElem? fun j => ?_
  rw [List.getElem?_mapIdx, List.getElem?_set]
  have hlt := (List.getElem?_eq_some_iff.1 hx).1
  by_cases hj : k = j
  · subst hj
    rw [if_pos rfl, if_pos hlt, hx]
    simp only [Option.map_some]
    congr 1
    unfold injNd
    rw [if_neg (by omega), if_pos hk]
    rcases hp with hp | hp
    · rw [if_pos hp, if_pos hp]
    · rw [if_neg (by omega), if_pos hp, if_neg (by omega)]
  · rw [if_neg hj]
    cases hy : l[j]? with
    | none => rfl
    | some y =>
      simp only [Option.map_some]
      congr 1
      unfold injNd
      rw [if_neg (by omega), if_neg (by omega)]
theorem injO_pin {l : List Nd} {outs : List Int} {f : Ft} (hp : f.p = 1 ∨ f.p = 2) : injO l outs f = outs := by
  unfold injO
  rw [if_neg (fun h => by have := h.2; omega)]
theorem injN_bad {l : List Nd} {f : Ft} (h : goodF l f = false) : injN l f = l := by unfold injN; rw [if_neg (by simp [h])]
theorem injO_bad {l : List Nd} {outs : List Int} {f : Ft} (h : goodF l f = false) : injO l outs f = outs := by unfold injO; rw [if_neg (by simp [h])]

theorem own_ne_some {w : World} {b1 b2 e1 e2 s1 s2 n1 n2 g c : Nat} {v1 : Value} {xs1 xs2 : List Value} (h1 : w.ownsRow b1 e1 s1 v1 n1 xs1) (h2 : w.ownsRow b2 e2 s2 (.slice (some ⟨g, 0, none⟩) n2 c) n2 xs2) (hne : e1 ≠ e2) : v1.ownBlock ≠ some g := by
  rcases own_own_ne h1 h2 hne with h | h
  · rw [h]; simp
  · exact h
theorem set_same {α : Type} {xs : List α} {j : Nat} {x : α} (h : xs[j]? = some x) : xs.set j x = xs := by
  refine List.ext_getElem? fun i => ?_
  have hk := (List.getElem?_eq_some_iff.1 h).1
  rw [List.getElem?_set]
  by_cases hj : j = i
  · subst hj; rw [if_pos rfl, if_pos hk, h]
  · rw [if_neg hj]
theorem mix_get {α : Type} {L l : List α} {j : Nat} {x : α} (hl : L.length = l.length) (h : l[j]? = some x) : (L.take j ++ l.drop j)[j]? = some x := by
  have hk := (List.getElem?_eq_some_iff.1 h).1
  rw [List.getElem?_append_right (by rw [List.length_take]; omega), List.length_take, List.getElem?_drop]
  rw [show j + (j - min j L.length) = j by omega]
  exact h
theorem mix_set {α : Type} {L l : List α} {j : Nat} {y : α} (hl : L.length = l.length) (h : L[j]? = some y) : (L.take j ++ l.drop j).set j y = L.take (j + 1) ++ l.drop (j + 1) := by
  have hk := (List.getElem?_eq_some_iff.1 h).1
  rw [List.take_add_one, h, List.set_append_right _ _ (by rw [List.length_take]; omega), List.length_take, show j - min j L.length = 0 by omega]
  have hd : l.drop j = l[j]'(by omega) :: l.drop (j + 1) := List.drop_eq_getElem_cons (by omega)
  rw [hd, List.set_cons_zero]
  simp
theorem injN_line {l : List Nd} {f : Ft} {k : Nat} {x : Nd} (hf : goodF l f = true) (hp : f.p = 0) (hx : l[k]? = some x) :
    (injN l f)[k]? = some (if 0 ≤ x.A then ⟨stuckL x.A f, stuckL x.B f⟩ else x) := by
  unfold injN
  rw [if_pos hf, List.getElem?_mapIdx, hx]
  show some (injNd f k x) = _
  unfold injNd
  rw [if_pos hp]
theorem injO_line {l : List Nd} {outs : List Int} {f : Ft} {k : Nat} {y : Int} (hf : goodF l f = true) (hp : f.p = 0) (hy : outs[k]? = some y) :
    (injO l outs f)[k]? = some (stuckL y f) := by
  unfold injO
  rw [if_pos ⟨hf, hp⟩, List.getElem?_map, hy]; rfl
theorem ivs_set (l : List Int) (k : Nat) (y : Int) : (ivs l).set k (.int .i64 y) = ivs (l.set k y) := by unfold ivs; rw [List.map_set]
/-- what is known within a round of the loop over the nodes -/
structure Px (w : World) (f : Ft) (ao : Int) (B2 g n cV gx : Nat) (v2 : Value) (m : Nat) (x : Nd) (mix : List Nd) (outs : List Int) (W : World) : Prop where
  fb : Blk W w.heap.size 54 #[.int .i64 f.v, .int .i64 f.p, .bool f.o]
  ab : Blk W B2 3 #[.int .i64 ao]
  xb : Blk W gx 111 #[.int .i64 x.A, .int .i64 x.B]
  o1 : W.ownsRow w.heap.size 111 2 (.slice (some ⟨g, 0, none⟩) n cV) n (encN mix)
  o2 : W.ownsRow w.heap.size 3 1 v2 m (ivs outs)
  bel : Below w.heap.size w W
  ng : gx ≠ g
  lg : w.heap.size ≤ g
section
variable {w W W' : World} {f : Ft} {ao : Int} {B2 g n cV gx m : Nat} {v2 : Value} {x : Nd} {mix : List Nd} {outs : List Int}
theorem Px.dr (h : Px w f ao B2 g n cV gx v2 m x mix outs W) (hd : Dr W W') : Px w f ao B2 g n cV gx v2 m x mix outs W' :=
  ⟨h.fb.dr hd, h.ab.dr hd, h.xb.dr hd, hd.own h.o1, hd.own h.o2, h.bel.trans (hd.below _), h.ng, h.lg⟩
theorem Px.set2 (h : Px w f ao B2 g n cV gx v2 m x mix outs W) {j : Nat} {y : Nd} (hy : mix[j]? = some y) (a b : Int) :
    Px w f ao B2 g n cV gx v2 m x (mix.set j ⟨a, b⟩) outs ((W.setCell ⟨g, j * 2, none⟩ (.int .i64 a)).setCell ⟨g, j * 2 + 1, none⟩ (.int .i64 b)) := by
  have n1 : w.heap.size ≠ g := fun e => own_blk_ne h.o1 h.fb (by decide) (by rw [e]; rfl)
  have n2 : B2 ≠ g := fun e => own_blk_ne h.o1 h.ab (by decide) (by rw [e]; rfl)
  have n3 := own_ne_some h.o2 h.o1 (by decide)
  have r1 := own_set h.o1 (j * 2) (.int .i64 a)
  rw [encN_set hy] at r1
  have hy2 : (mix.set j ⟨a, y.B⟩)[j]? = some ⟨a, y.B⟩ := by rw [List.getElem?_set]; simp [(List.getElem?_eq_some_iff.1 hy).1]
  have r2 := own_set r1 (j * 2 + 1) (.int .i64 b)
  rw [encN_setB hy2, List.set_set] at r2
  exact ⟨(h.fb.far n1 _).far n1 _, (h.ab.far n2 _).far n2 _, (h.xb.far h.ng _).far h.ng _, r2, ownsRow_setCell_other (a := ⟨g, j * 2 + 1, none⟩) (ownsRow_setCell_other (a := ⟨g, j * 2, none⟩) h.o2 n3 _) n3 _, (h.bel.setCell (p := ⟨g, j * 2, none⟩) h.lg _).setCell (p := ⟨g, j * 2 + 1, none⟩) h.lg _, h.ng, h.lg⟩
end
set_option maxRecDepth 8000 in
set_option maxHeartbeats 8000000 in
theorem fault_Inject (A C : Option Addr) (n m c cc : Nat) (l : List Nd) (outs : List Int) (f : Ft) (w : World) (hn : n ≤ 1000) (hm : m ≤ 1000) (hg : GoodNet l) (ho : GoodOuts l outs) (hr : RdN w A n l) (hro : Rd w C m (ivs outs)) :
    Calls Tryd.prog 39 #[.slice A n c, .slice C m cc, .agg #[.int .i64 f.v, .int .i64 f.p, .bool f.o]] w (InjIs l outs f w) := by
  have hnI : (n : Int) ≤ 1000 := by omega
  have hmI : (m : Int) ≤ 1000 := by omega
  have hl := hide hr.1
  have hlo := hide hro.len
  have HG := hide hg
  have HO := hide ho
  obtain ⟨G, hG⟩ : ∃ G, goodF l f = G := ⟨_, rfl⟩
  have HGd := hide (fun W hW => goodP_is (A := A) (n := n) (c := c) hG (by omega) W hW)
  have hGh := hide hG
  have HE := hide (fun v1 v2 w' (L : List Nd) (M : List Int) (hL : injN l f = L) (hM : injO l outs f = M) (h1 : w'.ownsRow w.heap.size 111 2 v1 n (encN L)) (h2 : w'.ownsRow w.heap.size 3 1 v2 m (ivs M)) (hb : Below w.heap.size w w') => show InjIs l outs f w (.returned (.tuple #[v1, v2])) w' from by
    subst hL hM; exact ⟨v1, v2, rfl, by rw [hl.out]; exact h1, by rw [hlo.out]; exact h2, hb⟩)
  have HC1 := hide (fun W a => clone_nodes A n c l W (by omega) a)
  have HC2 := hide (fun W a => Sorted.slices_Clone C m cc outs W (by omega) a)
  clear hG hn hm hg ho
  obtain ⟨v, p, o⟩ := f
  have HAt := hide (fun W => fault_constant o W)
  obtain ⟨ao, hao⟩ : ∃ ao, atB o = ao := ⟨_, rfl⟩
  rw [hao] at HAt
  have q0 := Blk.new w 54 #[.int .i64 v, .int .i64 p, .bool o]
  have bf := (Below.refl w.heap.size w).alloc (Nat.le_refl _) (.cells #[.int .i64 v, .int .i64 p, .bool o] 54)
  go_enter Tryd.func39, Tryd.ntmps39
  go_wp2_with fail
  refine (HC1.out _ (hr.below bf (Nat.le_refl _))).mono ?_
  rintro e w1 ⟨v1, rfl, hown1, hb1⟩
  have b1 := hide (bf.trans (hb1.mono bf.size))
  have hown1 := hide (own_base hown1 bf.size)
  have q1 := hide (q0.below hb1 q0.lt)
  clear hb1 q0 bf HC1
  obtain ⟨V, cV, rfl, _, _, _⟩ := RdN.of_own hown1.out
  go_wp2_with fail
  refine (HC2.out _ (hro.below b1.out (Nat.le_refl _))).mono ?_
  rintro e w2 ⟨v2, rfl, hown2, hb2⟩
  have b2 := hide (b1.out.trans (hb2.mono b1.out.size))
  have hown2 := hide (own_base hown2 b1.out.size)
  have hown1 := hide (own_keep hown1.out hb2)
  have q2 := hide (q1.out.below hb2 q1.out.lt)
  clear hb2 q1 b1 HC2
  obtain ⟨U, cU, rfl, _, _, _⟩ := Rd.of_own hown2.out
  have cf0 : w2.cell? ⟨w.heap.size, 0, none⟩ = some (.int .i64 v) := q2.out.cell 0
  have cf1 : w2.cell? ⟨w.heap.size, 1, none⟩ = some (.int .i64 p) := q2.out.cell 1
  have cf2 : w2.cell? ⟨w.heap.size, 2, none⟩ = some (.bool o) := q2.out.cell 2
  go_wp2_with fail
  refine (HGd.out _ (hr.below b2.out (Nat.le_refl _))).mono ?_
  rintro e w3 ⟨rfl, hb3⟩
  have b3 := hide (b2.out.trans (hb3.mono b2.out.size))
  have hO1 := hide (own_keep hown1.out hb3)
  have hO2 := hide (own_keep hown2.out hb3)
  have q3 := hide (q2.out.below hb3 q2.out.lt)
  clear hown1 hown2 hb3 q2 b2 cf0 cf1 cf2 HGd
  have cf0 : w3.cell? ⟨w.heap.size, 0, none⟩ = some (.int .i64 v) := q3.out.cell 0
  have cf1 : w3.cell? ⟨w.heap.size, 1, none⟩ = some (.int .i64 p) := q3.out.cell 1
  have cf2 : w3.cell? ⟨w.heap.size, 2, none⟩ = some (.bool o) := q3.out.cell 2
  cases G
  · have HEE := hide (HE.out _ _ _ _ _ (injN_bad hGh.out) (injO_bad hGh.out) hO1.out hO2.out b3.out)
    go_wp2
    go_ret2
    exact HEE.out
  · obtain ⟨g1, g2, g3⟩ := goodF_of hGh.out
    simp only at g1 g2 g3
    obtain ⟨k, hk⟩ := Int.eq_ofNat_of_zero_le (show 0 ≤ v - 1 by omega)
    have hkn : k < n := by have := hl.out; omega
    rcases own_cases hO1.out with ⟨_, h0⟩ | ⟨g, cap, he, hbg, hgl, _, _⟩
    · omega
    injection he with he1 _ he2
    subst he1 he2
    obtain ⟨x, hx⟩ : ∃ x, l[k]? = some x := ⟨_, List.getElem?_eq_getElem (by have := hl.out; omega)⟩
    obtain ⟨e0, e1⟩ := encN_get hx
    have o1 := hide (hO1.out.alloc (.cells #[.int .i64 ao] 3))
    have o2 := hide (hO2.out.alloc (.cells #[.int .i64 ao] 3))
    have qf := hide (q3.out.alloc (.cells #[.int .i64 ao] 3))
    have qa := hide (Blk.new w3 3 #[.int .i64 ao])
    have b4 := hide (b3.out.alloc b3.out.size (.cells #[.int .i64 ao] 3))
    have s0 : (w3.alloc (.cells #[.int .i64 ao] 3)).cell? ⟨g, k * 2, none⟩ = some (.int .i64 x.A) := own_cell o1.out e0
    have s1 : (w3.alloc (.cells #[.int .i64 ao] 3)).cell? ⟨g, k * 2 + 1, none⟩ = some (.int .i64 x.B) := own_cell o1.out e1
    have z0 := own_frozen o1.out (k * 2)
    have z1 := own_frozen o1.out (k * 2 + 1)
    have kf0 : (w3.alloc (.cells #[.int .i64 ao] 3)).cell? ⟨w.heap.size, 0, none⟩ = some (.int .i64 v) := qf.out.cell 0
    have kf1 : (w3.alloc (.cells #[.int .i64 ao] 3)).cell? ⟨w.heap.size, 1, none⟩ = some (.int .i64 p) := qf.out.cell 1
    have kf2 : (w3.alloc (.cells #[.int .i64 ao] 3)).cell? ⟨w.heap.size, 2, none⟩ = some (.bool o) := qf.out.cell 2
    have ka : (w3.alloc (.cells #[.int .i64 ao] 3)).cell? ⟨w3.heap.size, 0, none⟩ = some (.int .i64 ao) := qa.out.cell 0
    clear e0 e1
    have hpp : p = 0 ∨ p = 1 ∨ p = 2 := by omega
    have hi : v - 1 = (k : Int) := hk
    have hkI : (k : Int) < n := by omega
    have hv1 : v = (k : Int) + 1 := by omega
    rcases hpp with rfl | rfl | rfl
    · have HL := hide (fun j y (h : l[j]? = some y) => @injN_line l ⟨v, 0, o⟩ j y hGh.out rfl h)
      have HM := hide (fun j y (h : outs[j]? = some y) => @injO_line l outs ⟨v, 0, o⟩ j y hGh.out rfl h)
      have HS := hide (fun (y r : Int) (h : stuckL y ⟨v, 0, o⟩ = r) (h0 : 0 ≤ y) (h1 : y ≤ 3000) (W : World) (c0 : W.cell? ⟨w.heap.size, 0, none⟩ = some (.int .i64 v)) (c1 : W.cell? ⟨w3.heap.size, 0, none⟩ = some (.int .i64 ao)) => show Calls Tryd.prog 98 #[.int .i64 y, .pointer (some ⟨w.heap.size, 0, none⟩), .pointer (some ⟨w3.heap.size, 0, none⟩)] W fun e w' => e = .returned (.int .i64 r) ∧ W = w' from by
        subst h; exact fault_stuck y ⟨v, 0, o⟩ w.heap.size w3.heap.size h0 h1 W c0 (by rw [hao]; exact c1))
      obtain ⟨L, hLe⟩ : ∃ L, injN l ⟨v, 0, o⟩ = L := ⟨_, rfl⟩
      obtain ⟨M, hMe⟩ : ∃ M, injO l outs ⟨v, 0, o⟩ = M := ⟨_, rfl⟩
      have hLl := hide (show L.length = l.length by rw [← hLe, injN_len])
      have hMl := hide (show M.length = outs.length by rw [← hMe, injO_len])
      have HEE := hide (fun v1 v2 w' h1 h2 hb => HE.out v1 v2 w' L M hLe hMe h1 h2 hb)
      rw [hLe] at HL
      rw [hMe] at HM
      have hua := hide (fun (k : Nat) (h : (Value.slice U m cU).ownBlock = some k) => (hO2.out.lt k h).2)
      clear hLe hMe HE s0 s1 z0 z1 hx g1 g2 g3 hi hkI hv1 hk hkn hao
      go_wp2_with fail
      refine (HAt.out _).mono ?_
      rintro e w4 ⟨rfl, rfl⟩
      go_wp2
      go_loopw [34] (fun i wr => ∃ j : Nat, j ≤ n ∧ i = .int .i64 j ∧ wr.ownsRow w.heap.size 111 2 (.slice (some ⟨g, 0, none⟩) n cV) n (encN (L.take j ++ l.drop j)) ∧ wr.ownsRow w.heap.size 3 1 (.slice U m cU) m (ivs outs) ∧ Blk wr w.heap.size 54 #[.int .i64 v, .int .i64 0, .bool o] ∧ Blk wr w3.heap.size 3 #[.int .i64 ao] ∧ Below w.heap.size w wr) (fun i _ => n - (intOf i).toNat)
      case atStart => exact ⟨0, Nat.zero_le _, rfl, o1.out, o2.out, qf.out, qa.out, b4.out⟩
      case round =>
        clear o1 o2 qf qa b4 kf0 kf1 kf2 ka
        obtain ⟨j, hj, rfl, o1, o2, hf, ha, hb⟩ := hrel
        have hjI : (j : Int) ≤ 1000 := by omega
        by_cases hlt : j < n
        · obtain ⟨x, hx⟩ : ∃ x, l[j]? = some x := ⟨_, List.getElem?_eq_getElem (by have := hl.out; omega)⟩
          have hmx := hide (mix_get hLl.out hx)
          obtain ⟨e0, e1⟩ := encN_get hmx.out
          have hLj := hide (HL.out j x hx)
          have HOk := hide (HG.out j x hx)
          have hgl2 : g < wr.heap.size := by
            rcases own_cases o1 with ⟨h, _⟩ | ⟨g', _, h, _, hg', _⟩
            · cases h
            · injection h with h _ _; injection h with h; injection h with h _ _; omega
          have HF := hide (show Px w ⟨v, 0, o⟩ ao w3.heap.size g n cV wr.heap.size (.slice U m cU) m x (L.take j ++ l.drop j) outs (wr.alloc (.cells #[.int .i64 x.A, .int .i64 x.B] 111)) from
            ⟨hf.alloc _, ha.alloc _, Blk.new _ _ _, o1.alloc _, o2.alloc _, hb.alloc hb.size _, by omega, hbg⟩)
          have s0 : wr.cell? ⟨g, j * 2, none⟩ = some (.int .i64 x.A) := own_cell o1 e0
          have s1 : wr.cell? ⟨g, j * 2 + 1, none⟩ = some (.int .i64 x.B) := own_cell o1 e1
          obtain ⟨a, b⟩ := x
          simp only at s0 s1 HF hLj HOk
          clear e0 e1 hx o1 o2 hf ha hb
          have kx0 : (wr.alloc (.cells #[.int .i64 a, .int .i64 b] 111)).cell? ⟨wr.heap.size, 0, none⟩ = some (.int .i64 a) := HF.out.xb.cell 0
          have hjn : (j : Int) < n := by omega
          by_cases hA : 0 ≤ a
          · have d1 : decide (0 ≤ a) = true := by rw [decide_eq_true_iff]; exact hA
            obtain ⟨h1, h2, h3⟩ := HOk.out hA
            obtain ⟨a', ha'⟩ : ∃ a', stuckL a ⟨v, 0, o⟩ = a' := ⟨_, rfl⟩
            obtain ⟨b', hb'⟩ : ∃ b', stuckL b ⟨v, 0, o⟩ = b' := ⟨_, rfl⟩
            rw [if_pos hA, ha', hb'] at hLj
            try simp only at h1 h2 h3
            have HSA := hide (HS.out a a' ha' hA (by omega))
            have HSB := hide (HS.out b b' hb' h2 (by omega))
            clear HOk hA ha' hb' h1 h2 h3 HS
            have HF := hide (HF.out.dr (W' := (wr.alloc (.cells #[.int .i64 a, .int .i64 b] 111)).drew) ⟨1, rfl⟩)
            have z0 := own_frozen HF.out.o1 (j * 2)
            have z1 := own_frozen HF.out.o1 (j * 2 + 1)
            have hE := hide (encN_get hmx.out)
            obtain ⟨e0, e1⟩ := encN_get hmx.out
            have t0 : (wr.alloc (.cells #[.int .i64 a, .int .i64 b] 111)).drew.cell? ⟨g, j * 2, none⟩ = some (.int .i64 a) := own_cell HF.out.o1 e0
            have t1 : (wr.alloc (.cells #[.int .i64 a, .int .i64 b] 111)).drew.cell? ⟨g, j * 2 + 1, none⟩ = some (.int .i64 b) := own_cell HF.out.o1 e1
            clear e0 e1
            go_wp2
            go_region_held3 (fun W' => W'.cell? ⟨wr.heap.size, 0, none⟩ = some (.int .i64 a) ∧ W'.cell? ⟨wr.heap.size, 1, none⟩ = some (.int .i64 b)) (first | exact ⟨HF.out.xb.cell 0, HF.out.xb.cell 1⟩ | exact ⟨(HF.out.set2 hmx.out a' b').xb.cell 0, (HF.out.set2 hmx.out a' b').xb.cell 1⟩) (first | (go_at_call 98; (first | (with_reducible refine (HSA.out _ (HF.out.fb.cell 0) (HF.out.ab.cell 0)).mono ?_) | (with_reducible refine (HSB.out _ (HF.out.fb.cell 0) (HF.out.ab.cell 0)).mono ?_)); rintro e w5 ⟨rfl, hw5⟩; have HF := hide (HF.out.dr (W' := w5) ⟨0, hw5.symm⟩); clear hw5; have z0 := own_frozen HF.out.o1 (j * 2); have z1 := own_frozen HF.out.o1 (j * 2 + 1); have t0 : w5.cell? ⟨g, j * 2, none⟩ = some (.int .i64 a) := own_cell HF.out.o1 hE.out.1; have t1 : w5.cell? ⟨g, j * 2 + 1, none⟩ = some (.int .i64 b) := own_cell HF.out.o1 hE.out.2))
            all_goals
              have HF2 := hide (HF.out.set2 hmx.out a' b')
              rw [mix_set hLl.out hLj.out] at HF2
              go_wp2
              go_roundw
              case rel => exact ⟨j + 1, hlt, by go_num, HF2.out.o1, HF2.out.o2, HF2.out.fb, HF2.out.ab, HF2.out.bel⟩
              case measure => simp [intOf]; omega
          · have d1 : decide (0 ≤ a) = false := by rw [decide_eq_false_iff_not]; exact hA
            rw [if_neg hA] at hLj
            have hms := hide (show L.take (j + 1) ++ l.drop (j + 1) = L.take j ++ l.drop j by
              rw [← mix_set hLl.out hLj.out]
              exact set_same hmx.out)
            clear HOk hA HS
            go_wp2
            go_roundw
            case rel => exact ⟨j + 1, hlt, by go_num, by rw [hms.out]; exact HF.out.o1, HF.out.o2, HF.out.fb, HF.out.ab, HF.out.bel⟩
            case measure => simp [intOf]; omega
        · have hjn : j = n := by omega
          subst hjn
          rw [List.take_of_length_le (by rw [hLl.out, hl.out]; exact Nat.le_refl _), List.drop_eq_nil_of_le (by rw [hl.out]; exact Nat.le_refl _), List.append_nil] at o1
          go_wp2
          go_loopw [57] (fun i wr => ∃ q : Nat, q ≤ m ∧ i = .int .i64 q ∧ wr.ownsRow w.heap.size 111 2 (.slice (some ⟨g, 0, none⟩) j cV) j (encN L) ∧ wr.ownsRow w.heap.size 3 1 (.slice U m cU) m (ivs (M.take q ++ outs.drop q)) ∧ Blk wr w.heap.size 54 #[.int .i64 v, .int .i64 0, .bool o] ∧ Blk wr w3.heap.size 3 #[.int .i64 ao] ∧ Below w.heap.size w wr) (fun i _ => m - (intOf i).toNat)
          case atStart => exact ⟨0, Nat.zero_le _, rfl, o1, o2, hf, ha, hb⟩
          case round =>
            clear o1 o2 hf ha hb
            obtain ⟨q, hq, rfl, o1, o2, hf, ha, hb⟩ := hrel
            have hqI : (q : Int) ≤ 1000 := by omega
            by_cases hltq : q < m
            · obtain ⟨y, hy⟩ : ∃ y, outs[q]? = some y := ⟨_, List.getElem?_eq_getElem (by have := hlo.out; omega)⟩
              rcases own_cases o2 with ⟨_, h0⟩ | ⟨g', cap', he', hbg', _, _, _⟩
              · omega
              injection he' with he1 _ he2
              subst he1 he2
              have hmy := hide (mix_get hMl.out hy)
              have hMq := hide (HM.out q y hy)
              obtain ⟨y0, y1⟩ := HO.out y (List.mem_of_getElem? hy)
              have y1 : y ≤ 3000 := by have := hl.out; omega
              obtain ⟨y', hy'⟩ : ∃ y', stuckL y ⟨v, 0, o⟩ = y' := ⟨_, rfl⟩
              rw [hy'] at hMq
              have HSY := hide (HS.out y y' hy' y0 y1 wr (hf.cell 0) (ha.cell 0))
              have e0 : (ivs (M.take q ++ outs.drop q))[q]? = some (.int .i64 y) := by unfold ivs; rw [List.getElem?_map, hmy.out]; rfl
              have s0 : wr.cell? ⟨g', q, none⟩ = some (.int .i64 y) := own_cell o2 e0
              have z0 := own_frozen o2 q
              have hqm : (q : Int) < m := by omega
              have r2 := own_set o2 q (.int .i64 y')
              rw [ivs_set, mix_set hMl.out hMq.out] at r2
              have n3 := own_ne_some o1 o2 (by decide)
              have r1 := hide (ownsRow_setCell_other (a := ⟨g', q, none⟩) o1 n3 (.int .i64 y'))
              have n1 : w.heap.size ≠ g' := fun e => own_blk_ne o2 hf (by decide) (by rw [e]; rfl)
              have rf := hide (hf.far (p := ⟨g', q, none⟩) n1 (.int .i64 y'))
              have n2 : w3.heap.size ≠ g' := by have := hua.out g' rfl; omega
              have ra := hide (ha.far (p := ⟨g', q, none⟩) n2 (.int .i64 y'))
              have rb := hide (hb.setCell (p := ⟨g', q, none⟩) hbg' (.int .i64 y'))
              have r2 := hide r2
              clear n1 n2 n3 hy hy' y0 y1 e0 o1 o2 hf ha hb
              go_wp2_with fail
              refine HSY.out.mono ?_
              rintro e w5 ⟨rfl, rfl⟩
              go_wp2
              go_roundw
              case rel => exact ⟨q + 1, hltq, by go_num, r1.out, r2.out, rf.out, ra.out, rb.out⟩
              case measure => simp [intOf]; omega
            · have hqm : q = m := by omega
              subst hqm
              rw [List.take_of_length_le (by rw [hMl.out, hlo.out]; exact Nat.le_refl _), List.drop_eq_nil_of_le (by rw [hlo.out]; exact Nat.le_refl _), List.append_nil] at o2
              have HR := hide (HEE.out _ _ _ o1 o2 hb)
              go_wp2
              go_ret2
              exact HR.out
    · have hL := hide (show injN l ⟨v, 1, o⟩ = l.set k ⟨ao, x.B⟩ by rw [injN_pin (f := ⟨v, 1, o⟩) hGh.out hv1 hx (by simp), ← hao]; simp)
      have hM := hide (injO_pin (l := l) (outs := outs) (f := ⟨v, 1, o⟩) (by simp))
      have r1 := (own_set hO1.out (k * 2) (.int .i64 ao)).alloc (.cells #[.int .i64 ao] 3)
      rw [encN_set hx ao] at r1
      have r2 := (ownsRow_setCell_other (a := ⟨g, k * 2, none⟩) hO2.out (own_ne_some hO2.out hO1.out (by decide)) (.int .i64 ao)).alloc (.cells #[.int .i64 ao] 3)
      have rb := b3.out.setCell (p := ⟨g, k * 2, none⟩) hbg (.int .i64 ao)
      have HEE := hide (HE.out _ _ _ _ _ hL.out hM.out r1 r2 (rb.alloc rb.size (.cells #[.int .i64 ao] 3)))
      clear g1 g2 g3 hv1 r1 r2 rb
      go_wp2_with fail
      refine (HAt.out _).mono ?_
      rintro e w4 ⟨rfl, rfl⟩
      go_wp2
      go_ret2
      exact HEE.out
    · have hL := hide (show injN l ⟨v, 2, o⟩ = l.set k ⟨x.A, ao⟩ by rw [injN_pin (f := ⟨v, 2, o⟩) hGh.out hv1 hx (by simp), ← hao]; simp)
      have hM := hide (injO_pin (l := l) (outs := outs) (f := ⟨v, 2, o⟩) (by simp))
      have r1 := (own_set hO1.out (k * 2 + 1) (.int .i64 ao)).alloc (.cells #[.int .i64 ao] 3)
      rw [encN_setB hx ao] at r1
      have r2 := (ownsRow_setCell_other (a := ⟨g, k * 2 + 1, none⟩) hO2.out (own_ne_some hO2.out hO1.out (by decide)) (.int .i64 ao)).alloc (.cells #[.int .i64 ao] 3)
      have rb := b3.out.setCell (p := ⟨g, k * 2 + 1, none⟩) hbg (.int .i64 ao)
      have HEE := hide (HE.out _ _ _ _ _ hL.out hM.out r1 r2 (rb.alloc rb.size (.cells #[.int .i64 ao] 3)))
      clear g1 g2 g3 hv1 r1 r2 rb
      go_wp2_with fail
      refine (HAt.out _).mono ?_
      rintro e w4 ⟨rfl, rfl⟩
      go_wp2
      go_ret2
      exact HEE.out
end Go.Proofs.YtcjoohaagdihlaaDoor.Fault
