/- Deleting from a row of kept cubes, in place, by a function: the walk. -/
import Derived.Test.YtcjoohaagdihlaaStore8
namespace Go.Proofs.Ytcjoohaagdihlaa.Kept
open Go.RowKit Go.Shelf Go.Lt Go.Proofs.Ytcjoohaagdihlaa.Lit Go.Proofs.Ytcjoohaagdihlaa.CubeHas Go.Proofs.Ytcjoohaagdihlaa.Cube
set_option linter.unusedVariables false
set_option linter.unusedSimpArgs false

/-- what is known between the rounds -/
structure Dx (base g cap : Nat) (p : Nat → Bool) (L : List Kv) (w : World) (i j : Nat) (W : World) (M : List Kv) : Prop where
  row : W.ownsRow base 66 3 (.slice (some ⟨g, 0, none⟩) L.length cap) L.length (encK M)
  fr : Fr (fun k => k = g) w W
  len : M.length = L.length
  ij : i < j
  take : M.take i = kept p L j
  il : (kept p L j).length = i
  drop : ∀ q, j ≤ q → M[q]? = L[q]?
theorem Dx.step {base g cap : Nat} {p : Nat → Bool} {L : List Kv} {w : World} {i j : Nat} {W W' : World} {M : List Kv} (h : Dx base g cap p L w i j W M) (hb : Below W.heap.size W W') : Dx base g cap p L w i j W' M :=
  ⟨own_keep h.row hb, h.fr.trans (Fr.of_below hb), h.len, h.ij, h.take, h.il, h.drop⟩
theorem Dx.skip {base g cap : Nat} {p : Nat → Bool} {L : List Kv} {w : World} {i j : Nat} {W : World} {M : List Kv} (h : Dx base g cap p L w i j W M) (hp : p j = true) : Dx base g cap p L w i (j + 1) W M :=
  ⟨h.row, h.fr, h.len, by have := h.ij; omega, by rw [kept_no hp]; exact h.take, by rw [kept_no hp]; exact h.il, fun q hq => h.drop q (by omega)⟩
theorem Dx.put {base g cap : Nat} {p : Nat → Bool} {L : List Kv} {w : World} {i j : Nat} {W : World} {M : List Kv} (h : Dx base g cap p L w i j W M) (hp : p j = false) (hj : j < L.length) (x : Kv) (hx : kvAt L j = x) :
    Dx base g cap p L w (i + 1) (j + 1) (((W.setCell ⟨g, i * 3, none⟩ x.c.val).setCell ⟨g, i * 3 + 1, none⟩ (.int .i64 x.d)).setCell ⟨g, i * 3 + 2, none⟩ x.i.val) (M.set i x) where
  row := by
    have hM : i < M.length := by have := h.len; have := h.ij; omega
    rw [← encK_set M i x hM]
    exact own_set (own_set (own_set h.row _ _) _ _) _ _
  fr := by
    refine h.fr.trans ((Fr.refl (fun k => k = g) W).trans ⟨rfl, rfl, rfl, by simp, fun k hk hS => ?_⟩)
    rw [Below.heap_setCell _ _ _ _ hS, Below.heap_setCell _ _ _ _ hS, Below.heap_setCell _ _ _ _ hS]
  len := by rw [List.length_set]; exact h.len
  ij := by have := h.ij; omega
  take := by
    rw [take_set_end M i x (by have := h.len; have := h.ij; omega), h.take, kept_yes hp, hx]
  il := by rw [kept_yes hp, List.length_append, h.il]; rfl
  drop := fun q hq => by
    rw [List.getElem?_set_ne (by have := h.ij; omega)]
    exact h.drop q (by omega)
theorem Dx.cells {base g cap : Nat} {p : Nat → Bool} {L : List Kv} {w : World} {i j : Nat} {W : World} {M : List Kv} (h : Dx base g cap p L w i j W M) {k : Nat} (hk : k < L.length) : ∃ y : Kv, M[k]? = some y ∧ W.cell? ⟨g, k * 3, none⟩ = some y.c.val ∧ W.cell? ⟨g, k * 3 + 1, none⟩ = some (.int .i64 y.d) ∧ W.cell? ⟨g, k * 3 + 2, none⟩ = some y.i.val := by
  obtain ⟨A, c, hv, _, _, hr⟩ := RdK.of_own h.row
  injection hv with e1 _ _
  subst e1
  obtain ⟨ad, y, h1, _, h3, h4, h5, h6⟩ := hr.2 k hk
  injection h1 with h1
  subst h1
  rw [add0] at h4 h5 h6
  exact ⟨y, h3, h4, h5, h6⟩
def DelIs (base : Nat) (p : Nat → Bool) (L : List Kv) (V : Value) (w : World) (e : Ending) (w' : World) : Prop :=
  ∃ V', e = .returned V' ∧ w'.ownsRow base 66 3 V' (kept p L L.length).length (encK (kept p L L.length)) ∧ Fr (fun k => V.ownBlock = some k) w w' ∧ V'.ownBlock = V.ownBlock
set_option maxRecDepth 8000 in
set_option maxHeartbeats 4000000 in
theorem del_fn (V : Value) (base : Nat) (L : List Kv) (p : Nat → Bool) (f1 f2 : Value) (w : World) (hown : w.ownsRow base 66 3 V L.length (encK L)) (hm : L.length ≤ 1000000)
    (hp : ∀ W, Fr (fun k => V.ownBlock = some k) w W → ∀ j, j < L.length → Calls Try.prog 104 #[.agg (kvAt L j).cells, f1, f2] W fun e W' => e = .returned (.bool (p j)) ∧ Below W.heap.size W W') :
    Calls Try.prog 103 #[V, .func (.func 104) #[] #[f1, f2]] w (DelIs base p L V w) := by
  obtain ⟨A, c, hV, _, hcm, hrd⟩ := RdK.of_own hown
  have hIF := idx_fn A c L p f1 f2 w hrd hm (fun W hb => hp W (Fr.of_below hb))
  have hmI : (L.length : Int) ≤ 1000000 := by omega
  subst hV
  have hOwn := hide hown
  have hP := hide hp
  clear hown hp hrd
  go_enter Try.func103, Try.ntmps103
  go_wp2_with fail
  refine hIF.mono ?_
  rintro e w1 (⟨rfl, hall, hb1⟩ | ⟨k0, hk0, rfl, hpk, hbef, hb1⟩)
  · have HB := hide hb1
    have HA := hide hall
    clear hb1 hall
    go_wp2
    go_ret
    have hk : kept p L L.length = L := by rw [kept_all (Nat.le_refl _) HA.out, List.take_length]
    refine ⟨.slice A L.length c, rfl, ?_, Fr.of_below HB.out, rfl⟩
    rw [hk]
    exact own_keep hOwn.out HB.out
  · have hHB := hide hb1
    have HP0 := hide hpk
    have HA := hide hbef
    have hg : ∃ g, A = some ⟨g, 0, none⟩ := by
      rcases own_cases hOwn.out with ⟨h1, h2⟩ | ⟨g, cap, h1, _⟩
      · omega
      · injection h1 with h1 _ _; exact ⟨g, h1⟩
    obtain ⟨g, rfl⟩ := hg
    have hk0I : (k0 : Int) < L.length := by omega
    have hne : ((k0 : Int) == -1) = false := beq_eq_false_iff_ne.2 (by omega)
    have hS : (fun k => k = g) = (fun k => (Value.slice (some (⟨g, 0, none⟩ : Addr)) L.length c).ownBlock = some k) := by
      funext k; simp [Value.ownBlock]; exact ⟨Eq.symm, Eq.symm⟩
    have hD0 : Hid (Dx base g c p L w k0 (k0 + 1) w1 L) := hide ⟨own_keep hOwn.out hHB.out, Fr.of_below hHB.out, rfl, by omega, by rw [kept_no HP0.out, kept_all (by omega) HA.out], by rw [kept_no HP0.out, kept_all (by omega) HA.out, List.length_take]; omega, fun _ _ => rfl⟩
    have HPS := hP.out
    rw [← hS] at HPS
    have HPS := hide HPS
    clear hb1 hpk hbef hP hIF
    go_wp2
    go_loopw [5, 6] (fun a b wr => ∃ (i j : Nat) (M : List Kv), a = .int .i64 i ∧ b = .int .i64 j ∧ j ≤ L.length ∧ Hid (Dx base g c p L w i j wr M)) (fun _ b _ => L.length - (intOf b).toNat)
    case atStart => exact ⟨k0, k0 + 1, L, rfl, by go_num, by omega, hD0⟩
    case round =>
      obtain ⟨i, j, M, rfl, rfl, hj, hD⟩ := hrel
      have hij := hD.out.ij
      have hjI : (j : Int) ≤ 1000000 := by omega
      have hiI : (i : Int) < j := by omega
      by_cases hlt : j < L.length
      · have hltI : (j : Int) < L.length := by omega
        obtain ⟨x, hx, c0, c1, c2⟩ := hD.out.cells hlt
        rw [hD.out.drop j (Nat.le_refl _)] at hx
        have hx' : kvAt L j = x := by unfold kvAt; rw [List.getD_eq_getElem?_getD, hx]; rfl
        obtain ⟨y, _, y0, y1, y2⟩ := hD.out.cells (k := i) (by omega)
        have f0 := own_frozen hD.out.row (i * 3)
        have f1 := own_frozen hD.out.row (i * 3 + 1)
        have f2 := own_frozen hD.out.row (i * 3 + 2)
        have hbs := (Below.refl wr.heap.size wr).alloc (Nat.le_refl _) (.cells x.cells 66)
        have hcall := HPS.out (wr.alloc (.cells x.cells 66)) (hD.out.step hbs).fr j hlt
        rw [hx'] at hcall
        have hX := hide hx'
        have bX := Blk.new wr 66 x.cells
        have b0 : (wr.alloc (.cells x.cells 66)).cell? ⟨wr.heap.size, 0, none⟩ = some x.c.val := bX.cell 0
        have b1 : (wr.alloc (.cells x.cells 66)).cell? ⟨wr.heap.size, 1, none⟩ = some (.int .i64 x.d) := bX.cell 1
        have b2 : (wr.alloc (.cells x.cells 66)).cell? ⟨wr.heap.size, 2, none⟩ = some x.i.val := bX.cell 2
        have hHD := hide (hD.out.step hbs)
        clear hx hx' bX hbs hD
        have hgl : g < wr.heap.size := World.block_lt_of_cell? _ _ c0
        cases hpk : p j with
        | true =>
          have HP := hide hpk
          rw [hpk] at hcall
          clear hpk
          go_wp2_with (go_at_call 104; refine hcall.mono ?_; rintro e w2 ⟨rfl, hb2⟩)
          go_roundw
          case rel => exact ⟨i, j + 1, M, rfl, by go_num, by omega, hide ((hHD.out.step hb2).skip HP.out)⟩
          case measure => simp [intOf]; omega
        | false =>
          have HP := hide hpk
          rw [hpk] at hcall
          clear hpk
          go_wp2_with (go_at_call 104; refine hcall.mono ?_; rintro e w2 ⟨rfl, hb2⟩; have q0 := keepCell hb2 b0; have q1 := keepCell hb2 b1; have q2 := keepCell hb2 b2; have y0 := (hHD.out.step hb2).cells (k := i) (by omega); obtain ⟨y, _, y0, y1, y2⟩ := y0; have f0 := own_frozen (hHD.out.step hb2).row (i * 3); have f1 := own_frozen (hHD.out.step hb2).row (i * 3 + 1); have f2 := own_frozen (hHD.out.step hb2).row (i * 3 + 2))
          go_roundw
          case rel => exact ⟨i + 1, j + 1, M.set i x, by go_num, by go_num, by omega, hide ((hHD.out.step hb2).put HP.out hlt x hX.out)⟩
          case measure => simp [intOf]; omega
      · obtain rfl : j = L.length := by omega
        have hltI : ¬ (L.length : Int) < L.length := by omega
        have hil := hD.out.il
        obtain ⟨w3, hc3, hown3, hgr3⟩ := run_clear_own (ty := 0) (c := c - i) hD.out.row (show i ≤ L.length by omega)
        have hown3 := hide hown3
        have hgr3 := hide hgr3
        clear hil
        go_wp2
        go_ret
        refine ⟨.slice (some ⟨g, 0, none⟩) i c, rfl, ?_, ?_, rfl⟩
        · rw [hD.out.il, ← hD.out.take]; exact hown3.out
        · rw [← hS]; exact hD.out.fr.trans (Fr.of_grown hgr3.out (fun k e => .inl (by cases e; rfl)))
end Go.Proofs.Ytcjoohaagdihlaa.Kept
