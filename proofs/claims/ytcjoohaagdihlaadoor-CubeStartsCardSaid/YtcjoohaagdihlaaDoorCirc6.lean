/- A good circuit's net is made without harm; its machine bears its latches. -/
import Derived.Test.YtcjoohaagdihlaaDoorCirc4
namespace Go.Proofs.YtcjoohaagdihlaaDoor.Circ
open Go.RowKit Go.Lt Go.Proofs.YtcjoohaagdihlaaDoor.Lit Go.Proofs.YtcjoohaagdihlaaDoor.CubeHas Go.Proofs.YtcjoohaagdihlaaDoor.CubeStart
set_option linter.unusedVariables false
set_option linter.unusedSimpArgs false

/-- what is known between the rounds: a row of nodes, a row of places -/
structure Nx (W1 : World) (j : Nat) (u : Value) (q : Nat) (a : Value) (W : World) : Prop where
  n : ∃ xs, W.ownsRow W1.heap.size 111 2 u j xs
  a : ∃ ys, W.ownsRow W1.heap.size 3 1 a q (ivs ys)
  bel : Below W1.heap.size W1 W
theorem Nx.step {W1 : World} {j q : Nat} {u a : Value} {W W' : World} (h : Nx W1 j u q a W) (hb : Below W.heap.size W W') : Nx W1 j u q a W' :=
  ⟨by obtain ⟨xs, h1⟩ := h.n; exact ⟨xs, own_keep h1 hb⟩, by obtain ⟨ys, h1⟩ := h.a; exact ⟨ys, own_keep h1 hb⟩, h.bel.trans (hb.mono h.bel.size)⟩
theorem Nx.pushA {W1 : World} {j q : Nat} {u a a' : Value} {x : Int} {ys : List Int} {W W' : World} (h : Nx W1 j u q a W) (h1 : W'.ownsRow W1.heap.size 3 1 a' (q + 1) (ivs ys ++ [.int .i64 x])) (h2 : Below W1.heap.size W1 W')
    (h3 : (W.alloc (.cells #[.int .i64 x] 3)).grownBy W' a.ownBlock) : Nx W1 j u (q + 1) a' W' := by
  obtain ⟨xs, hn⟩ := h.n
  obtain ⟨zs, ha⟩ := h.a
  have n1 := hn.alloc (.cells #[.int .i64 x] 3)
  have a1 := ha.alloc (.cells #[.int .i64 x] 3)
  exact ⟨⟨xs, n1.kept h3 (own_own_ne n1 a1 (by decide))⟩, ⟨ys ++ [x], by rw [ivs_app]; exact h1⟩, h2⟩
theorem Nx.pushN {W1 : World} {j q : Nat} {u u' a : Value} {ws : List Value} {W W' : World} {ob : Obj} (h : Nx W1 j u q a W) (h1 : W'.ownsRow W1.heap.size 111 2 u' (j + 1) ws) (h2 : Below W1.heap.size W1 W')
    (h3 : (W.alloc ob).grownBy W' u.ownBlock) : Nx W1 (j + 1) u' q a W' := by
  obtain ⟨xs, hn⟩ := h.n
  obtain ⟨zs, ha⟩ := h.a
  have n1 := hn.alloc ob
  have a1 := ha.alloc ob
  exact ⟨⟨ws, h1⟩, ⟨zs, a1.kept h3 (own_own_ne a1 n1 (by decide))⟩, h2⟩
theorem Nx.setA {W1 : World} {j q g d : Nat} {u : Value} {W : World} (h : Nx W1 j u q (.slice (some ⟨g, 0, none⟩) q d) W) (i : Nat) (hi : i < q) (x : Int) :
    Nx W1 j u q (.slice (some ⟨g, 0, none⟩) q d) (W.setCell ⟨g, i, none⟩ (.int .i64 x)) ∧ (∃ y, W.cell? ⟨g, i, none⟩ = some (.int .i64 y)) ∧ W.frozen? ⟨g, i, none⟩ = false := by
  obtain ⟨xs, hn⟩ := h.n
  obtain ⟨ys, ha⟩ := h.a
  have hg : W1.heap.size ≤ g := by
    rcases own_cases ha with ⟨h4, _⟩ | ⟨g', c', h4, h5, _⟩
    · cases h4
    · injection h4 with h4 _ _; injection h4 with h4; injection h4 with h4 _ _; subst h4; exact h5
  have hne : u.ownBlock ≠ some g := by
    rcases own_own_ne hn ha (by decide) with h4 | h4
    · rw [h4]; simp
    · simpa [Value.ownBlock] using h4
  have hl : ys.length = q := by have := ha.1; simpa [ivs] using this
  refine ⟨⟨⟨xs, ownsRow_setCell_other hn hne _⟩, ⟨ys.set i x, ?_⟩, h.bel.setCell (p := ⟨g, i, none⟩) hg _⟩, ⟨ys[i]'(by omega), ?_⟩, own_frozen ha i⟩
  · have := own_set ha i (.int .i64 x)
    unfold ivs at this ⊢
    rw [List.map_set]; exact this
  · exact own_cell ha (by unfold ivs; rw [List.getElem?_map, List.getElem?_eq_getElem (by omega)]; rfl)
theorem Nx.rd {W1 : World} {j q g d : Nat} {u : Value} {W : World} (h : Nx W1 j u q (.slice (some ⟨g, 0, none⟩) q d) W) : ∃ ys, Rd W (some ⟨g, 0, none⟩) q (ivs ys) := by
  obtain ⟨ys, ha⟩ := h.a
  obtain ⟨_, _, hv, _, _, hr⟩ := Rd.of_own ha
  injection hv with e1 e2 e3
  exact ⟨ys, by rw [e1]; exact hr⟩
theorem goodC_rng {c : Ci} (hm : c.max ≤ 300) (h : GoodC c) : Rng c := by
  intro x hx
  obtain ⟨k, hk⟩ := List.getElem?_of_mem hx
  have h1 := h.gatl hk
  have h2 := h.gatu hk
  exact ⟨⟨by omega, by omega⟩, ⟨by omega, by omega⟩, by omega, by omega⟩
theorem own_slice {w : World} {base e size n : Nat} {v : Value} {xs : List Value} (h : w.ownsRow base e size v n xs) : ∃ A c, v = .slice A n c := by
  rcases own_cases h with ⟨rfl, rfl⟩ | ⟨g, c, rfl, _⟩
  · exact ⟨_, _, rfl⟩
  · exact ⟨_, _, rfl⟩
theorem lit1_rdS2 (w : World) (t : TypeId) (a b : Value) : RdS (w.alloc (.cells #[a, b] t)) (some ⟨w.heap.size, 0, none⟩) 1 2 [a, b] := by
  refine ⟨rfl, .inr ⟨_, rfl, by simp, fun k u hk => ?_⟩⟩
  have : (⟨w.heap.size, 0, none⟩ : Addr).add k = ⟨w.heap.size, k, none⟩ := by unfold Addr.add; split <;> simp_all
  rw [this, World.cell?_alloc_new]
  simpa using hk
def NetIs (w : World) (e : Ending) (w' : World) : Prop := ∃ A n k B m d, e = .returned (.tuple #[.slice A n k, .slice B m d]) ∧ Below w.heap.size w w'
set_option maxRecDepth 8000 in
set_option maxHeartbeats 1200000 in
theorem ref_Net (v : Cv) (c : Ci) (w : World) (hf : FewOk 30 v) (hmax : c.max ≤ 300) (hgc : GoodC c) (hi : CiIs w v c) :
    Calls Tryd.prog 84 #[.agg (cells9 c.max v)] w (NetIs w) := by
  obtain ⟨M, hM⟩ := Int.eq_ofNat_of_zero_le hgc.max
  rw [hM]
  have hb1 := (Below.refl w.heap.size w).alloc (Nat.le_refl _) (.cells (cells9 (M : Int) v) 27)
  have q1 := Blk.new w 27 (cells9 (M : Int) v)
  have hi1 := hi.below hb1 (Nat.le_refl _)
  obtain ⟨W1, hW1⟩ : ∃ W1, w.alloc (.cells (cells9 (M : Int) v) 27) = W1 := ⟨_, rfl⟩
  rw [hW1] at hb1 q1 hi1
  have hlt1 : w.heap.size < W1.heap.size := q1.lt
  have hb1 := hide hb1
  have hn1 := hf.ins
  have hn2 := hf.lat
  have hn6 := hf.gat
  have hMI : M ≤ 300 := by omega
  have hM2 := hide hM
  have hgc := hide hgc
  have hmx := hide hmax
  have hgm : ∀ x, x ≤ 2 * c.max → x ≤ 2 * (M : Int) := fun x hx => by rw [← hM]; exact hx
  have hgm1 : ∀ x, x ≤ 2 * c.max + 1 → x ≤ 2 * (M : Int) + 1 := fun x hx => by rw [← hM]; exact hx
  have hgm := hide hgm
  have hgm1 := hide hgm1
  clear hi hf hmax hM
  have cM0 : W1.cell? ⟨w.heap.size, 0, none⟩ = some (.int .i64 M) := q1.cell 0
  go_enter Tryd.func84, Tryd.ntmps84
  go_wp2
  go_loopw [5, 6] (fun a i wr => ∃ k : Nat, k ≤ M ∧ i = .int .i64 ((k : Int) + 1) ∧ Nx W1 0 (.slice (some ⟨W1.heap.size, 0, none⟩) 0 0) (k + 1) a wr) (fun _ i _ => M + 1 - (intOf i).toNat)
  case atStart =>
    refine ⟨0, Nat.zero_le _, rfl, ⟨⟨[], (made_empty W1 W1.heap.size _ 2 (Nat.le_refl _)).alloc _⟩, ⟨[0], ?_⟩, ((Below.refl _ _).alloc (Nat.le_refl _) _).alloc (by simp) _⟩⟩
    have := World.ownsRow_lit (W1.alloc (.cells #[] 111)) (e := 3) (size := 1) #[.int .i64 0] 1 (Nat.le_refl _) (by unfold maxLen; omega) rfl
    exact own_low (b' := W1.heap.size + 1) (by simpa [ivs] using this) (by omega)
  case round =>
    obtain ⟨k, hk, rfl, hX⟩ := hrel
    have hkI : (k : Int) ≤ 300 := by omega
    have cM : wr.cell? ⟨w.heap.size, 0, none⟩ = some (.int .i64 M) := (q1.below hX.bel hlt1).cell 0
    by_cases hlt : k < M
    · have hltI : (k : Int) + 1 ≤ M := by omega
      obtain ⟨ys, ha⟩ := hX.a
      have hb := hX.bel
      have hX := hide hX
      obtain ⟨U, cU, rfl, _, _, _⟩ := Rd.of_own ha
      have h63 := hide (show k + 1 + 1 ≤ maxLen by unfold maxLen; omega)
      have hby := hide (show (k + 1 + 1) * 8 ≤ 140737488355328 by omega)
      go_wp2_with (at_builtin; refine wpList_pushG rfl _ _ _ rfl Tryd.underlying22 info_i rfl (by decide) rfl (by first | rfl | simp [go_sem]) ha hb (Nat.le_refl _) rfl (by simp [Value.oneCell']) h63.out hby.out ?_; intro v6 w6 hown6 hb6 hgr6; have hP := hide (hX.out.pushA hown6 hb6 hgr6); clear hgr6 hb6 hown6)
      go_roundw
      case rel => exact ⟨k + 1, hlt, by go_num, hP.out⟩
      case measure => simp [intOf]; omega
    have hkn : M = k := by omega
    subst hkn
    have hnot : ¬ (M : Int) + 1 ≤ M := by omega
    have c1 : wr.cell? ⟨w.heap.size, 1, none⟩ = some (.slice v.ins.A v.ins.n v.ins.c) := (q1.below hX.bel hlt1).cell 1
    obtain ⟨ys0, ha0⟩ := hX.a
    rcases own_cases ha0 with ⟨_, h0⟩ | ⟨ga, da, rfl, _⟩
    · omega
    clear ha0
    obtain ⟨wo, hwo⟩ : ∃ wo, wo = wr := ⟨_, rfl⟩
    subst hwo
    have hX0 := hide hX
    clear hX
    go_wp2
    go_loopw [4, 7] (fun n i wr => ∃ k : Nat, k ≤ v.ins.n ∧ i = .int .i64 k ∧ Nx W1 (k) n (M + 1) (.slice (some ⟨ga, 0, none⟩) (M + 1) da) wr) (fun _ i _ => v.ins.n - (intOf i).toNat)
    case atStart => exact ⟨0, Nat.zero_le _, rfl, hX0.out⟩
    case round =>
      obtain ⟨k, hk, rfl, hX⟩ := hrel
      have hkI : (k : Int) ≤ 30 := by omega
      have cB : wr.cell? ⟨w.heap.size, 1, none⟩ = some (.slice v.ins.A v.ins.n v.ins.c) := (q1.below hX.bel hlt1).cell 1
      by_cases hlt : k < v.ins.n
      · have hltI : (k : Int) < v.ins.n := by omega
        obtain ⟨xs, hn⟩ := hX.n
        have hb := hX.bel
        have hX := hide hX
        obtain ⟨U, cU, rfl⟩ := own_slice hn
        obtain ⟨ad, x, hA, hB, hx, c0⟩ := hi1.ins.get hlt
        have hxg := hgc.out.inp hx
        clear hx
        obtain ⟨y, hy⟩ : ∃ y, x = y := ⟨_, rfl⟩
        rw [hy] at c0 hxg
        obtain ⟨hx0, hx1⟩ := hxg
        have hx1 := hgm.out _ hx1
        obtain ⟨h, hh⟩ := Int.eq_ofNat_of_zero_le (show 0 ≤ y / 2 by omega)
        have hhM : h < M + 1 := by omega
        have hhI : (h : Int) < M + 1 := by omega
        have h63 := hide (show k + 1 ≤ maxLen by unfold maxLen; omega)
        have hby := hide (show (k + 1) * 16 ≤ 140737488355328 by omega)
        have hAB := hide hB
        have hAA := hide hA
        go_wp2_with (at_builtin; refine wpList_pushG rfl _ _ _ rfl Tryd.underlying49 info_n rfl (by decide) rfl (by first | rfl | simp [go_sem]) hn hb (Nat.le_refl _) rfl (by simp [Value.oneCell']) h63.out hby.out ?_; intro v6 w6 hown6 hb6 hgr6; have hP := hide (hX.out.pushN hown6 hb6 hgr6); obtain ⟨U6, cU6, rfl⟩ := own_slice hown6; have cB6 : w6.cell? ⟨w.heap.size, 1, none⟩ = some (.slice v.ins.A v.ins.n v.ins.c) := (q1.below hb6 hlt1).cell 1; rw [hAA.out] at cB6; have c06 := (hb6.cell (p := ad.add k) (by rw [add_block]; exact hAB.out)).trans c0; obtain ⟨hS, ⟨z, hz⟩, hfz⟩ := hP.out.setA h hhM (2 * ((((k : Nat) : Int)) + 1)); have hS := hide hS; clear hgr6 hb6 hown6)
        go_roundw
        case rel => exact ⟨k + 1, hlt, by go_num, hS.out⟩
        case measure => simp [intOf]; omega
      have hkn : k = v.ins.n := by omega
      have hkn' : ¬ (k : Int) < v.ins.n := by omega
      obtain ⟨wo2, hwo⟩ : ∃ wo2, wo2 = wr := ⟨_, rfl⟩
      subst hwo
      rw [hkn] at hX
      have hX0 := hide hX
      have c2 : wo2.cell? ⟨w.heap.size, 2, none⟩ = some (.slice v.lat.A v.lat.n v.lat.c) := (q1.below hX.bel hlt1).cell 2
      clear hX
      go_wp2
      go_loopw [4, 8] (fun n i wr => ∃ k : Nat, k ≤ v.lat.n ∧ i = .int .i64 k ∧ Nx W1 (v.ins.n + k) n (M + 1) (.slice (some ⟨ga, 0, none⟩) (M + 1) da) wr) (fun _ i _ => v.lat.n - (intOf i).toNat)
      case atStart => exact ⟨0, Nat.zero_le _, rfl, hX0.out⟩
      case round =>
        obtain ⟨k, hk, rfl, hX⟩ := hrel
        have hkI : (k : Int) ≤ 30 := by omega
        have cB : wr.cell? ⟨w.heap.size, 2, none⟩ = some (.slice v.lat.A v.lat.n v.lat.c) := (q1.below hX.bel hlt1).cell 2
        by_cases hlt : k < v.lat.n
        · have hltI : (k : Int) < v.lat.n := by omega
          obtain ⟨xs, hn⟩ := hX.n
          have hb := hX.bel
          have hX := hide hX
          obtain ⟨U, cU, rfl⟩ := own_slice hn
          obtain ⟨ad, x, hA, hB, hx, c0, _, _⟩ := hi1.lat.get hlt
          have hxg := hgc.out.latl hx
          clear hx
          obtain ⟨y, hy⟩ : ∃ y, x.a = y := ⟨_, rfl⟩
          rw [hy] at c0 hxg
          obtain ⟨hx0, hx1⟩ := hxg
          have hx1 := hgm.out _ hx1
          obtain ⟨h, hh⟩ := Int.eq_ofNat_of_zero_le (show 0 ≤ y / 2 by omega)
          have hhM : h < M + 1 := by omega
          have hhI : (h : Int) < M + 1 := by omega
          have h63 := hide (show v.ins.n + k + 1 ≤ maxLen by unfold maxLen; omega)
          have hby := hide (show (v.ins.n + k + 1) * 16 ≤ 140737488355328 by omega)
          have hAB := hide hB
          have hAA := hide hA
          go_wp2_with (at_builtin; refine wpList_pushG rfl _ _ _ rfl Tryd.underlying49 info_n rfl (by decide) rfl (by first | rfl | simp [go_sem]) hn hb (Nat.le_refl _) rfl (by simp [Value.oneCell']) h63.out hby.out ?_; intro v6 w6 hown6 hb6 hgr6; have hP := hide (hX.out.pushN hown6 hb6 hgr6); obtain ⟨U6, cU6, rfl⟩ := own_slice hown6; have cB6 : w6.cell? ⟨w.heap.size, 2, none⟩ = some (.slice v.lat.A v.lat.n v.lat.c) := (q1.below hb6 hlt1).cell 2; rw [hAA.out] at cB6; have c06 := (hb6.cell (p := ad.add (k * 3)) (by rw [add_block]; exact hAB.out)).trans c0; obtain ⟨hS, ⟨z, hz⟩, hfz⟩ := hP.out.setA h hhM (2 * ((((v.ins.n + k : Nat) : Int)) + 1)); have hS := hide hS; clear hgr6 hb6 hown6)
          go_roundw
          case rel => exact ⟨k + 1, hlt, by go_num, hS.out⟩
          case measure => simp [intOf]; omega
        have hkn : k = v.lat.n := by omega
        have hkn' : ¬ (k : Int) < v.lat.n := by omega
        obtain ⟨wo3, hwo⟩ : ∃ wo3, wo3 = wr := ⟨_, rfl⟩
        subst hwo
        rw [hkn] at hX
        have hX0 := hide hX
        have hga : ga < wo3.heap.size := by
          obtain ⟨ys, ha⟩ := hX.a
          rcases own_cases ha with ⟨h4, _⟩ | ⟨g', c', h4, _, h5, _⟩
          · cases h4
          · injection h4 with h4 _ _; injection h4 with h4; injection h4 with h4 _ _; subst h4; exact h5
        have q3 := q1.below hX.bel hlt1
        have s0 : wo3.cell? ⟨w.heap.size, 0, none⟩ = some (.int .i64 (M : Int)) := q3.cell 0
        have s1 : wo3.cell? ⟨w.heap.size, 1, none⟩ = some (.slice v.ins.A v.ins.n v.ins.c) := q3.cell 1
        have s2 : wo3.cell? ⟨w.heap.size, 2, none⟩ = some (.slice v.lat.A v.lat.n v.lat.c) := q3.cell 2
        have s3 : wo3.cell? ⟨w.heap.size, 3, none⟩ = some (.slice v.outs.A v.outs.n v.outs.c) := q3.cell 3
        have s4 : wo3.cell? ⟨w.heap.size, 4, none⟩ = some (.slice v.bads.A v.bads.n v.bads.c) := q3.cell 4
        have s5 : wo3.cell? ⟨w.heap.size, 5, none⟩ = some (.slice v.cons.A v.cons.n v.cons.c) := q3.cell 5
        have s6 : wo3.cell? ⟨w.heap.size, 6, none⟩ = some (.slice v.gat.A v.gat.n v.gat.c) := q3.cell 6
        have s7 : wo3.cell? ⟨w.heap.size, 7, none⟩ = some (.slice v.sym.A v.sym.n v.sym.c) := q3.cell 7
        have s8 : wo3.cell? ⟨w.heap.size, 8, none⟩ = some (.string v.com) := q3.cell 8
        have hO := hide (ref_Order v c wo3 (by omega) (goodC_rng hmx.out hgc.out) (hi1.below hX.bel (Nat.le_refl _)))
        rw [hM2.out] at hO
        clear hX
        go_wp2_with fail
        refine hO.out.mono ?_
        rintro e w4 ⟨A4, n4, k4, xs4, rfl, hn4, hR4, hrng, hb4⟩
        have hX0 := hide (hX0.out.step hb4)
        have hR4 := hide hR4
        have hrng := hide hrng
        have hn4I : (n4 : Int) ≤ 30 := by omega
        clear hb4 q3 hO s0 s1 s2 s3 s4 s5 s6 s7 s8
        go_wp2
        go_loopw [4, 10] (fun n i wr => ∃ k : Nat, k ≤ n4 ∧ i = .int .i64 k ∧ Nx W1 (v.ins.n + v.lat.n + k) n (M + 1) (.slice (some ⟨ga, 0, none⟩) (M + 1) da) wr ∧ wr.ownsRow wo3.heap.size 3 1 (.slice A4 n4 k4) n4 (ivs xs4)) (fun _ i _ => n4 - (intOf i).toNat)
        case atStart => exact ⟨0, Nat.zero_le _, rfl, hX0.out, hR4.out⟩
        case round =>
          obtain ⟨k, hk, rfl, hX, hO4⟩ := hrel
          have hkI : (k : Int) ≤ 30 := by omega
          obtain ⟨xs, hn⟩ := hX.n
          have hb := hX.bel
          have hX := hide hX
          obtain ⟨U, cU, rfl⟩ := own_slice hn
          by_cases hlt : k < n4
          case neg =>
            have hkn : k = n4 := by omega
            have hkn' : ¬ (k : Int) < n4 := by omega
            have hbF := hide (hb1.out.trans (hb.mono hb1.out.size))
            go_wp2
            go_ret2
            exact ⟨_, _, _, _, _, _, rfl, hbF.out⟩
          have hltI : (k : Int) < n4 := by omega
          have hne4 : (Value.slice A4 n4 k4).ownBlock ≠ some ga := by
            rcases own_cases hO4 with ⟨h1, h2⟩ | ⟨g', c', h1, h2, _⟩
            · rw [h1]; simp [Value.ownBlock]
            · rw [h1]; simp [Value.ownBlock]; omega
          have hrd4 : Rd wr A4 n4 (ivs xs4) := by
            obtain ⟨A', c', hv, _, _, hr⟩ := Rd.of_own hO4
            injection hv with e1 e2 e3
            rw [e1]; exact hr
          have hO4 := hide hO4
          have hne4 := hide hne4
          obtain ⟨ad4, p, rfl, hB4, hp, c4⟩ := hrd4.get hlt
          clear hrd4
          obtain ⟨hp0, hp1⟩ := hrng.out p (List.mem_of_getElem? hp)
          clear hp
          obtain ⟨p, rfl⟩ := Int.eq_ofNat_of_zero_le hp0
          have hpn : p < v.gat.n := by omega
          obtain ⟨ad, x, hA, hB, hx, c0, c1, c2⟩ := (hi1.gat.below hb (Nat.le_refl _)).get hpn
          have hxg := hgc.out.gatl hx
          have hxu := hgc.out.gatu hx
          clear hx
          obtain ⟨xa, xb, xc⟩ := x
          simp only at c0 c1 c2 hxg hxu
          obtain ⟨ha0, ha1⟩ := hxg
          have ha1 := hgm.out _ ha1
          obtain ⟨⟨hb0, hb1'⟩, hc0, hc1⟩ := hxu
          have hb1' := hgm1.out _ hb1'
          have hc1 := hgm1.out _ hc1
          have s6 : wr.cell? ⟨w.heap.size, 6, none⟩ = some (.slice v.gat.A v.gat.n v.gat.c) := (q1.below hb hlt1).cell 6
          rw [hA] at s6
          obtain ⟨h, hh⟩ := Int.eq_ofNat_of_zero_le (show 0 ≤ xa / 2 by omega)
          have hhM : h < M + 1 := by omega
          have hhI : (h : Int) < M + 1 := by omega
          have h63 := hide (show v.ins.n + v.lat.n + k + 1 ≤ maxLen by unfold maxLen; omega)
          have hby := hide (show (v.ins.n + v.lat.n + k + 1) * 16 ≤ 140737488355328 by omega)
          go_wp2
          refine wp_region_held_drew (S := fun W' => W'.cell? ⟨w.heap.size, 6, none⟩ = some (.slice (some ad) v.gat.n v.gat.c) ∧ W'.cell? (ad4.add k) = some (.int .i64 p) ∧ W'.cell? (ad.add (p * 3)) = some (.int .i64 xa) ∧ W'.cell? ⟨(ad.add (p * 3)).block, (ad.add (p * 3)).off + 1, none⟩ = some (.int .i64 xb) ∧ W'.cell? ⟨(ad.add (p * 3)).block, (ad.add (p * 3)).off + 2, none⟩ = some (.int .i64 xc)) (by kernel_rfl) ⟨s6, c4, c0, c1, c2⟩ (fun hHeld => ?_)
          refine wpAnyH_take (i := 0) (v := ?_) rfl (by kernel_rfl) (by kernel_rfl) (by kernel_rfl) (fun _ _ _ h => h) (Or.inl ⟨by kernel_rfl, ?_⟩) (by assumption) ?_
          rotate_left
          · intro wz hSw; (try dsimp only at hSw); go_simp; (try with_reducible rfl)
          try simp only [Act.put, List.getElem_toArray, List.getElem_cons_succ, List.getElem_cons_zero, List.setIfInBounds_toArray, List.set_cons_zero, List.set_cons_succ]
          refine wpAnyH_take (i := 1) (v := ?_) rfl (by kernel_rfl) (by kernel_rfl) (by kernel_rfl) (fun _ _ _ h => h) (Or.inl ⟨by kernel_rfl, ?_⟩) (by assumption) ?_
          rotate_left
          · intro wz hSw; (try dsimp only at hSw); go_simp; (try with_reducible rfl)
          try simp only [Act.put, List.getElem_toArray, List.getElem_cons_succ, List.getElem_cons_zero, List.setIfInBounds_toArray, List.set_cons_zero, List.set_cons_succ]
          refine wpAnyH_take (i := 2) (v := ?_) rfl (by kernel_rfl) (by kernel_rfl) (by kernel_rfl) (fun _ _ _ h => h) (Or.inl ⟨by kernel_rfl, ?_⟩) (by assumption) ?_
          rotate_left
          · intro wz hSw; (try dsimp only at hSw); go_simp; (try with_reducible rfl)
          try simp only [Act.put, List.getElem_toArray, List.getElem_cons_succ, List.getElem_cons_zero, List.setIfInBounds_toArray, List.set_cons_zero, List.set_cons_succ]
          refine wpAnyH_take (i := 3) (v := ?_) rfl (by kernel_rfl) (by kernel_rfl) (by kernel_rfl) (fun _ _ _ h => h) (Or.inl ⟨by kernel_rfl, ?_⟩) (by assumption) ?_
          rotate_left
          · intro wz hSw; (try dsimp only at hSw); go_simp; (try with_reducible rfl)
          try simp only [Act.put, List.getElem_toArray, List.getElem_cons_succ, List.getElem_cons_zero, List.setIfInBounds_toArray, List.set_cons_zero, List.set_cons_succ]
          refine wpAnyH_take (i := 4) (v := ?_) rfl (by kernel_rfl) (by kernel_rfl) (by kernel_rfl) (fun _ _ _ h => h) (Or.inl ⟨by kernel_rfl, ?_⟩) (by assumption) ?_
          rotate_left
          · intro wz hSw; (try dsimp only at hSw); go_simp; (try with_reducible rfl)
          try simp only [Act.put, List.getElem_toArray, List.getElem_cons_succ, List.getElem_cons_zero, List.setIfInBounds_toArray, List.set_cons_zero, List.set_cons_succ]
          refine wpAnyH_take (i := 5) (v := ?_) rfl (by kernel_rfl) (by kernel_rfl) (by kernel_rfl) (fun _ _ _ h => h) (Or.inl ⟨by kernel_rfl, ?_⟩) (by assumption) ?_
          rotate_left
          · intro wz hSw; (try dsimp only at hSw); go_simp; (try with_reducible rfl)
          try simp only [Act.put, List.getElem_toArray, List.getElem_cons_succ, List.getElem_cons_zero, List.setIfInBounds_toArray, List.set_cons_zero, List.set_cons_succ]
          refine wpAnyH_take (i := 6) (v := ?_) rfl (by kernel_rfl) (by kernel_rfl) (by kernel_rfl) (fun _ _ _ h => h) (Or.inl ⟨by kernel_rfl, ?_⟩) (by assumption) ?_
          rotate_left
          · intro wz hSw; (try dsimp only at hSw); go_simp; (try with_reducible rfl)
          try simp only [Act.put, List.getElem_toArray, List.getElem_cons_succ, List.getElem_cons_zero, List.setIfInBounds_toArray, List.set_cons_zero, List.set_cons_succ]
          refine wpAnyH_take (i := 7) (v := ?_) rfl (by kernel_rfl) (by kernel_rfl) (by kernel_rfl) (fun _ _ _ h => h) (Or.inl ⟨by kernel_rfl, ?_⟩) (by assumption) ?_
          rotate_left
          · intro wz hSw; (try dsimp only at hSw); go_simp; (try with_reducible rfl)
          try simp only [Act.put, List.getElem_toArray, List.getElem_cons_succ, List.getElem_cons_zero, List.setIfInBounds_toArray, List.set_cons_zero, List.set_cons_succ]
          refine wpAnyH_ready (rs := [8]) (by kernel_rfl) (by simp) ?_
          refine AllReadyH.cons rfl (fun K hK => ?_) AllReadyH.nil
          go_simp
          have hbz : Below wr.heap.size wr (wr.alloc (.cells #[.int .i64 0, .int .i64 0, .int .i64 0] 149)).drew := ((Below.refl _ _).alloc (Nat.le_refl _) _).trans (Dr.below (Dr.refl _).drew _)
          have t6 := keepCell hbz s6
          have t4 := keepCell hbz c4
          have t0 := keepCell hbz c0
          have t1 := keepCell hbz c1
          have t2 := keepCell hbz c2
          have hXz := hide (hX.out.step hbz)
          have qz : Blk (wr.alloc (.cells #[.int .i64 0, .int .i64 0, .int .i64 0] 149)).drew wr.heap.size 149 #[.int .i64 0, .int .i64 0, .int .i64 0] := Blk.new wr _ _
          refine hK.out _ _ ⟨t6, t4, t0, t1, t2⟩ (fun hHeld => ?_)
          clear hK K
          try simp only [Act.put, List.getElem_toArray, List.getElem_cons_succ, List.getElem_cons_zero, List.setIfInBounds_toArray, List.set_cons_zero, List.set_cons_succ]
          refine wpAnyH_ready (rs := [9]) (by kernel_rfl) (by simp) ?_
          refine AllReadyH.cons rfl (fun K hK => ?_) AllReadyH.nil
          have z0 := qz.cell 0
          have z1 := qz.cell 1
          have z2 := qz.cell 2
          have y0 := qz.frozen 0
          have y1 := qz.frozen 1
          have y2 := qz.frozen 2
          go_simp
          have hbb : Below wr.heap.size wr (wr.alloc (.cells #[.int .i64 xa, .int .i64 xb, .int .i64 xc] 149)).drew := ((Below.refl _ _).alloc (Nat.le_refl _) _).trans (Dr.below (Dr.refl _).drew _)
          have r6 := keepCell hbb s6
          have r4 := keepCell hbb c4
          have r0 := keepCell hbb c0
          have r1 := keepCell hbb c1
          have r2 := keepCell hbb c2
          have hXb := hide (hX.out.step hbb)
          have qb := hide (show Blk (wr.alloc (.cells #[.int .i64 xa, .int .i64 xb, .int .i64 xc] 149)).drew wr.heap.size 149 #[.int .i64 xa, .int .i64 xb, .int .i64 xc] from Blk.new wr _ _)
          have hO5 := hide (own_keep hO4.out hbb)
          refine hK.out _ _ ⟨r6, r4, r0, r1, r2⟩ (fun hHeld => ?_)
          clear hK K
          try simp only [Act.put, List.getElem_toArray, List.getElem_cons_succ, List.getElem_cons_zero, List.setIfInBounds_toArray, List.set_cons_zero, List.set_cons_succ]
          refine wpAnyH_done (by kernel_rfl) ?_ _
          clear hHeld s6 c4 c0 c1 c2 t6 t4 t0 t1 t2 qz hbz hXz r6 r4 r0 r1 r2 hbb z0 z1 z2 y0 y1 y2
          generalize (wr.alloc (.cells #[.int .i64 xa, .int .i64 xb, .int .i64 xc] 149)).drew = Wb at *
          have b1 : Wb.cell? ⟨wr.heap.size, 1, none⟩ = some (.int .i64 xb) := qb.out.cell 1
          have b2 : Wb.cell? ⟨wr.heap.size, 2, none⟩ = some (.int .i64 xc) := qb.out.cell 2
          go_wp2
          refine wp_region_held_drew (S := fun W' => W'.cell? ⟨wr.heap.size, 1, none⟩ = some (.int .i64 xb) ∧ W'.cell? ⟨wr.heap.size, 2, none⟩ = some (.int .i64 xc)) (by kernel_rfl) ⟨b1, b2⟩ (fun hHeld => ?_)
          refine wpAnyH_take (i := 0) (v := ?_) rfl (by kernel_rfl) (by kernel_rfl) (by kernel_rfl) (fun _ _ _ h => h) (Or.inl ⟨by kernel_rfl, ?_⟩) (by assumption) ?_
          rotate_left
          · intro wz hSw; (try dsimp only at hSw); go_simp; (try with_reducible rfl)
          try simp only [Act.put, List.getElem_toArray, List.getElem_cons_succ, List.getElem_cons_zero, List.setIfInBounds_toArray, List.set_cons_zero, List.set_cons_succ]
          refine wpAnyH_take (i := 1) (v := ?_) rfl (by kernel_rfl) (by kernel_rfl) (by kernel_rfl) (fun _ _ _ h => h) (Or.inl ⟨by kernel_rfl, ?_⟩) (by assumption) ?_
          rotate_left
          · intro wz hSw; (try dsimp only at hSw); go_simp; (try with_reducible rfl)
          try simp only [Act.put, List.getElem_toArray, List.getElem_cons_succ, List.getElem_cons_zero, List.setIfInBounds_toArray, List.set_cons_zero, List.set_cons_succ]
          refine wpAnyH_take (i := 2) (v := ?_) rfl (by kernel_rfl) (by kernel_rfl) (by kernel_rfl) (fun _ _ _ h => h) (Or.inl ⟨by kernel_rfl, ?_⟩) (by assumption) ?_
          rotate_left
          · intro wz hSw; (try dsimp only at hSw); go_simp; (try with_reducible rfl)
          try simp only [Act.put, List.getElem_toArray, List.getElem_cons_succ, List.getElem_cons_zero, List.setIfInBounds_toArray, List.set_cons_zero, List.set_cons_succ]
          refine wpAnyH_take (i := 3) (v := ?_) rfl (by kernel_rfl) (by kernel_rfl) (by kernel_rfl) (fun _ _ _ h => h) (Or.inl ⟨by kernel_rfl, ?_⟩) (by assumption) ?_
          rotate_left
          · intro wz hSw; (try dsimp only at hSw); go_simp; (try with_reducible rfl)
          try simp only [Act.put, List.getElem_toArray, List.getElem_cons_succ, List.getElem_cons_zero, List.setIfInBounds_toArray, List.set_cons_zero, List.set_cons_succ]
          refine wpAnyH_take (i := 5) (v := ?_) rfl (by kernel_rfl) (by kernel_rfl) (by kernel_rfl) (fun _ _ _ h => h) (Or.inl ⟨by kernel_rfl, ?_⟩) (by assumption) ?_
          rotate_left
          · intro wz hSw; (try dsimp only at hSw); go_simp; (try with_reducible rfl)
          try simp only [Act.put, List.getElem_toArray, List.getElem_cons_succ, List.getElem_cons_zero, List.setIfInBounds_toArray, List.set_cons_zero, List.set_cons_succ]
          refine wpAnyH_take (i := 6) (v := ?_) rfl (by kernel_rfl) (by kernel_rfl) (by kernel_rfl) (fun _ _ _ h => h) (Or.inl ⟨by kernel_rfl, ?_⟩) (by assumption) ?_
          rotate_left
          · intro wz hSw; (try dsimp only at hSw); go_simp; (try with_reducible rfl)
          try simp only [Act.put, List.getElem_toArray, List.getElem_cons_succ, List.getElem_cons_zero, List.setIfInBounds_toArray, List.set_cons_zero, List.set_cons_succ]
          refine wpAnyH_take (i := 7) (v := ?_) rfl (by kernel_rfl) (by kernel_rfl) (by kernel_rfl) (fun _ _ _ h => h) (Or.inl ⟨by kernel_rfl, ?_⟩) (by assumption) ?_
          rotate_left
          · intro wz hSw; (try dsimp only at hSw); go_simp; (try with_reducible rfl)
          try simp only [Act.put, List.getElem_toArray, List.getElem_cons_succ, List.getElem_cons_zero, List.setIfInBounds_toArray, List.set_cons_zero, List.set_cons_succ]
          obtain ⟨ys, hys⟩ := hXb.out.rd
          refine wpAnyH_ready (rs := [4]) (by kernel_rfl) (by simp) ?_
          refine AllReadyH.cons rfl (fun K hK => ?_) AllReadyH.nil
          go_simp
          go_wp2_with (go_at_call 129; refine (ref_lit (some ⟨ga, 0, none⟩) (M + 1) da ys xb Wb.drew (by omega) (by omega) (by omega) (Dr.rd (Dr.refl Wb).drew hys)).mono ?_; rintro e w8 ⟨r1, rfl, hd8⟩)
          have hd8 := hide ((Dr.refl Wb).drew.trans hd8)
          refine hK.out _ _ ⟨(hd8.out.cell _).trans b1, (hd8.out.cell _).trans b2⟩ (fun hHeld => ?_)
          clear hK K
          try simp only [Act.put, List.getElem_toArray, List.getElem_cons_succ, List.getElem_cons_zero, List.setIfInBounds_toArray, List.set_cons_zero, List.set_cons_succ]
          refine wpAnyH_ready (rs := [8]) (by kernel_rfl) (by simp) ?_
          refine AllReadyH.cons rfl (fun K hK => ?_) AllReadyH.nil
          go_simp
          go_wp2_with (go_at_call 129; refine (ref_lit (some ⟨ga, 0, none⟩) (M + 1) da ys xc _ (by omega) (by omega) (by omega) (Dr.rd hd8.out hys)).mono ?_; rintro e w9 ⟨r2, rfl, hd9⟩)
          have hd9 := hide (hd8.out.trans hd9)
          refine hK.out _ _ ⟨(hd9.out.cell _).trans b1, (hd9.out.cell _).trans b2⟩ (fun hHeld => ?_)
          clear hK K
          try simp only [Act.put, List.getElem_toArray, List.getElem_cons_succ, List.getElem_cons_zero, List.setIfInBounds_toArray, List.set_cons_zero, List.set_cons_succ]
          refine wpAnyH_take (i := 9) (v := ?_) rfl (by kernel_rfl) (by kernel_rfl) (by kernel_rfl) (fun _ _ _ h => h) (Or.inl ⟨by kernel_rfl, ?_⟩) (by assumption) ?_
          rotate_left
          · intro wz hSw; (try dsimp only at hSw); go_simp; (try with_reducible rfl)
          try simp only [Act.put, List.getElem_toArray, List.getElem_cons_succ, List.getElem_cons_zero, List.setIfInBounds_toArray, List.set_cons_zero, List.set_cons_succ]
          have hX9 := hide (hXb.out.step (hd9.out.below _))
          have q9 := hide (qb.out.dr hd9.out)
          have hO9 := hide (Dr.own hd9.out hO5.out)
          clear b1 b2 hd8 hXb
          refine wpAnyH_ready (rs := [10]) (by kernel_rfl) (by simp) ?_
          refine AllReadyH.cons rfl (fun K hK => ?_) AllReadyH.nil
          go_simp
          have hbm : Below w9.heap.size w9 (w9.alloc (.cells #[.int .i64 r1, .int .i64 r2] 111)) := (Below.refl _ _).alloc (Nat.le_refl _) _
          have m1 := keepCell hbm (q9.out.cell 1)
          have m2 := keepCell hbm (q9.out.cell 2)
          have hX10 := hX9.out.step hbm
          obtain ⟨xs9, hn9⟩ := hX10.n
          have hb10 := hX10.bel
          refine hK.out _ _ ⟨m1, m2⟩ (fun hHeld => ?_)
          clear hK K
          try simp only [Act.put, List.getElem_toArray, List.getElem_cons_succ, List.getElem_cons_zero, List.setIfInBounds_toArray, List.set_cons_zero, List.set_cons_succ]
          refine wpAnyH_ready (rs := [11]) (by kernel_rfl) (by simp) ?_
          refine AllReadyH.cons rfl (fun K hK => ?_) AllReadyH.nil
          refine step_append_rdS rfl (.tmp 84) (.tmp 94) 49 rfl Tryd.underlying49 info_n rfl (by decide) rfl rfl hn9 hb10.size (lit1_rdS2 w9 _ _ _) (by intro u hu; simp at hu; rcases hu with rfl | rfl <;> rfl) h63.out hby.out ?_
          intro v11 w11 hown11 hgr11
          have hb11 := hb10.grown hgr11 hb10.size (fun i hi => (hn9.lt i hi).1)
          have hX11 := hide (hX9.out.pushN hown11 hb11 hgr11)
          have hlow : some wr.heap.size ≠ (Value.slice U (v.ins.n + v.lat.n + k) cU).ownBlock := own_blk_ne hn9 (q9.out.alloc (.cells #[.int .i64 r1, .int .i64 r2] 111)) (by decide)
          have q11 := (q9.out.alloc (.cells #[.int .i64 r1, .int .i64 r2] 111)).grown hgr11 hlow
          have hO10 := own_keep hO9.out hbm
          have hO11 := hide (hO10.kept hgr11 (own_own_ne hO10 hn9 (by decide)))
          refine hK.out _ _ ⟨q11.cell 1, q11.cell 2⟩ (fun hHeld => ?_)
          clear hK K
          try simp only [Act.put, List.getElem_toArray, List.getElem_cons_succ, List.getElem_cons_zero, List.setIfInBounds_toArray, List.set_cons_zero, List.set_cons_succ]
          refine wpAnyH_take (i := 12) (v := ?_) rfl (by kernel_rfl) (by kernel_rfl) (by kernel_rfl) (fun _ _ _ h => h) (Or.inl ⟨by kernel_rfl, ?_⟩) (by assumption) ?_
          rotate_left
          · intro wz hSw; (try dsimp only at hSw); go_simp; (try with_reducible rfl)
          try simp only [Act.put, List.getElem_toArray, List.getElem_cons_succ, List.getElem_cons_zero, List.setIfInBounds_toArray, List.set_cons_zero, List.set_cons_succ]
          refine wpAnyH_done (by kernel_rfl) ?_ _
          obtain ⟨U11, c11, rfl⟩ := own_slice hown11
          have b0 : w11.cell? ⟨wr.heap.size, 0, none⟩ = some (.int .i64 xa) := q11.cell 0
          obtain ⟨hS, ⟨z, hz⟩, hfz⟩ := hX11.out.setA h hhM (2 * ((((v.ins.n + v.lat.n + k) : Nat) : Int) + 1))
          have hS := hide hS
          have hOS := hide (ownsRow_setCell_other (a := ⟨ga, h, none⟩) hO11.out hne4.out (.int .i64 (2 * ((((v.ins.n + v.lat.n + k) : Nat) : Int) + 1))))
          clear hHeld hown11 hgr11 hb11 hlow q11 hn9 hb10 hX10 hX11 hbm m1 m2 hX9 q9 hO9 hO10 hO11
          go_wp2
          go_roundw
          case rel => rw [hA]; exact ⟨_, _, _, _, _, _, _, _, _, _, _, _, _, _, _, _, _, _, _, _, _, _, _, _, _, _, _, _, _, _, _, _, _, _, _, _, _, ⟨k + 1, hlt, by go_num, hS.out, hOS.out⟩, rfl⟩
          case measure => simp [intOf]; omega
def NewIs (v : Cv) (w : World) (e : Ending) (w' : World) : Prop := ∃ g, e = .returned (.pointer (some ⟨g, 0, none⟩)) ∧ Below w.heap.size w w' ∧ w'.cell? ⟨g, 2, none⟩ = some (.slice v.lat.A v.lat.n v.lat.c) ∧ g < w'.heap.size
set_option maxHeartbeats 2000000 in
theorem ref_New (v : Cv) (c : Ci) (w : World) (hf : FewOk 30 v) (hmax : c.max ≤ 300) (hgc : GoodC c) (hi : CiIs w v c) :
    Calls Tryd.prog 20 #[.agg (cells9 c.max v)] w (NewIs v w) := by
  have hb1 := (Below.refl w.heap.size w).alloc (Nat.le_refl _) (.cells (cells9 c.max v) 27)
  have q1 := Blk.new w 27 (cells9 c.max v)
  have hi1 := hi.below hb1 (Nat.le_refl _)
  obtain ⟨W1, hW1⟩ : ∃ W1, w.alloc (.cells (cells9 c.max v) 27) = W1 := ⟨_, rfl⟩
  rw [hW1] at hb1 q1 hi1
  have hlt1 : w.heap.size < W1.heap.size := q1.lt
  have hb1 := hide hb1
  have s0 : W1.cell? ⟨w.heap.size, 0, none⟩ = some (.int .i64 c.max) := q1.cell 0
  have s1 : W1.cell? ⟨w.heap.size, 1, none⟩ = some (.slice v.ins.A v.ins.n v.ins.c) := q1.cell 1
  have s2 : W1.cell? ⟨w.heap.size, 2, none⟩ = some (.slice v.lat.A v.lat.n v.lat.c) := q1.cell 2
  have s3 : W1.cell? ⟨w.heap.size, 3, none⟩ = some (.slice v.outs.A v.outs.n v.outs.c) := q1.cell 3
  have s4 : W1.cell? ⟨w.heap.size, 4, none⟩ = some (.slice v.bads.A v.bads.n v.bads.c) := q1.cell 4
  have s5 : W1.cell? ⟨w.heap.size, 5, none⟩ = some (.slice v.cons.A v.cons.n v.cons.c) := q1.cell 5
  have s6 : W1.cell? ⟨w.heap.size, 6, none⟩ = some (.slice v.gat.A v.gat.n v.gat.c) := q1.cell 6
  have s7 : W1.cell? ⟨w.heap.size, 7, none⟩ = some (.slice v.sym.A v.sym.n v.sym.c) := q1.cell 7
  have s8 : W1.cell? ⟨w.heap.size, 8, none⟩ = some (.string v.com) := q1.cell 8
  have HN := hide (ref_Net v c W1 hf hmax hgc hi1)
  clear hf hmax hgc hi
  go_enter Tryd.func20, Tryd.ntmps20
  go_wp2_with fail
  refine HN.out.mono ?_
  rintro e w2 ⟨A, n, k, B, m, d, rfl, hb2⟩
  have s0' := keepCell hb2 s0
  have s1' := keepCell hb2 s1
  have s2' := keepCell hb2 s2
  have s3' := keepCell hb2 s3
  have s4' := keepCell hb2 s4
  have s5' := keepCell hb2 s5
  have s6' := keepCell hb2 s6
  have s7' := keepCell hb2 s7
  have s8' := keepCell hb2 s8
  have hb2 := hide (hb1.out.trans (hb2.mono hb1.out.size))
  clear s0 s1 s2 s3 s4 s5 s6 s7 s8
  go_wp2
  go_ret
  exact ⟨_, rfl, hb2.out.alloc hb2.out.size _, by rw [World.cell?_alloc_new]; rfl, by simp⟩
end Go.Proofs.YtcjoohaagdihlaaDoor.Circ
