/- The law on nets with a fault. -/
import Derived.Test.YtcjoohaagdihlaaDoorFaultInjP2
import Derived.Test.YtcjoohaagdihlaaDoorFaultLists1
import Derived.Deep.RegionHeldLaw
import Derived.Maps.AppendAt
namespace Go.Proofs.YtcjoohaagdihlaaDoor.Fault
open Go.RowKit Go.Lt Go.Proofs.YtcjoohaagdihlaaDoor.Lit Go.Proofs.YtcjoohaagdihlaaDoor.Dec Go.Instr
set_option linter.unusedVariables false
set_option linter.unusedSimpArgs false

theorem ints_yes {A B : Option Addr} {n m c d : Nat} {a : List Int} (w : World) (hn : n ≤ 1000000) (hra : Rd w A n (ivs a)) (hrb : Rd w B m (ivs a)) :
    Calls Tryd.prog 26 #[.slice A n c, .slice B m d] w fun e w' => e = .returned (.bool true) ∧ Dr w w' :=
  (ref_Ints A B n m c d a a w hn hra hrb).mono fun e w' ⟨h1, h2⟩ => ⟨by rw [h1]; unfold sameI; rw [decide_eq_true rfl], h2⟩
theorem check_zero (A : Option Addr) (n c : Nat) (l : List Nd) (w : World) (hn : n ≤ 1000) (hr : RdN w A n l) (hg : GoodNet l) :
    Calls Tryd.prog 42 #[.slice A n c] w fun e w' => e = .returned (.int .i64 0) ∧ Dr w w' :=
  (ref_Check A n c l w hn hr).mono fun e w' ⟨r, h1, h2, h3⟩ => ⟨by rw [h1, h3.2 hg], h2⟩

section
variable {P : Program} {w : World} {base e bytes n m c size : Nat} {z v : Value} {A : Option Addr} {xs news : List Value}
theorem run_append_rdS (t ty : TypeId) (ht : P.underlying t = some (.slice e)) (hi : (P.info? e).map (fun i => (i.zero, i.size, i.bytes)) = some (some z, size, bytes)) (hzs : z.cells.size = size) (hsz : 0 < size)
    (hown : w.ownsRow base e size v n xs) (hbase : base ≤ w.heap.size) (hr : RdS w A m size news) (h1 : ∀ u ∈ news, u.oneCell' = true) (h63 : n + m ≤ maxLen) (hby : (n + m) * bytes ≤ 140737488355328) :
    ∃ v' w', (Builtin.append_ #[t, t] ty #[v, .slice A m c]).run P w = .ok v' w' ∧ w'.ownsRow base e size v' (n + m) (xs ++ news) ∧ w.grownBy w' v.ownBlock := by
  obtain ⟨i, hi0, hz, hs1, hs2⟩ := info_parts hi
  have hsome : (∃ ad, A = some ad ∧ ∀ k u, news[k]? = some u → w.cell? (ad.add k) = some u) ∨ (A = none ∧ m = 0) := by
    rcases hr.2 with hm | ⟨ad, h3, _, h5⟩
    · rcases A with _ | ad
      · exact .inr ⟨rfl, hm⟩
      · refine .inl ⟨ad, rfl, fun k u hk => ?_⟩
        have : news = [] := List.eq_nil_of_length_eq_zero (by rw [hr.1, hm]; simp)
        rw [this] at hk; cases hk
    · exact .inl ⟨ad, h3, h5⟩
  rcases hsome with ⟨ad, rfl, hcell⟩ | ⟨rfl, rfl⟩
  · obtain ⟨v', w', hrun, h2, h3, _, _⟩ := run_append_own_at (P := P) w base t ty e i z size bytes ht hi0 hz hs1 hs2 hzs hsz v n xs hown ad m c news hr.1 hcell h1 h63 hby hbase
    exact ⟨v', w', hrun, h2, h3⟩
  · have hn : news = [] := List.eq_nil_of_length_eq_zero (by rw [hr.1]; simp)
    subst hn
    refine ⟨v, w, ?_, by simpa using hown, World.grownBy.refl _ _⟩
    rcases hown.2 with ⟨rfl, rfl⟩ | ⟨g, cap, cur, rfl, _, _, hnc, _⟩
    · simp [Builtin.append_, run_underlying ht, sizeOf, typeInfo, hi0, Builtin.lenOf, Builtin.firstCells]
    · simp [Builtin.append_, run_underlying ht, sizeOf, typeInfo, hi0, Builtin.lenOf, Builtin.firstCells, hnc, storeCells]
/-- append of a whole slice, as a step of a region that draws its order -/
theorem step_append_rdS {ops : Array Oper} {o : Oper} {a : Act} {K : Act → World → Prop} {Q : Exit → Act → World → Prop} {E : Prop} (hgd : o.guard = none) (s x : Operand) (t : TypeId)
    (ho : o.op = .call { callee := .builtin .append, args := #[s, x], argTypes := #[t, t] })
    (ht : P.underlying t = some (.slice e)) (hi : (P.info? e).map (fun i => (i.zero, i.size, i.bytes)) = some (some z, size, bytes)) (hzs : z.cells.size = size) (hsz : 0 < size)
    (hs : a.eval s = v) (hx : a.eval x = .slice A m c) (hown : w.ownsRow base e size v n xs) (hbase : base ≤ w.heap.size) (hr : RdS w A m size news) (h1 : ∀ u ∈ news, u.oneCell' = true) (h63 : n + m ≤ maxLen) (hby : (n + m) * bytes ≤ 140737488355328)
    (h : ∀ v' w', w'.ownsRow base e size v' (n + m) (xs ++ news) → w.grownBy w' v.ownBlock → K (a.put o.dst v') w') :
    if Region.wanted o (yielded ops a.tmps) = true then Oper.wp P o a w K Q else E := by
  have hw : Region.wanted o (yielded ops a.tmps) = true := by simp [Region.wanted, hgd]
  rw [if_pos hw]
  obtain ⟨v', w', hrun, h2, h3⟩ := run_append_rdS (c := c) t o.type ht hi hzs hsz hown hbase hr h1 h63 hby
  unfold Oper.wp execOp
  simp only [ho, resolve, invoke, builtin, Sem.run_bind, Sem.run_pure, Result.andThen_ok, List.map_toArray, List.map_cons, List.map_nil, hs, hx, hrun]
  exact h v' w' h2 h3
end
theorem rd_rdS {w : World} {A : Option Addr} {n : Nat} {xs : List Value} (h : Rd w A n xs) : RdS w A n 1 xs := by
  refine ⟨by rw [h.1, Nat.mul_one], ?_⟩
  rcases Nat.eq_zero_or_pos n with h0 | h0
  · exact .inl h0
  · obtain ⟨ad, h1, h2⟩ := h.addr h0
    refine .inr ⟨ad, h1, h2, fun k u hk => ?_⟩
    have hkn : k < n := by have := (List.getElem?_eq_some_iff.1 hk).1; rw [h.1] at this; exact this
    obtain ⟨ad', u', h1', _, h3, h4⟩ := h.2 k hkn
    rw [h1] at h1'
    injection h1' with h1'
    subst h1'
    rw [hk] at h3
    injection h3 with h3
    subst h3
    exact h4
theorem ivs_one2 {l : List Int} : ∀ u ∈ ivs l, u.oneCell' = true := by
  intro u hu
  obtain ⟨x, _, rfl⟩ := List.mem_map.1 hu
  rfl

set_option maxRecDepth 4000 in
set_option maxHeartbeats 8000000 in
theorem injects (A C : Option Addr) (n m c cc : Nat) (l : List Nd) (outs : List Int) (f : Ft) (w : World) (hp : Pows w) (hn0 : n ≤ maxLen) (hm0 : m ≤ maxLen) (hr : RdN w A n l) (hro : Rd w C m (ivs outs)) :
    Calls Tryd.prog 7 #[.slice A n c, .slice C m cc, .agg #[.int .i64 f.v, .int .i64 f.p, .bool f.o]] w fun e w' => e = .returned (.bool true) ∧ Below w.heap.size w w' := by
  have bf := (Below.refl w.heap.size w).alloc (Nat.le_refl _) (.cells #[.int .i64 f.v, .int .i64 f.p, .bool f.o] 54)
  have q0 := Blk.new w 54 #[.int .i64 f.v, .int .i64 f.p, .bool f.o]
  have HS := hide (fun W a b => run_Small A C n m c cc 60 l outs W (by omega) hn0 hm0 a b)
  have hl := hide hr.1
  have hlo := hide hro.len
  clear hn0 hm0
  go_enter Tryd.func7, Tryd.ntmps7
  go_wp2_with fail
  refine (HS.out _ (hr.below bf (Nat.le_refl _)) (hro.below bf (Nat.le_refl _))).mono ?_
  rintro e w1 (⟨rfl, hd⟩ | ⟨rfl, hd, hn, hg, hm, ho⟩)
  · have hb := hide (bf.trans (hd.below _))
    go_wp2_with fail
    refine (lives _ (hp.below hb.out)).mono ?_
    rintro e w2 ⟨rfl, hb2⟩
    have hb2 := hide (hb.out.trans (hb2.mono hb.out.size))
    go_wp2
    go_ret
    exact ⟨rfl, hb2.out⟩
  · clear HS
    have b1 := hide (bf.trans (hd.below _))
    have q1 := hide (q0.dr hd)
    have hN := hide (show n ≤ 1000 by omega)
    have hM := hide (show m ≤ 1000 by omega)
    clear hn hm hd q0 bf
    have cf0 : w1.cell? ⟨w.heap.size, 0, none⟩ = some (.int .i64 f.v) := q1.out.cell 0
    have cf1 : w1.cell? ⟨w.heap.size, 1, none⟩ = some (.int .i64 f.p) := q1.out.cell 1
    have cf2 : w1.cell? ⟨w.heap.size, 2, none⟩ = some (.bool f.o) := q1.out.cell 2
    go_wp2
    have qd : Blk w1.drew w.heap.size 54 #[.int .i64 f.v, .int .i64 f.p, .bool f.o] := q1.out
    have bd : Below w.heap.size w w1.drew := b1.out.trans (Dr.below ⟨1, rfl⟩ _)
    refine wp_region_held_drew (S := fun W' => W'.cell? ⟨w.heap.size, 0, none⟩ = some (.int .i64 f.v) ∧ W'.cell? ⟨w.heap.size, 1, none⟩ = some (.int .i64 f.p) ∧ W'.cell? ⟨w.heap.size, 2, none⟩ = some (.bool f.o)) (by kernel_rfl) ⟨qd.cell 0, qd.cell 1, qd.cell 2⟩ (fun hHeld => ?_)
    refine wpAnyH_take (i := 1) (v := ?_) rfl (by kernel_rfl) (by kernel_rfl) (by kernel_rfl) (fun _ _ _ h => h) (Or.inl ⟨by kernel_rfl, ?_⟩) (by assumption) ?_
    rotate_left
    · intro wz hSw; (try dsimp only at hSw); go_simp; (try with_reducible rfl)
    try simp only [Act.put, List.getElem_toArray, List.getElem_cons_succ, List.getElem_cons_zero, List.setIfInBounds_toArray, List.set_cons_zero, List.set_cons_succ]
    refine wpAnyH_take (i := 4) (v := ?_) rfl (by kernel_rfl) (by kernel_rfl) (by kernel_rfl) (fun _ _ _ h => h) (Or.inl ⟨by kernel_rfl, ?_⟩) (by assumption) ?_
    rotate_left
    · intro wz hSw; (try dsimp only at hSw); go_simp; (try with_reducible rfl)
    try simp only [Act.put, List.getElem_toArray, List.getElem_cons_succ, List.getElem_cons_zero, List.setIfInBounds_toArray, List.set_cons_zero, List.set_cons_succ]
    refine wpAnyH_take (i := 6) (v := ?_) rfl (by kernel_rfl) (by kernel_rfl) (by kernel_rfl) (fun _ _ _ h => h) (Or.inl ⟨by kernel_rfl, ?_⟩) (by assumption) ?_
    rotate_left
    · intro wz hSw; (try dsimp only at hSw); go_simp; (try with_reducible rfl)
    try simp only [Act.put, List.getElem_toArray, List.getElem_cons_succ, List.getElem_cons_zero, List.setIfInBounds_toArray, List.set_cons_zero, List.set_cons_succ]
    refine wpAnyH_ready (rs := [0, 3]) (by kernel_rfl) (by simp) ?_
    refine AllReadyH.cons rfl (fun K hK => ?_) (AllReadyH.cons rfl (fun K hK => ?_) AllReadyH.nil)
    · skip
      have qa := qd.alloc (.cells #[] 111)
      have ba := bd.alloc bd.size (.cells #[] 111)
      have om := made_empty w1.drew w.heap.size 111 2 bd.size
      go_simp
      refine hK.out _ _ ⟨qa.cell 0, qa.cell 1, qa.cell 2⟩ (fun hHeld => ?_)
      clear hK K
      try simp only [Act.put, List.getElem_toArray, List.getElem_cons_succ, List.getElem_cons_zero, List.setIfInBounds_toArray, List.set_cons_zero, List.set_cons_succ]
      refine wpAnyH_ready (rs := [2, 3]) (by kernel_rfl) (by simp) ?_
      refine AllReadyH.cons rfl (fun K hK => ?_) (AllReadyH.cons rfl (fun K hK => ?_) AllReadyH.nil)
      · skip
        refine step_append_rdS rfl (.tmp 17) (.tmp 18) 49 rfl Tryd.underlying49 info_n rfl (by decide) rfl rfl om ba.size ((hr.below ba (Nat.le_refl _)).rdS) encN_one (by unfold maxLen; have := hN.out; have := hM.out; omega) (by have := hN.out; have := hM.out; omega) ?_
        intro v2 w2 hown2 hgr2
        rw [List.nil_append, Nat.zero_add] at hown2
        have q2 := qa.grown hgr2 (own_blk_ne om qa (by decide))
        have b2 := ba.grown hgr2 ba.size (fun k hk => (om.lt k hk).1)
        obtain ⟨V1, c1, rfl, _, _, r1⟩ := RdN.of_own hown2
        refine hK.out _ _ ⟨q2.cell 0, q2.cell 1, q2.cell 2⟩ (fun hHeld => ?_)
        clear hK K
        try simp only [Act.put, List.getElem_toArray, List.getElem_cons_succ, List.getElem_cons_zero, List.setIfInBounds_toArray, List.set_cons_zero, List.set_cons_succ]
        refine wpAnyH_ready (rs := [3]) (by kernel_rfl) (by simp) ?_
        refine AllReadyH.cons rfl (fun K hK => ?_) AllReadyH.nil
        have q3 := q2.alloc (.cells #[] 3)
        have b3 := b2.alloc b2.size (.cells #[] 3)
        have om2 := made_empty w2 w.heap.size 3 1 b2.size
        have hown3 := hown2.alloc (.cells #[] 3)
        go_simp
        refine hK.out _ _ ⟨q3.cell 0, q3.cell 1, q3.cell 2⟩ (fun hHeld => ?_)
        clear hK K
        try simp only [Act.put, List.getElem_toArray, List.getElem_cons_succ, List.getElem_cons_zero, List.setIfInBounds_toArray, List.set_cons_zero, List.set_cons_succ]
        refine wpAnyH_ready (rs := [5]) (by kernel_rfl) (by simp) ?_
        refine AllReadyH.cons rfl (fun K hK => ?_) AllReadyH.nil
        refine step_append_rdS rfl (.tmp 20) (.tmp 21) 22 rfl Tryd.underlying22 info_i3 rfl (by decide) rfl rfl om2 b3.size (rd_rdS (hro.below b3 (Nat.le_refl _))) ivs_one2 (by unfold maxLen; have := hN.out; have := hM.out; omega) (by have := hN.out; have := hM.out; omega) ?_
        intro v5 w5 hown5 hgr5
        rw [List.nil_append, Nat.zero_add] at hown5
        have q5 := hide (q3.grown hgr5 (own_blk_ne om2 q3 (by decide)))
        have b5 := hide (b3.grown hgr5 b3.size (fun k hk => (om2.lt k hk).1))
        have hown4 := hown3.kept hgr5 (own_own_ne hown3 om2 (by decide))
        obtain ⟨V2, c2, rfl, _, _, r2⟩ := Rd.of_own hown5
        have r2 := hide r2
        have r1 : Hid (RdN w5 V1 n l) := by
          obtain ⟨_, _, he, _, _, h⟩ := RdN.of_own hown4
          cases he
          exact h
        refine hK.out _ _ ⟨q5.out.cell 0, q5.out.cell 1, q5.out.cell 2⟩ (fun hHeld => ?_)
        clear hK K
        try simp only [Act.put, List.getElem_toArray, List.getElem_cons_succ, List.getElem_cons_zero, List.setIfInBounds_toArray, List.set_cons_zero, List.set_cons_succ]
        refine wpAnyH_ready (rs := [7]) (by kernel_rfl) (by simp) ?_
        refine AllReadyH.cons rfl (fun K hK => ?_) AllReadyH.nil
        go_simp
        go_wp2_with (go_at_call 39; (refine (fault_Inject V1 V2 n m c1 c2 l outs f _ hN.out hM.out hg.out ho.out r1.out r2.out).mono ?_); rintro e w6 ⟨u1, u2, rfl, hu1, hu2, hb6⟩; obtain ⟨X1, d1, rfl, _, _, hx1⟩ := RdN.of_own hu1; obtain ⟨X2, d2, rfl, _, _, hx2⟩ := Rd.of_own hu2; have q6 := hide (q5.out.below hb6 q5.out.lt); have b6 := hide (b5.out.trans (hb6.mono b5.out.size)); clear hu1 hu2 hb6)
        refine hK.out _ _ ⟨q6.out.cell 0, q6.out.cell 1, q6.out.cell 2⟩ (fun hHeld => ?_)
        clear hK K
        try simp only [Act.put, List.getElem_toArray, List.getElem_cons_succ, List.getElem_cons_zero, List.setIfInBounds_toArray, List.set_cons_zero, List.set_cons_succ]
        refine wpAnyH_take (i := 8) (v := ?_) rfl (by kernel_rfl) (by kernel_rfl) (by kernel_rfl) (fun _ _ _ h => h) (Or.inl ⟨by kernel_rfl, ?_⟩) (by assumption) ?_
        rotate_left
        · intro wz hSw; (try dsimp only at hSw); go_simp; (try with_reducible rfl)
        try simp only [Act.put, List.getElem_toArray, List.getElem_cons_succ, List.getElem_cons_zero, List.setIfInBounds_toArray, List.set_cons_zero, List.set_cons_succ]
        refine wpAnyH_take (i := 9) (v := ?_) rfl (by kernel_rfl) (by kernel_rfl) (by kernel_rfl) (fun _ _ _ h => h) (Or.inl ⟨by kernel_rfl, ?_⟩) (by assumption) ?_
        rotate_left
        · intro wz hSw; (try dsimp only at hSw); go_simp; (try with_reducible rfl)
        try simp only [Act.put, List.getElem_toArray, List.getElem_cons_succ, List.getElem_cons_zero, List.setIfInBounds_toArray, List.set_cons_zero, List.set_cons_succ]
        refine wpAnyH_take (i := 10) (v := ?_) rfl (by kernel_rfl) (by kernel_rfl) (by kernel_rfl) (fun _ _ _ h => h) (Or.inl ⟨by kernel_rfl, ?_⟩) (by assumption) ?_
        rotate_left
        · intro wz hSw; (try dsimp only at hSw); go_simp; (try with_reducible rfl)
        try simp only [Act.put, List.getElem_toArray, List.getElem_cons_succ, List.getElem_cons_zero, List.setIfInBounds_toArray, List.set_cons_zero, List.set_cons_succ]
        refine wpAnyH_take (i := 11) (v := ?_) rfl (by kernel_rfl) (by kernel_rfl) (by kernel_rfl) (fun _ _ _ h => h) (Or.inl ⟨by kernel_rfl, ?_⟩) (by assumption) ?_
        rotate_left
        · intro wz hSw; (try dsimp only at hSw); go_simp; (try with_reducible rfl)
        try simp only [Act.put, List.getElem_toArray, List.getElem_cons_succ, List.getElem_cons_zero, List.setIfInBounds_toArray, List.set_cons_zero, List.set_cons_succ]
        refine wpAnyH_take (i := 12) (v := ?_) rfl (by kernel_rfl) (by kernel_rfl) (by kernel_rfl) (fun _ _ _ h => h) (Or.inl ⟨by kernel_rfl, ?_⟩) (by assumption) ?_
        rotate_left
        · intro wz hSw; (try dsimp only at hSw); go_simp; (try with_reducible rfl)
        try simp only [Act.put, List.getElem_toArray, List.getElem_cons_succ, List.getElem_cons_zero, List.setIfInBounds_toArray, List.set_cons_zero, List.set_cons_succ]
        refine wpAnyH_done (by kernel_rfl) ?_ _
        have cf0 : w6.cell? ⟨w.heap.size, 0, none⟩ = some (.int .i64 f.v) := q6.out.cell 0
        have cf1 : w6.cell? ⟨w.heap.size, 1, none⟩ = some (.int .i64 f.p) := q6.out.cell 1
        have cf2 : w6.cell? ⟨w.heap.size, 2, none⟩ = some (.bool f.o) := q6.out.cell 2
        go_wp2_with fail
        refine (ref_Inject A C n m c cc l outs f _ hN.out hM.out hg.out ho.out (hr.below b6.out (Nat.le_refl _)) (hro.below b6.out (Nat.le_refl _))).mono ?_
        rintro e w7 ⟨u3, u4, rfl, hu3, hu4, hb7⟩
        obtain ⟨X3, d3, rfl, _, _, hx3⟩ := RdN.of_own hu3
        obtain ⟨X4, d4, rfl, _, _, hx4⟩ := Rd.of_own hu4
        have b7 := hide (b6.out.trans (hb7.mono b6.out.size))
        have hx1 := hide (hx1.below hb7 (Nat.le_refl _))
        have hx2 := hide (hx2.below hb7 (Nat.le_refl _))
        clear hu3 hu4 hb7 cf0 cf1 cf2
        go_wp2_with fail
        refine (nets_same X1 X3 l.length d1 d3 (injN l f) w7 (by have := hl.out; have := hN.out; omega) hx1.out hx3).mono ?_
        rintro e w8 ⟨rfl, hd8⟩
        have b8 := hide (b7.out.trans (hd8.below _))
        have hx1 := hide (hx1.out.below (hd8.below w7.heap.size) (Nat.le_refl _))
        have hx2 := hide (hx2.out.below (hd8.below w7.heap.size) (Nat.le_refl _))
        have hx4 := hide (hx4.below (hd8.below w7.heap.size) (Nat.le_refl _))
        clear hd8
        go_wp2_with fail
        refine (ints_yes _ (by have := hlo.out; have := hM.out; omega) hx2.out hx4.out).mono ?_
        rintro e w9 ⟨rfl, hd9⟩
        have b9 := hide (b8.out.trans (hd9.below _))
        have hx1 := hide (hx1.out.below (hd9.below w8.heap.size) (Nat.le_refl _))
        clear hd9 hx2 hx4
        go_wp2_with fail
        refine (check_zero X1 l.length d1 (injN l f) _ (by have := hl.out; have := hN.out; omega) hx1.out (injN_good hg.out f)).mono ?_
        rintro e w10 ⟨rfl, hd10⟩
        have b10 := hide (b9.out.trans (hd10.below _))
        clear hd10 hx1
        go_wp2_with fail
        refine (lives _ (hp.below b10.out)).mono ?_
        rintro e w11 ⟨rfl, hb11⟩
        have b11 := hide (b10.out.trans (hb11.mono b10.out.size))
        go_wp2
        go_ret
        exact ⟨rfl, b11.out⟩
      · skip
        have qb := qa.alloc (.cells #[] 3)
        have bb := ba.alloc ba.size (.cells #[] 3)
        have omb := om.alloc (.cells #[] 3)
        have bk : Blk ((w1.drew.alloc (.cells #[] 111)).alloc (.cells #[] 3)) (w1.heap.size + 1) 3 #[] := by have := Blk.new (w1.drew.alloc (.cells #[] 111)) 3 #[]; simpa using this
        go_simp
        refine hK.out _ _ ⟨qb.cell 0, qb.cell 1, qb.cell 2⟩ (fun hHeld => ?_)
        clear hK K
        try simp only [Act.put, List.getElem_toArray, List.getElem_cons_succ, List.getElem_cons_zero, List.setIfInBounds_toArray, List.set_cons_zero, List.set_cons_succ]
        refine wpAnyH_ready (rs := [2]) (by kernel_rfl) (by simp) ?_
        refine AllReadyH.cons rfl (fun K hK => ?_) AllReadyH.nil
        refine step_append_rdS rfl (.tmp 17) (.tmp 18) 49 rfl Tryd.underlying49 info_n rfl (by decide) rfl rfl omb bb.size ((hr.below bb (Nat.le_refl _)).rdS) encN_one (by unfold maxLen; have := hN.out; have := hM.out; omega) (by have := hN.out; have := hM.out; omega) ?_
        intro v2 w2 hown2 hgr2
        rw [List.nil_append, Nat.zero_add] at hown2
        have q2 := qb.grown hgr2 (own_blk_ne omb qb (by decide))
        have b2 := bb.grown hgr2 bb.size (fun k hk => (omb.lt k hk).1)
        have bk2 := bk.grown hgr2 (own_blk_ne omb bk (by decide))
        have om2 : w2.ownsRow w.heap.size 3 1 _ 0 [] := made_from bk2 (by have := b1.out.size; omega)
        obtain ⟨V1, c1, rfl, _, _, r1⟩ := RdN.of_own hown2
        refine hK.out _ _ ⟨q2.cell 0, q2.cell 1, q2.cell 2⟩ (fun hHeld => ?_)
        clear hK K
        try simp only [Act.put, List.getElem_toArray, List.getElem_cons_succ, List.getElem_cons_zero, List.setIfInBounds_toArray, List.set_cons_zero, List.set_cons_succ]
        refine wpAnyH_ready (rs := [5]) (by kernel_rfl) (by simp) ?_
        refine AllReadyH.cons rfl (fun K hK => ?_) AllReadyH.nil
        refine step_append_rdS rfl (.tmp 20) (.tmp 21) 22 rfl Tryd.underlying22 info_i3 rfl (by decide) rfl rfl om2 b2.size (rd_rdS (hro.below b2 (Nat.le_refl _))) ivs_one2 (by unfold maxLen; have := hN.out; have := hM.out; omega) (by have := hN.out; have := hM.out; omega) ?_
        intro v5 w5 hown5 hgr5
        rw [List.nil_append, Nat.zero_add] at hown5
        have q5 := hide (q2.grown hgr5 (own_blk_ne om2 q2 (by decide)))
        have b5 := hide (b2.grown hgr5 b2.size (fun k hk => (om2.lt k hk).1))
        have hown4 := hown2.kept hgr5 (own_own_ne hown2 om2 (by decide))
        obtain ⟨V2, c2, rfl, _, _, r2⟩ := Rd.of_own hown5
        have r2 := hide r2
        have r1 : Hid (RdN w5 V1 n l) := by
          obtain ⟨_, _, he, _, _, h⟩ := RdN.of_own hown4
          cases he
          exact h
        refine hK.out _ _ ⟨q5.out.cell 0, q5.out.cell 1, q5.out.cell 2⟩ (fun hHeld => ?_)
        clear hK K
        try simp only [Act.put, List.getElem_toArray, List.getElem_cons_succ, List.getElem_cons_zero, List.setIfInBounds_toArray, List.set_cons_zero, List.set_cons_succ]
        refine wpAnyH_ready (rs := [7]) (by kernel_rfl) (by simp) ?_
        refine AllReadyH.cons rfl (fun K hK => ?_) AllReadyH.nil
        go_simp
        go_wp2_with (go_at_call 39; (refine (fault_Inject V1 V2 n m c1 c2 l outs f _ hN.out hM.out hg.out ho.out r1.out r2.out).mono ?_); rintro e w6 ⟨u1, u2, rfl, hu1, hu2, hb6⟩; obtain ⟨X1, d1, rfl, _, _, hx1⟩ := RdN.of_own hu1; obtain ⟨X2, d2, rfl, _, _, hx2⟩ := Rd.of_own hu2; have q6 := hide (q5.out.below hb6 q5.out.lt); have b6 := hide (b5.out.trans (hb6.mono b5.out.size)); clear hu1 hu2 hb6)
        refine hK.out _ _ ⟨q6.out.cell 0, q6.out.cell 1, q6.out.cell 2⟩ (fun hHeld => ?_)
        clear hK K
        try simp only [Act.put, List.getElem_toArray, List.getElem_cons_succ, List.getElem_cons_zero, List.setIfInBounds_toArray, List.set_cons_zero, List.set_cons_succ]
        refine wpAnyH_take (i := 8) (v := ?_) rfl (by kernel_rfl) (by kernel_rfl) (by kernel_rfl) (fun _ _ _ h => h) (Or.inl ⟨by kernel_rfl, ?_⟩) (by assumption) ?_
        rotate_left
        · intro wz hSw; (try dsimp only at hSw); go_simp; (try with_reducible rfl)
        try simp only [Act.put, List.getElem_toArray, List.getElem_cons_succ, List.getElem_cons_zero, List.setIfInBounds_toArray, List.set_cons_zero, List.set_cons_succ]
        refine wpAnyH_take (i := 9) (v := ?_) rfl (by kernel_rfl) (by kernel_rfl) (by kernel_rfl) (fun _ _ _ h => h) (Or.inl ⟨by kernel_rfl, ?_⟩) (by assumption) ?_
        rotate_left
        · intro wz hSw; (try dsimp only at hSw); go_simp; (try with_reducible rfl)
        try simp only [Act.put, List.getElem_toArray, List.getElem_cons_succ, List.getElem_cons_zero, List.setIfInBounds_toArray, List.set_cons_zero, List.set_cons_succ]
        refine wpAnyH_take (i := 10) (v := ?_) rfl (by kernel_rfl) (by kernel_rfl) (by kernel_rfl) (fun _ _ _ h => h) (Or.inl ⟨by kernel_rfl, ?_⟩) (by assumption) ?_
        rotate_left
        · intro wz hSw; (try dsimp only at hSw); go_simp; (try with_reducible rfl)
        try simp only [Act.put, List.getElem_toArray, List.getElem_cons_succ, List.getElem_cons_zero, List.setIfInBounds_toArray, List.set_cons_zero, List.set_cons_succ]
        refine wpAnyH_take (i := 11) (v := ?_) rfl (by kernel_rfl) (by kernel_rfl) (by kernel_rfl) (fun _ _ _ h => h) (Or.inl ⟨by kernel_rfl, ?_⟩) (by assumption) ?_
        rotate_left
        · intro wz hSw; (try dsimp only at hSw); go_simp; (try with_reducible rfl)
        try simp only [Act.put, List.getElem_toArray, List.getElem_cons_succ, List.getElem_cons_zero, List.setIfInBounds_toArray, List.set_cons_zero, List.set_cons_succ]
        refine wpAnyH_take (i := 12) (v := ?_) rfl (by kernel_rfl) (by kernel_rfl) (by kernel_rfl) (fun _ _ _ h => h) (Or.inl ⟨by kernel_rfl, ?_⟩) (by assumption) ?_
        rotate_left
        · intro wz hSw; (try dsimp only at hSw); go_simp; (try with_reducible rfl)
        try simp only [Act.put, List.getElem_toArray, List.getElem_cons_succ, List.getElem_cons_zero, List.setIfInBounds_toArray, List.set_cons_zero, List.set_cons_succ]
        refine wpAnyH_done (by kernel_rfl) ?_ _
        have cf0 : w6.cell? ⟨w.heap.size, 0, none⟩ = some (.int .i64 f.v) := q6.out.cell 0
        have cf1 : w6.cell? ⟨w.heap.size, 1, none⟩ = some (.int .i64 f.p) := q6.out.cell 1
        have cf2 : w6.cell? ⟨w.heap.size, 2, none⟩ = some (.bool f.o) := q6.out.cell 2
        go_wp2_with fail
        refine (ref_Inject A C n m c cc l outs f _ hN.out hM.out hg.out ho.out (hr.below b6.out (Nat.le_refl _)) (hro.below b6.out (Nat.le_refl _))).mono ?_
        rintro e w7 ⟨u3, u4, rfl, hu3, hu4, hb7⟩
        obtain ⟨X3, d3, rfl, _, _, hx3⟩ := RdN.of_own hu3
        obtain ⟨X4, d4, rfl, _, _, hx4⟩ := Rd.of_own hu4
        have b7 := hide (b6.out.trans (hb7.mono b6.out.size))
        have hx1 := hide (hx1.below hb7 (Nat.le_refl _))
        have hx2 := hide (hx2.below hb7 (Nat.le_refl _))
        clear hu3 hu4 hb7 cf0 cf1 cf2
        go_wp2_with fail
        refine (nets_same X1 X3 l.length d1 d3 (injN l f) w7 (by have := hl.out; have := hN.out; omega) hx1.out hx3).mono ?_
        rintro e w8 ⟨rfl, hd8⟩
        have b8 := hide (b7.out.trans (hd8.below _))
        have hx1 := hide (hx1.out.below (hd8.below w7.heap.size) (Nat.le_refl _))
        have hx2 := hide (hx2.out.below (hd8.below w7.heap.size) (Nat.le_refl _))
        have hx4 := hide (hx4.below (hd8.below w7.heap.size) (Nat.le_refl _))
        clear hd8
        go_wp2_with fail
        refine (ints_yes _ (by have := hlo.out; have := hM.out; omega) hx2.out hx4.out).mono ?_
        rintro e w9 ⟨rfl, hd9⟩
        have b9 := hide (b8.out.trans (hd9.below _))
        have hx1 := hide (hx1.out.below (hd9.below w8.heap.size) (Nat.le_refl _))
        clear hd9 hx2 hx4
        go_wp2_with fail
        refine (check_zero X1 l.length d1 (injN l f) _ (by have := hl.out; have := hN.out; omega) hx1.out (injN_good hg.out f)).mono ?_
        rintro e w10 ⟨rfl, hd10⟩
        have b10 := hide (b9.out.trans (hd10.below _))
        clear hd10 hx1
        go_wp2_with fail
        refine (lives _ (hp.below b10.out)).mono ?_
        rintro e w11 ⟨rfl, hb11⟩
        have b11 := hide (b10.out.trans (hb11.mono b10.out.size))
        go_wp2
        go_ret
        exact ⟨rfl, b11.out⟩
    · skip
      have qa := qd.alloc (.cells #[] 3)
      have ba := bd.alloc bd.size (.cells #[] 3)
      go_simp
      refine hK.out _ _ ⟨qa.cell 0, qa.cell 1, qa.cell 2⟩ (fun hHeld => ?_)
      clear hK K
      try simp only [Act.put, List.getElem_toArray, List.getElem_cons_succ, List.getElem_cons_zero, List.setIfInBounds_toArray, List.set_cons_zero, List.set_cons_succ]
      refine wpAnyH_ready (rs := [0]) (by kernel_rfl) (by simp) ?_
      refine AllReadyH.cons rfl (fun K hK => ?_) AllReadyH.nil
      have qb := qa.alloc (.cells #[] 111)
      have bb := ba.alloc ba.size (.cells #[] 111)
      have omb : ((w1.drew.alloc (.cells #[] 3)).alloc (.cells #[] 111)).ownsRow w.heap.size 111 2 (.slice (some ⟨w1.heap.size + 1, 0, none⟩) 0 0) 0 [] := by have := made_empty (w1.drew.alloc (.cells #[] 3)) w.heap.size 111 2 ba.size; simpa using this
      have bk : Blk ((w1.drew.alloc (.cells #[] 3)).alloc (.cells #[] 111)) w1.heap.size 3 #[] := (Blk.new w1.drew 3 #[]).alloc _
      go_simp
      refine hK.out _ _ ⟨qb.cell 0, qb.cell 1, qb.cell 2⟩ (fun hHeld => ?_)
      clear hK K
      try simp only [Act.put, List.getElem_toArray, List.getElem_cons_succ, List.getElem_cons_zero, List.setIfInBounds_toArray, List.set_cons_zero, List.set_cons_succ]
      refine wpAnyH_ready (rs := [2]) (by kernel_rfl) (by simp) ?_
      refine AllReadyH.cons rfl (fun K hK => ?_) AllReadyH.nil
      refine step_append_rdS rfl (.tmp 17) (.tmp 18) 49 rfl Tryd.underlying49 info_n rfl (by decide) rfl rfl omb bb.size ((hr.below bb (Nat.le_refl _)).rdS) encN_one (by unfold maxLen; have := hN.out; have := hM.out; omega) (by have := hN.out; have := hM.out; omega) ?_
      intro v2 w2 hown2 hgr2
      rw [List.nil_append, Nat.zero_add] at hown2
      have q2 := qb.grown hgr2 (own_blk_ne omb qb (by decide))
      have b2 := bb.grown hgr2 bb.size (fun k hk => (omb.lt k hk).1)
      have bk2 := bk.grown hgr2 (own_blk_ne omb bk (by decide))
      have om2 : w2.ownsRow w.heap.size 3 1 _ 0 [] := made_from bk2 (by have := b1.out.size; omega)
      obtain ⟨V1, c1, rfl, _, _, r1⟩ := RdN.of_own hown2
      refine hK.out _ _ ⟨q2.cell 0, q2.cell 1, q2.cell 2⟩ (fun hHeld => ?_)
      clear hK K
      try simp only [Act.put, List.getElem_toArray, List.getElem_cons_succ, List.getElem_cons_zero, List.setIfInBounds_toArray, List.set_cons_zero, List.set_cons_succ]
      refine wpAnyH_ready (rs := [5]) (by kernel_rfl) (by simp) ?_
      refine AllReadyH.cons rfl (fun K hK => ?_) AllReadyH.nil
      refine step_append_rdS rfl (.tmp 20) (.tmp 21) 22 rfl Tryd.underlying22 info_i3 rfl (by decide) rfl rfl om2 b2.size (rd_rdS (hro.below b2 (Nat.le_refl _))) ivs_one2 (by unfold maxLen; have := hN.out; have := hM.out; omega) (by have := hN.out; have := hM.out; omega) ?_
      intro v5 w5 hown5 hgr5
      rw [List.nil_append, Nat.zero_add] at hown5
      have q5 := hide (q2.grown hgr5 (own_blk_ne om2 q2 (by decide)))
      have b5 := hide (b2.grown hgr5 b2.size (fun k hk => (om2.lt k hk).1))
      have hown4 := hown2.kept hgr5 (own_own_ne hown2 om2 (by decide))
      obtain ⟨V2, c2, rfl, _, _, r2⟩ := Rd.of_own hown5
      have r2 := hide r2
      have r1 : Hid (RdN w5 V1 n l) := by
        obtain ⟨_, _, he, _, _, h⟩ := RdN.of_own hown4
        cases he
        exact h
      refine hK.out _ _ ⟨q5.out.cell 0, q5.out.cell 1, q5.out.cell 2⟩ (fun hHeld => ?_)
      clear hK K
      try simp only [Act.put, List.getElem_toArray, List.getElem_cons_succ, List.getElem_cons_zero, List.setIfInBounds_toArray, List.set_cons_zero, List.set_cons_succ]
      refine wpAnyH_ready (rs := [7]) (by kernel_rfl) (by simp) ?_
      refine AllReadyH.cons rfl (fun K hK => ?_) AllReadyH.nil
      go_simp
      go_wp2_with (go_at_call 39; (refine (fault_Inject V1 V2 n m c1 c2 l outs f _ hN.out hM.out hg.out ho.out r1.out r2.out).mono ?_); rintro e w6 ⟨u1, u2, rfl, hu1, hu2, hb6⟩; obtain ⟨X1, d1, rfl, _, _, hx1⟩ := RdN.of_own hu1; obtain ⟨X2, d2, rfl, _, _, hx2⟩ := Rd.of_own hu2; have q6 := hide (q5.out.below hb6 q5.out.lt); have b6 := hide (b5.out.trans (hb6.mono b5.out.size)); clear hu1 hu2 hb6)
      refine hK.out _ _ ⟨q6.out.cell 0, q6.out.cell 1, q6.out.cell 2⟩ (fun hHeld => ?_)
      clear hK K
      try simp only [Act.put, List.getElem_toArray, List.getElem_cons_succ, List.getElem_cons_zero, List.setIfInBounds_toArray, List.set_cons_zero, List.set_cons_succ]
      refine wpAnyH_take (i := 8) (v := ?_) rfl (by kernel_rfl) (by kernel_rfl) (by kernel_rfl) (fun _ _ _ h => h) (Or.inl ⟨by kernel_rfl, ?_⟩) (by assumption) ?_
      rotate_left
      · intro wz hSw; (try dsimp only at hSw); go_simp; (try with_reducible rfl)
      try simp only [Act.put, List.getElem_toArray, List.getElem_cons_succ, List.getElem_cons_zero, List.setIfInBounds_toArray, List.set_cons_zero, List.set_cons_succ]
      refine wpAnyH_take (i := 9) (v := ?_) rfl (by kernel_rfl) (by kernel_rfl) (by kernel_rfl) (fun _ _ _ h => h) (Or.inl ⟨by kernel_rfl, ?_⟩) (by assumption) ?_
      rotate_left
      · intro wz hSw; (try dsimp only at hSw); go_simp; (try with_reducible rfl)
      try simp only [Act.put, List.getElem_toArray, List.getElem_cons_succ, List.getElem_cons_zero, List.setIfInBounds_toArray, List.set_cons_zero, List.set_cons_succ]
      refine wpAnyH_take (i := 10) (v := ?_) rfl (by kernel_rfl) (by kernel_rfl) (by kernel_rfl) (fun _ _ _ h => h) (Or.inl ⟨by kernel_rfl, ?_⟩) (by assumption) ?_
      rotate_left
      · intro wz hSw; (try dsimp only at hSw); go_simp; (try with_reducible rfl)
      try simp only [Act.put, List.getElem_toArray, List.getElem_cons_succ, List.getElem_cons_zero, List.setIfInBounds_toArray, List.set_cons_zero, List.set_cons_succ]
      refine wpAnyH_take (i := 11) (v := ?_) rfl (by kernel_rfl) (by kernel_rfl) (by kernel_rfl) (fun _ _ _ h => h) (Or.inl ⟨by kernel_rfl, ?_⟩) (by assumption) ?_
      rotate_left
      · intro wz hSw; (try dsimp only at hSw); go_simp; (try with_reducible rfl)
      try simp only [Act.put, List.getElem_toArray, List.getElem_cons_succ, List.getElem_cons_zero, List.setIfInBounds_toArray, List.set_cons_zero, List.set_cons_succ]
      refine wpAnyH_take (i := 12) (v := ?_) rfl (by kernel_rfl) (by kernel_rfl) (by kernel_rfl) (fun _ _ _ h => h) (Or.inl ⟨by kernel_rfl, ?_⟩) (by assumption) ?_
      rotate_left
      · intro wz hSw; (try dsimp only at hSw); go_simp; (try with_reducible rfl)
      try simp only [Act.put, List.getElem_toArray, List.getElem_cons_succ, List.getElem_cons_zero, List.setIfInBounds_toArray, List.set_cons_zero, List.set_cons_succ]
      refine wpAnyH_done (by kernel_rfl) ?_ _
      have cf0 : w6.cell? ⟨w.heap.size, 0, none⟩ = some (.int .i64 f.v) := q6.out.cell 0
      have cf1 : w6.cell? ⟨w.heap.size, 1, none⟩ = some (.int .i64 f.p) := q6.out.cell 1
      have cf2 : w6.cell? ⟨w.heap.size, 2, none⟩ = some (.bool f.o) := q6.out.cell 2
      go_wp2_with fail
      refine (ref_Inject A C n m c cc l outs f _ hN.out hM.out hg.out ho.out (hr.below b6.out (Nat.le_refl _)) (hro.below b6.out (Nat.le_refl _))).mono ?_
      rintro e w7 ⟨u3, u4, rfl, hu3, hu4, hb7⟩
      obtain ⟨X3, d3, rfl, _, _, hx3⟩ := RdN.of_own hu3
      obtain ⟨X4, d4, rfl, _, _, hx4⟩ := Rd.of_own hu4
      have b7 := hide (b6.out.trans (hb7.mono b6.out.size))
      have hx1 := hide (hx1.below hb7 (Nat.le_refl _))
      have hx2 := hide (hx2.below hb7 (Nat.le_refl _))
      clear hu3 hu4 hb7 cf0 cf1 cf2
      go_wp2_with fail
      refine (nets_same X1 X3 l.length d1 d3 (injN l f) w7 (by have := hl.out; have := hN.out; omega) hx1.out hx3).mono ?_
      rintro e w8 ⟨rfl, hd8⟩
      have b8 := hide (b7.out.trans (hd8.below _))
      have hx1 := hide (hx1.out.below (hd8.below w7.heap.size) (Nat.le_refl _))
      have hx2 := hide (hx2.out.below (hd8.below w7.heap.size) (Nat.le_refl _))
      have hx4 := hide (hx4.below (hd8.below w7.heap.size) (Nat.le_refl _))
      clear hd8
      go_wp2_with fail
      refine (ints_yes _ (by have := hlo.out; have := hM.out; omega) hx2.out hx4.out).mono ?_
      rintro e w9 ⟨rfl, hd9⟩
      have b9 := hide (b8.out.trans (hd9.below _))
      have hx1 := hide (hx1.out.below (hd9.below w8.heap.size) (Nat.le_refl _))
      clear hd9 hx2 hx4
      go_wp2_with fail
      refine (check_zero X1 l.length d1 (injN l f) _ (by have := hl.out; have := hN.out; omega) hx1.out (injN_good hg.out f)).mono ?_
      rintro e w10 ⟨rfl, hd10⟩
      have b10 := hide (b9.out.trans (hd10.below _))
      clear hd10 hx1
      go_wp2_with fail
      refine (lives _ (hp.below b10.out)).mono ?_
      rintro e w11 ⟨rfl, hb11⟩
      have b11 := hide (b10.out.trans (hb11.mono b10.out.size))
      go_wp2
      go_ret
      exact ⟨rfl, b11.out⟩
end Go.Proofs.YtcjoohaagdihlaaDoor.Fault
