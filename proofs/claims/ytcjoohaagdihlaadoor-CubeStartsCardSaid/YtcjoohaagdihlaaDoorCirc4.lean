/- The order of a circuit's gates: it ends, and is of gates. -/
import Derived.Test.YtcjoohaagdihlaaDoorCirc3
namespace Go.Proofs.YtcjoohaagdihlaaDoor.Circ
open Go.RowKit Go.Lt Go.Proofs.YtcjoohaagdihlaaDoor.Lit Go.Proofs.YtcjoohaagdihlaaDoor.CubeHas Go.Proofs.YtcjoohaagdihlaaDoor.CubeStart
set_option linter.unusedVariables false
set_option linter.unusedSimpArgs false

theorem own_low {w : World} {b b' e size n : Nat} {v : Value} {xs : List Value} (h : w.ownsRow b' e size v n xs) (hb : b ≤ b') : w.ownsRow b e size v n xs := by
  obtain ⟨h1, h2⟩ := h
  refine ⟨h1, ?_⟩
  rcases h2 with h2 | ⟨g, cap, cur, h3, h4, h5⟩
  · exact .inl h2
  · exact .inr ⟨g, cap, cur, h3, Nat.le_trans hb h4, h5⟩
/-- a row of the call's own, of truths that are all false -/
def FalseAt (base n : Nat) (x : Value) (w : World) : Prop := ∃ g, x = .slice (some ⟨g, 0, none⟩) n n ∧ base ≤ g ∧ w.ownsRow base 4 1 (.slice (some ⟨g, 0, none⟩) n n) n (bvs (List.replicate n false))
theorem FalseAt.step {base n : Nat} {x : Value} {w w' : World} (h : FalseAt base n x w) (hb : Below w.heap.size w w') : FalseAt base n x w' := by
  obtain ⟨g, h1, h2, h3⟩ := h
  exact ⟨g, h1, h2, own_keep h3 hb⟩
theorem false_made {w w' : World} {base n : Nat} (h : w'.ownsRow w.heap.size 4 1 (.slice (some ⟨w.heap.size, 0, none⟩) n n) n (madeCells (Value.cells (.bool false)) (n * 1)).toList) (hb : base ≤ w.heap.size) : FalseAt base n (.slice (some ⟨w.heap.size, 0, none⟩) n n) w' := by
  have e : (madeCells (Value.cells (.bool false)) (n * 1)).toList = bvs (List.replicate n false) := by
    show (madeCells #[Value.bool false] (n * 1)).toList = _
    unfold bvs
    rw [toList_madeCells_one, Nat.mul_one, List.map_replicate]
  rw [e] at h
  exact ⟨_, rfl, hb, own_low h hb⟩
theorem CiIs.gatA {w : World} {v : Cv} {c : Ci} {ad : Addr} (h : CiIs w v c) (hA : v.gat.A = some ad) : CiIs w ⟨v.ins, v.lat, v.outs, v.bads, v.cons, ⟨some ad, v.gat.n, v.gat.c⟩, v.sym, v.com⟩ c :=
  ⟨h.ins, h.lat, h.outs, h.bads, h.cons, by rw [← hA]; exact h.gat, h.sym⟩
theorem rd_row {w : World} {base e g n : Nat} {xs : List Value} (h : w.ownsRow base e 1 (.slice (some ⟨g, 0, none⟩) n n) n xs) : Rd w (some ⟨g, 0, none⟩) n xs := by
  obtain ⟨_, _, hv, _, _, hr⟩ := Rd.of_own h
  injection hv with e1 e2 e3
  rw [e1]; exact hr
def lenV : Value → Nat
  | .slice _ n _ => n
  | _ => 0
def trues (l : List Bool) : Nat := l.countP (fun b => b)
theorem trues_set {l : List Bool} {q : Nat} (h : l[q]? = some false) : trues (l.set q true) = trues l + 1 := by
  obtain ⟨hq, h2⟩ := List.getElem?_eq_some_iff.1 h
  unfold trues
  rw [List.countP_set hq, h2]
  simp
theorem trues_lt {l : List Bool} {q : Nat} (h : l[q]? = some false) : trues l < l.length := by
  obtain ⟨hq, h2⟩ := List.getElem?_eq_some_iff.1 h
  have h1 := trues_set h
  have h3 : trues (l.set q true) ≤ (l.set q true).length := List.countP_le_length
  rw [List.length_set] at h3
  omega
/-- what is known between the rounds: the places so far, and which gates are told -/
structure Ox (W1 : World) (n g : Nat) (u : Value) (told : List Bool) (xs : List Int) (W : World) : Prop where
  out : W.ownsRow W1.heap.size 3 1 u (trues told) (ivs xs)
  row : W.ownsRow W1.heap.size 4 1 (.slice (some ⟨g, 0, none⟩) n n) n (bvs told)
  len : told.length = n
  rng : ∀ x ∈ xs, 0 ≤ x ∧ x < n
  bel : Below W1.heap.size W1 W
theorem Ox.step {W1 : World} {n g : Nat} {u : Value} {told : List Bool} {xs : List Int} {W W' : World} (h : Ox W1 n g u told xs W) (hb : Below W.heap.size W W') : Ox W1 n g u told xs W' :=
  ⟨own_keep h.out hb, own_keep h.row hb, h.len, h.rng, h.bel.trans (hb.mono h.bel.size)⟩
theorem Ox.put {W1 : World} {n g q : Nat} {u u' : Value} {told : List Bool} {xs : List Int} {W W' : World} (h : Ox W1 n g u told xs W) (hq : told[q]? = some false)
    (h1 : W'.ownsRow W1.heap.size 3 1 u' (trues told + 1) (ivs xs ++ [.int .i64 q])) (h2 : Below W1.heap.size W1 W') (h3 : (W.alloc (.cells #[.int .i64 q] 3)).grownBy W' u.ownBlock) :
    Ox W1 n g u' (told.set q true) (xs ++ [(q : Int)]) (W'.setCell ⟨g, q, none⟩ (.bool true)) ∧ W'.cell? ⟨g, q, none⟩ = some (.bool false) ∧ W'.frozen? ⟨g, q, none⟩ = false := by
  have r1 := h.row.alloc (.cells #[.int .i64 q] 3)
  have o1 := h.out.alloc (.cells #[.int .i64 q] 3)
  have r2 := r1.kept h3 (own_own_ne r1 o1 (by decide))
  have hql : q < n := by rw [← h.len]; exact (List.getElem?_eq_some_iff.1 hq).1
  have hg : W1.heap.size ≤ g := by
    rcases own_cases h.row with ⟨h4, _⟩ | ⟨g', c', h4, h5, _⟩
    · cases h4
    · injection h4 with h4 _ _; injection h4 with h4; injection h4 with h4 _ _; subst h4; exact h5
  have hne : u'.ownBlock ≠ some g := by
    rcases own_own_ne h1 r2 (by decide) with h4 | h4
    · rw [h4]; simp
    · simpa [Value.ownBlock] using h4
  refine ⟨⟨?_, ?_, by rw [List.length_set]; exact h.len, ?_, h2.setCell (p := ⟨g, q, none⟩) hg _⟩, ?_, own_frozen r2 q⟩
  · rw [trues_set hq, ivs_app]; exact ownsRow_setCell_other h1 hne _
  · have := own_set r2 q (.bool true)
    unfold bvs at this ⊢
    rw [List.map_set]; exact this
  · intro x hx
    rcases List.mem_append.1 hx with hx | hx
    · exact h.rng x hx
    · simp at hx; subst hx; omega
  · exact own_cell r2 (by unfold bvs; rw [List.getElem?_map, hq]; rfl)
def OrderIs (n : Nat) (w : World) (e : Ending) (w' : World) : Prop := ∃ A m k xs, e = .returned (.slice A m k) ∧ m ≤ n ∧ w'.ownsRow w.heap.size 3 1 (.slice A m k) m (ivs xs) ∧ (∀ x ∈ xs, 0 ≤ x ∧ x < n) ∧ Below w.heap.size w w'
theorem Ox.done {w W1 : World} {n g : Nat} {u : Value} {told : List Bool} {xs : List Int} {W : World} (h : Ox W1 n g u told xs W) (h1 : Below w.heap.size w W1) : OrderIs n w (.returned u) W := by
  obtain ⟨A, c, rfl, _, _, hr⟩ := Rd.of_own h.out
  exact ⟨A, _, c, xs, rfl, by rw [← h.len]; exact List.countP_le_length, own_low h.out h1.size, h.rng, h1.trans (h.bel.mono h1.size)⟩

set_option maxRecDepth 8000 in
set_option maxHeartbeats 8000000 in
theorem ref_Order (v : Cv) (c : Ci) (w : World) (hg : v.gat.n ≤ 30) (hr : Rng c) (hi : CiIs w v c) :
    Calls Tryd.prog 128 #[.agg (cells9 c.max v)] w (OrderIs v.gat.n w) := by
  have hb1 := (Below.refl w.heap.size w).alloc (Nat.le_refl _) (.cells (cells9 c.max v) 27)
  have q1 := Blk.new w 27 (cells9 c.max v)
  have hi1 := hi.below hb1 (Nat.le_refl _)
  obtain ⟨W1, hW1⟩ : ∃ W1, w.alloc (.cells (cells9 c.max v) 27) = W1 := ⟨_, rfl⟩
  rw [hW1] at hb1 q1 hi1
  have hlt1 : w.heap.size < W1.heap.size := q1.lt
  have hb1 := hide hb1
  have hR := hide hr
  clear hr hi
  go_enter Tryd.func128, Tryd.ntmps128
  go_wp2
  refine wp_region_inv2 (fun D az wz => ∃ x3 x4 x7 x8 x9 x10 x11 : Value, az = ⟨#[.agg (cells9 c.max v), .pointer (some ⟨w.heap.size, 0, none⟩), .slice none 0 0, x3, x4, undef, undef, x7, x8, x9, x10, x11, undef, undef, undef, undef, undef, undef, undef, undef, undef, undef, undef, undef, undef, undef, undef, undef, undef, undef, undef, undef, undef, undef, undef, undef, undef, undef, undef, undef, undef, undef, undef, undef, undef, undef, undef, undef, undef, undef, undef, undef, undef, undef, undef, undef, undef, undef, undef, undef, undef, undef, undef], []⟩ ∧ Below W1.heap.size W1 wz ∧ (D 0 → LitAt W1.heap.size 3 x7 wz) ∧ (D 1 → x8 = .pointer (some ⟨w.heap.size, 6, none⟩)) ∧ (D 2 → x9 = .slice v.gat.A v.gat.n v.gat.c) ∧ (D 3 → x10 = .int .i64 v.gat.n) ∧ (D 4 → FalseAt W1.heap.size v.gat.n x11 wz) ∧ (D 5 → LitAt W1.heap.size 3 x3 wz) ∧ (D 6 → FalseAt W1.heap.size v.gat.n x4 wz)) (by kernel_rfl) (by kernel_rfl) ?h0 ?hstep ?hdone
  case h0 =>
    refine ⟨_, _, _, _, _, _, _, rfl, Dr.below (Dr.refl W1).drew _, fun h => absurd h (by decide), fun h => absurd h (by decide), fun h => absurd h (by decide), fun h => absurd h (by decide), fun h => absurd h (by decide), fun h => absurd h (by decide), fun h => absurd h (by decide)⟩
  case hstep =>
    intro D az wz i hi hd hI
    obtain ⟨x3, x4, x7, x8, x9, x10, x11, rfl, hbz, f0, f1, f2, f3, f4, f5, f6⟩ := hI
    have hi : i < 7 := hi
    rcases (show i = 0 ∨ i = 1 ∨ i = 2 ∨ i = 3 ∨ i = 4 ∨ i = 5 ∨ i = 6 by omega) with rfl | rfl | rfl | rfl | rfl | rfl | rfl
    · -- 0
      refine wpOp_step rfl (fun K hK => ?_)
      have hK : Shut _ := hK
      go_simp
      have hbs := (Below.refl wz.heap.size wz).alloc (Nat.le_refl _) (.cells #[] 3)
      try simp only [Act.put, List.getElem_toArray, List.getElem_cons_succ, List.getElem_cons_zero, List.setIfInBounds_toArray, List.set_cons_zero, List.set_cons_succ]
      refine hK.out _ _ ⟨_, _, _, _, _, _, _, rfl, hbz.trans (hbs.mono hbz.size), fun _ => LitAt.new wz W1.heap.size _ hbz.size, fun h => h.elim (fun e => absurd e (by decide)) f1, fun h => h.elim (fun e => absurd e (by decide)) f2, fun h => h.elim (fun e => absurd e (by decide)) f3, fun h => h.elim (fun e => absurd e (by decide)) (fun h => (f4 h).step hbs), fun h => h.elim (fun e => absurd e (by decide)) (fun h => (f5 h).step hbs), fun h => h.elim (fun e => absurd e (by decide)) (fun h => (f6 h).step hbs)⟩
    · -- 1
      refine wpOp_step rfl (fun K hK => ?_)
      have hK : Shut _ := hK
      go_simp
      try simp only [Act.put, List.getElem_toArray, List.getElem_cons_succ, List.getElem_cons_zero, List.setIfInBounds_toArray, List.set_cons_zero, List.set_cons_succ]
      refine hK.out _ _ ⟨_, _, _, _, _, _, _, rfl, hbz, fun h => h.elim (fun e => absurd e (by decide)) f0, fun _ => rfl, fun h => h.elim (fun e => absurd e (by decide)) f2, fun h => h.elim (fun e => absurd e (by decide)) f3, fun h => h.elim (fun e => absurd e (by decide)) f4, fun h => h.elim (fun e => absurd e (by decide)) f5, fun h => h.elim (fun e => absurd e (by decide)) f6⟩
    · -- 2
      have d1 := f1 (hd 1 (by kernel_rfl))
      refine wpOp_step rfl (fun K hK => ?_)
      have hK : Shut _ := hK
      subst d1
      have cz : wz.cell? ⟨w.heap.size, 6, none⟩ = some (.slice v.gat.A v.gat.n v.gat.c) := (q1.below hbz hlt1).cell 6
      go_simp
      try simp only [Act.put, List.getElem_toArray, List.getElem_cons_succ, List.getElem_cons_zero, List.setIfInBounds_toArray, List.set_cons_zero, List.set_cons_succ]
      refine hK.out _ _ ⟨_, _, _, _, _, _, _, rfl, hbz, fun h => h.elim (fun e => absurd e (by decide)) f0, fun h => h.elim (fun e => absurd e (by decide)) f1, fun _ => rfl, fun h => h.elim (fun e => absurd e (by decide)) f3, fun h => h.elim (fun e => absurd e (by decide)) f4, fun h => h.elim (fun e => absurd e (by decide)) f5, fun h => h.elim (fun e => absurd e (by decide)) f6⟩
    · -- 3
      have d2 := f2 (hd 2 (by kernel_rfl))
      refine wpOp_step rfl (fun K hK => ?_)
      have hK : Shut _ := hK
      subst d2
      go_simp
      try simp only [Act.put, List.getElem_toArray, List.getElem_cons_succ, List.getElem_cons_zero, List.setIfInBounds_toArray, List.set_cons_zero, List.set_cons_succ]
      refine hK.out _ _ ⟨_, _, _, _, _, _, _, rfl, hbz, fun h => h.elim (fun e => absurd e (by decide)) f0, fun h => h.elim (fun e => absurd e (by decide)) f1, fun h => h.elim (fun e => absurd e (by decide)) f2, fun _ => rfl, fun h => h.elim (fun e => absurd e (by decide)) f4, fun h => h.elim (fun e => absurd e (by decide)) f5, fun h => h.elim (fun e => absurd e (by decide)) f6⟩
    · -- 4
      have d3 := f3 (hd 3 (by kernel_rfl))
      refine wpOp_step rfl (fun K hK => ?_)
      have hK : Shut _ := hK
      subst d3
      refine step_make rfl (.tmp 10) (.tmp 10) 30 rfl 4 Tryd.underlying30 info_b .i64 .i64 v.gat.n rfl rfl (by omega) (by unfold maxLen; omega) ?_
      intro w4 hown4 hbs
      try simp only [Act.put, List.getElem_toArray, List.getElem_cons_succ, List.getElem_cons_zero, List.setIfInBounds_toArray, List.set_cons_zero, List.set_cons_succ]
      refine hK.out _ _ ⟨_, _, _, _, _, _, _, rfl, hbz.trans (hbs.mono hbz.size), fun h => h.elim (fun e => absurd e (by decide)) (fun h => (f0 h).step hbs), fun h => h.elim (fun e => absurd e (by decide)) f1, fun h => h.elim (fun e => absurd e (by decide)) f2, fun h => h.elim (fun e => absurd e (by decide)) f3, fun _ => false_made hown4 hbz.size, fun h => h.elim (fun e => absurd e (by decide)) (fun h => (f5 h).step hbs), fun h => h.elim (fun e => absurd e (by decide)) (fun h => (f6 h).step hbs)⟩
    · -- 5
      have d0 := f0 (hd 0 (by kernel_rfl))
      refine wpOp_step rfl (fun K hK => ?_)
      have hK : Shut _ := hK
      go_simp
      try simp only [Act.put, List.getElem_toArray, List.getElem_cons_succ, List.getElem_cons_zero, List.setIfInBounds_toArray, List.set_cons_zero, List.set_cons_succ]
      refine hK.out _ _ ⟨_, _, _, _, _, _, _, rfl, hbz, fun h => h.elim (fun e => absurd e (by decide)) f0, fun h => h.elim (fun e => absurd e (by decide)) f1, fun h => h.elim (fun e => absurd e (by decide)) f2, fun h => h.elim (fun e => absurd e (by decide)) f3, fun h => h.elim (fun e => absurd e (by decide)) f4, fun _ => d0, fun h => h.elim (fun e => absurd e (by decide)) f6⟩
    · -- 6
      have d4 := f4 (hd 4 (by kernel_rfl))
      refine wpOp_step rfl (fun K hK => ?_)
      have hK : Shut _ := hK
      go_simp
      try simp only [Act.put, List.getElem_toArray, List.getElem_cons_succ, List.getElem_cons_zero, List.setIfInBounds_toArray, List.set_cons_zero, List.set_cons_succ]
      refine hK.out _ _ ⟨_, _, _, _, _, _, _, rfl, hbz, fun h => h.elim (fun e => absurd e (by decide)) f0, fun h => h.elim (fun e => absurd e (by decide)) f1, fun h => h.elim (fun e => absurd e (by decide)) f2, fun h => h.elim (fun e => absurd e (by decide)) f3, fun h => h.elim (fun e => absurd e (by decide)) f4, fun h => h.elim (fun e => absurd e (by decide)) f5, fun _ => d4⟩
  case hdone =>
    rintro D az wz hD ⟨x3, x4, x7, x8, x9, x10, x11, rfl, hbz, f0, f1, f2, f3, f4, f5, f6⟩
    have d0 := f0 (hD 0)
    have d1 := f1 (hD 1)
    have d2 := f2 (hD 2)
    have d3 := f3 (hD 3)
    have d4 := f4 (hD 4)
    have d5 := f5 (hD 5)
    have d6 := f6 (hD 6)
    clear f0 f1 f2 f3 f4 f5 f6
    clear d0 d1 d2 d3 d4
    obtain ⟨g, rfl, hgb, hT⟩ := d6
    have hO := d5.own (size := 1)
    clear d5
    go_wp2
    go_loopw [3] (fun u wr => ∃ told xs, Ox W1 v.gat.n g u told xs wr) (fun u _ => v.gat.n - lenV u)
    case atStart => exact ⟨List.replicate v.gat.n false, [], by rw [show trues (List.replicate v.gat.n false) = 0 by unfold trues; simp]; exact hO, hT, by simp, (fun x hx => by cases hx), hbz⟩
    case round =>
      obtain ⟨wo, hwo⟩ : ∃ wo, wo = wr := ⟨_, rfl⟩
      subst hwo
      obtain ⟨told, xs, hX⟩ := hrel
      have hX := hide hX
      clear hO hT hbz
      have cB0 : wo.cell? ⟨w.heap.size, 6, none⟩ = some (.slice v.gat.A v.gat.n v.gat.c) := (q1.below hX.out.bel hlt1).cell 6
      go_wp2
      go_loopw [5, 6] (fun z i wr => ∃ (k : Nat) (y : Int), k ≤ v.gat.n ∧ i = .int .i64 k ∧ z = .int .i64 y ∧ (y = -1 ∨ ∃ q : Nat, y = q ∧ q < v.gat.n ∧ told[q]? = some false) ∧ Below wo.heap.size wo wr) (fun _ i _ => v.gat.n - (intOf i).toNat)
      case atStart => exact ⟨0, -1, Nat.zero_le _, rfl, rfl, .inl rfl, Below.refl _ _⟩
      case round =>
        obtain ⟨k, y, hk, rfl, rfl, hy, hbi⟩ := hrel
        have hkI : (k : Int) ≤ 30 := by omega
        have hXi := hide (hX.out.step hbi)
        have hbW := hide hXi.out.bel
        by_cases hlt : k < v.gat.n
        case neg =>
          have hkn : k = v.gat.n := by omega
          have hkn' : ¬ (k : Int) < v.gat.n := by omega
          have cB : wr.cell? ⟨w.heap.size, 6, none⟩ = some (.slice v.gat.A v.gat.n v.gat.c) := (q1.below hbW.out hlt1).cell 6
          rcases hy with rfl | ⟨q, rfl, hq, hqt⟩
          · go_wp2
            go_ret
            exact hXi.out.done hb1.out
          · have hqI : ¬ (q : Int) < 0 := by omega
            have hqI2 : (q : Int) < v.gat.n := by omega
            have hlt2 := trues_lt hqt
            rw [hXi.out.len] at hlt2
            have hout := hXi.out.out
            obtain ⟨U, cU, rfl, _, _, _⟩ := Rd.of_own hout
            have hbx := hXi.out.bel
            have h63 := hide (show trues told + 1 ≤ maxLen by unfold maxLen; omega)
            have hby := hide (show (trues told + 1) * 8 ≤ 140737488355328 by omega)
            go_wp2_with (at_builtin; refine wpList_pushG rfl _ _ _ rfl Tryd.underlying22 info_i rfl (by decide) rfl (by first | rfl | simp [go_sem]) hout hbx (Nat.le_refl _) rfl (by simp [Value.oneCell']) h63.out hby.out ?_; intro v6 w6 hown6 hb6 hgr6; obtain ⟨hP, hc6, hf6⟩ := hXi.out.put hqt hown6 hb6 hgr6; clear hgr6 hb6; have hP := hide hP)
            go_roundw
            case rel => exact ⟨_, _, hP.out⟩
            case measure => obtain ⟨U6, c6, rfl, _, _, _⟩ := Rd.of_own hown6; simp [lenV]; omega
        have hltI : (k : Int) < v.gat.n := by omega
        rcases hy with rfl | ⟨q, rfl, hq, hqt⟩
        case inr =>
          have cB : wr.cell? ⟨w.heap.size, 6, none⟩ = some (.slice v.gat.A v.gat.n v.gat.c) := (q1.below hbW.out hlt1).cell 6
          have hqI : ¬ (q : Int) < 0 := by omega
          have hqI2 : (q : Int) < v.gat.n := by omega
          have hlt2 := trues_lt hqt
          rw [hXi.out.len] at hlt2
          have hout := hXi.out.out
          obtain ⟨U, cU, rfl, _, _, _⟩ := Rd.of_own hout
          have hbx := hXi.out.bel
          have h63 := hide (show trues told + 1 ≤ maxLen by unfold maxLen; omega)
          have hby := hide (show (trues told + 1) * 8 ≤ 140737488355328 by omega)
          go_wp2_with (at_builtin; refine wpList_pushG rfl _ _ _ rfl Tryd.underlying22 info_i rfl (by decide) rfl (by first | rfl | simp [go_sem]) hout hbx (Nat.le_refl _) rfl (by simp [Value.oneCell']) h63.out hby.out ?_; intro v6 w6 hown6 hb6 hgr6; obtain ⟨hP, hc6, hf6⟩ := hXi.out.put hqt hown6 hb6 hgr6; clear hgr6 hb6; have hP := hide hP)
          go_roundw
          case rel => exact ⟨_, _, hP.out⟩
          case measure => obtain ⟨U6, c6, rfl, _, _, _⟩ := Rd.of_own hown6; simp [lenV]; omega
        obtain ⟨ad, x, hA, hB, hx, _, g1, g2⟩ := (hi1.gat.below hbW.out (Nat.le_refl _)).get hlt
        obtain ⟨_, ⟨b0, b1⟩, b2, b3⟩ := hR.out x (List.mem_of_getElem? hx)
        clear hx
        obtain ⟨t, ht⟩ : ∃ t, told[k]? = some t := ⟨_, List.getElem?_eq_getElem (by rw [hXi.out.len]; exact hlt)⟩
        have ct : wr.cell? ⟨g, k, none⟩ = some (.bool t) := own_cell hXi.out.row (by unfold bvs; rw [List.getElem?_map, ht]; rfl)
        have s6 : wr.cell? ⟨w.heap.size, 6, none⟩ = some (.slice v.gat.A v.gat.n v.gat.c) := (q1.below hbW.out hlt1).cell 6
        rw [hA] at s6
        cases t
        case true =>
          go_wp2
          go_quiet (fail)
          go_wp2
          go_roundw
          case rel => exact ⟨k + 1, -1, hlt, by go_num, rfl, .inl rfl, hbi.trans (Dr.below ((Dr.refl _).more _) _)⟩
          case measure => simp [intOf]; omega
        have s0 : wr.cell? ⟨w.heap.size, 0, none⟩ = some (.int .i64 c.max) := (q1.below hbW.out hlt1).cell 0
        have s1 : wr.cell? ⟨w.heap.size, 1, none⟩ = some (.slice v.ins.A v.ins.n v.ins.c) := (q1.below hbW.out hlt1).cell 1
        have s2 : wr.cell? ⟨w.heap.size, 2, none⟩ = some (.slice v.lat.A v.lat.n v.lat.c) := (q1.below hbW.out hlt1).cell 2
        have s3 : wr.cell? ⟨w.heap.size, 3, none⟩ = some (.slice v.outs.A v.outs.n v.outs.c) := (q1.below hbW.out hlt1).cell 3
        have s4 : wr.cell? ⟨w.heap.size, 4, none⟩ = some (.slice v.bads.A v.bads.n v.bads.c) := (q1.below hbW.out hlt1).cell 4
        have s5 : wr.cell? ⟨w.heap.size, 5, none⟩ = some (.slice v.cons.A v.cons.n v.cons.c) := (q1.below hbW.out hlt1).cell 5
        have s7 : wr.cell? ⟨w.heap.size, 7, none⟩ = some (.slice v.sym.A v.sym.n v.sym.c) := (q1.below hbW.out hlt1).cell 7
        have s8 : wr.cell? ⟨w.heap.size, 8, none⟩ = some (.string v.com) := (q1.below hbW.out hlt1).cell 8
        go_wp2
        have hXd := hide (hXi.out.step (Dr.below (Dr.refl wr).drew _))
        have hbd := hide (hbi.trans (Dr.below (Dr.refl wr).drew wo.heap.size))
        refine wp_region_held_drew (S := fun W' => W'.cell? ⟨w.heap.size, 0, none⟩ = some (.int .i64 c.max) ∧ W'.cell? ⟨w.heap.size, 1, none⟩ = some (.slice v.ins.A v.ins.n v.ins.c) ∧ W'.cell? ⟨w.heap.size, 2, none⟩ = some (.slice v.lat.A v.lat.n v.lat.c) ∧ W'.cell? ⟨w.heap.size, 3, none⟩ = some (.slice v.outs.A v.outs.n v.outs.c) ∧ W'.cell? ⟨w.heap.size, 4, none⟩ = some (.slice v.bads.A v.bads.n v.bads.c) ∧ W'.cell? ⟨w.heap.size, 5, none⟩ = some (.slice v.cons.A v.cons.n v.cons.c) ∧ W'.cell? ⟨w.heap.size, 6, none⟩ = some (.slice (some ad) v.gat.n v.gat.c) ∧ W'.cell? ⟨w.heap.size, 7, none⟩ = some (.slice v.sym.A v.sym.n v.sym.c) ∧ W'.cell? ⟨w.heap.size, 8, none⟩ = some (.string v.com) ∧ W'.cell? ⟨(ad.add (k * 3)).block, (ad.add (k * 3)).off + 1, none⟩ = some (.int .i64 x.b) ∧ W'.cell? ⟨(ad.add (k * 3)).block, (ad.add (k * 3)).off + 2, none⟩ = some (.int .i64 x.c) ∧ W'.cell? ⟨g, k, none⟩ = some (.bool false)) (by kernel_rfl) ⟨s0, s1, s2, s3, s4, s5, s6, s7, s8, g1, g2, ct⟩ (fun hHeld => ?_)
        refine wpAnyH_take (i := 0) (v := ?_) rfl (by kernel_rfl) (by kernel_rfl) (by kernel_rfl) (fun _ _ _ h => h) (Or.inl ⟨by kernel_rfl, ?_⟩) (by assumption) ?_
        rotate_left
        · intro wz hSw; (try dsimp only at hSw); go_simp; (try with_reducible rfl)
        try simp only [Act.put, List.getElem_toArray, List.getElem_cons_succ, List.getElem_cons_zero, List.setIfInBounds_toArray, List.set_cons_zero, List.set_cons_succ]
        refine wpAnyH_take (i := 1) (v := ?_) rfl (by kernel_rfl) (by kernel_rfl) (by kernel_rfl) (fun _ _ _ h => h) (Or.inl ⟨by kernel_rfl, ?_⟩) (by assumption) ?_
        rotate_left
        · intro wz hSw; (try dsimp only at hSw); go_simp; (try with_reducible rfl)
        try simp only [Act.put, List.getElem_toArray, List.getElem_cons_succ, List.getElem_cons_zero, List.setIfInBounds_toArray, List.set_cons_zero, List.set_cons_succ]
        refine wpAnyH_take (i := 2) (v := ?_) rfl (by kernel_rfl) (by kernel_rfl) (by kernel_rfl) (fun _ _ _ h => h) (Or.inl ⟨by kernel_rfl, ?_⟩) (by assumption) ?_
        rotate_left
        · intro wz hSw; (try dsimp only at hSw); go_simp; (try with_reducible rfl)
        try simp only [Act.put, List.getElem_toArray, List.getElem_cons_succ, List.getElem_cons_zero, List.setIfInBounds_toArray, List.set_cons_zero, List.set_cons_succ]
        refine wpAnyH_take (i := 3) (v := ?_) rfl (by kernel_rfl) (by kernel_rfl) (by kernel_rfl) (fun _ _ _ h => h) (Or.inl ⟨by kernel_rfl, ?_⟩) (by assumption) ?_
        rotate_left
        · intro wz hSw; (try dsimp only at hSw); go_simp; (try with_reducible rfl)
        try simp only [Act.put, List.getElem_toArray, List.getElem_cons_succ, List.getElem_cons_zero, List.setIfInBounds_toArray, List.set_cons_zero, List.set_cons_succ]
        refine wpAnyH_take (i := 4) (v := ?_) rfl (by kernel_rfl) (by kernel_rfl) (by kernel_rfl) (fun _ _ _ h => h) (Or.inl ⟨by kernel_rfl, ?_⟩) (by assumption) ?_
        rotate_left
        · intro wz hSw; (try dsimp only at hSw); go_simp; (try with_reducible rfl)
        try simp only [Act.put, List.getElem_toArray, List.getElem_cons_succ, List.getElem_cons_zero, List.setIfInBounds_toArray, List.set_cons_zero, List.set_cons_succ]
        refine wpAnyH_take (i := 5) (v := ?_) rfl (by kernel_rfl) (by kernel_rfl) (by kernel_rfl) (fun _ _ _ h => h) (Or.inl ⟨by kernel_rfl, ?_⟩) (by assumption) ?_
        rotate_left
        · intro wz hSw; (try dsimp only at hSw); go_simp; (try with_reducible rfl)
        try simp only [Act.put, List.getElem_toArray, List.getElem_cons_succ, List.getElem_cons_zero, List.setIfInBounds_toArray, List.set_cons_zero, List.set_cons_succ]
        refine wpAnyH_take (i := 6) (v := ?_) rfl (by kernel_rfl) (by kernel_rfl) (by kernel_rfl) (fun _ _ _ h => h) (Or.inl ⟨by kernel_rfl, ?_⟩) (by assumption) ?_
        rotate_left
        · intro wz hSw; (try dsimp only at hSw); go_simp; (try with_reducible rfl)
        try simp only [Act.put, List.getElem_toArray, List.getElem_cons_succ, List.getElem_cons_zero, List.setIfInBounds_toArray, List.set_cons_zero, List.set_cons_succ]
        refine wpAnyH_take (i := 7) (v := ?_) rfl (by kernel_rfl) (by kernel_rfl) (by kernel_rfl) (fun _ _ _ h => h) (Or.inl ⟨by kernel_rfl, ?_⟩) (by assumption) ?_
        rotate_left
        · intro wz hSw; (try dsimp only at hSw); go_simp; (try with_reducible rfl)
        try simp only [Act.put, List.getElem_toArray, List.getElem_cons_succ, List.getElem_cons_zero, List.setIfInBounds_toArray, List.set_cons_zero, List.set_cons_succ]
        refine wpAnyH_take (i := 8) (v := ?_) rfl (by kernel_rfl) (by kernel_rfl) (by kernel_rfl) (fun _ _ _ h => h) (Or.inl ⟨by kernel_rfl, ?_⟩) (by assumption) ?_
        rotate_left
        · intro wz hSw; (try dsimp only at hSw); go_simp; (try with_reducible rfl)
        try simp only [Act.put, List.getElem_toArray, List.getElem_cons_succ, List.getElem_cons_zero, List.setIfInBounds_toArray, List.set_cons_zero, List.set_cons_succ]
        refine wpAnyH_take (i := 9) (v := ?_) rfl (by kernel_rfl) (by kernel_rfl) (by kernel_rfl) (fun _ _ _ h => h) (Or.inl ⟨by kernel_rfl, ?_⟩) (by assumption) ?_
        rotate_left
        · intro wz hSw; (try dsimp only at hSw); go_simp; (try with_reducible rfl)
        try simp only [Act.put, List.getElem_toArray, List.getElem_cons_succ, List.getElem_cons_zero, List.setIfInBounds_toArray, List.set_cons_zero, List.set_cons_succ]
        refine wpAnyH_take (i := 10) (v := ?_) rfl (by kernel_rfl) (by kernel_rfl) (by kernel_rfl) (fun _ _ _ h => h) (Or.inl ⟨by kernel_rfl, ?_⟩) (by assumption) ?_
        rotate_left
        · intro wz hSw; (try dsimp only at hSw); go_simp; (try with_reducible rfl)
        try simp only [Act.put, List.getElem_toArray, List.getElem_cons_succ, List.getElem_cons_zero, List.setIfInBounds_toArray, List.set_cons_zero, List.set_cons_succ]
        refine wpAnyH_take (i := 11) (v := ?_) rfl (by kernel_rfl) (by kernel_rfl) (by kernel_rfl) (fun _ _ _ h => h) (Or.inl ⟨by kernel_rfl, ?_⟩) (by assumption) ?_
        rotate_left
        · intro wz hSw; (try dsimp only at hSw); go_simp; (try with_reducible rfl)
        try simp only [Act.put, List.getElem_toArray, List.getElem_cons_succ, List.getElem_cons_zero, List.setIfInBounds_toArray, List.set_cons_zero, List.set_cons_succ]
        refine wpAnyH_take (i := 12) (v := ?_) rfl (by kernel_rfl) (by kernel_rfl) (by kernel_rfl) (fun _ _ _ h => h) (Or.inl ⟨by kernel_rfl, ?_⟩) (by assumption) ?_
        rotate_left
        · intro wz hSw; (try dsimp only at hSw); go_simp; (try with_reducible rfl)
        try simp only [Act.put, List.getElem_toArray, List.getElem_cons_succ, List.getElem_cons_zero, List.setIfInBounds_toArray, List.set_cons_zero, List.set_cons_succ]
        refine wpAnyH_take (i := 13) (v := ?_) rfl (by kernel_rfl) (by kernel_rfl) (by kernel_rfl) (fun _ _ _ h => h) (Or.inl ⟨by kernel_rfl, ?_⟩) (by assumption) ?_
        rotate_left
        · intro wz hSw; (try dsimp only at hSw); go_simp; (try with_reducible rfl)
        try simp only [Act.put, List.getElem_toArray, List.getElem_cons_succ, List.getElem_cons_zero, List.setIfInBounds_toArray, List.set_cons_zero, List.set_cons_succ]
        refine wpAnyH_ready (rs := [14]) (by kernel_rfl) (by simp) ?_
        refine AllReadyH.cons rfl (fun K hK => ?_) AllReadyH.nil
        go_simp
        go_wp2_with (go_at_call 150; refine (ref_waits ⟨v.ins, v.lat, v.outs, v.bads, v.cons, ⟨some ad, v.gat.n, v.gat.c⟩, v.sym, v.com⟩ c (some ⟨g, 0, none⟩) v.gat.n told x.b _ hg hR.out b0 b1 ((hi1.below hXd.out.bel (Nat.le_refl _)).gatA hA) (rd_row hXd.out.row)).mono ?_; rintro e w5 ⟨p, rfl, hb5⟩)
        have hX5 := hide (hXd.out.step hb5)
        have s0' := keepCell hb5 (w := wr.drew) s0
        have s1' := keepCell hb5 (w := wr.drew) s1
        have s2' := keepCell hb5 (w := wr.drew) s2
        have s3' := keepCell hb5 (w := wr.drew) s3
        have s4' := keepCell hb5 (w := wr.drew) s4
        have s5' := keepCell hb5 (w := wr.drew) s5
        have s6' := keepCell hb5 (w := wr.drew) s6
        have s7' := keepCell hb5 (w := wr.drew) s7
        have s8' := keepCell hb5 (w := wr.drew) s8
        have g1' := keepCell hb5 (w := wr.drew) g1
        have g2' := keepCell hb5 (w := wr.drew) g2
        have ct' := keepCell hb5 (w := wr.drew) ct
        have hb5 := hide (hbd.out.trans (hb5.mono hbd.out.size))
        refine hK.out _ _ ⟨s0', s1', s2', s3', s4', s5', s6', s7', s8', g1', g2', ct'⟩ (fun hHeld => ?_)
        clear hK K
        try simp only [Act.put, List.getElem_toArray, List.getElem_cons_succ, List.getElem_cons_zero, List.setIfInBounds_toArray, List.set_cons_zero, List.set_cons_succ]
        clear s0 s1 s2 s3 s4 s5 s6 s7 s8 g1 g2 ct
        cases p
        case false =>
          refine wpAnyH_take (i := 15) (v := ?_) rfl (by kernel_rfl) (by kernel_rfl) (by kernel_rfl) (fun _ _ _ h => h) (Or.inl ⟨by kernel_rfl, ?_⟩) (by assumption) ?_
          rotate_left
          · intro wz hSw; (try dsimp only at hSw); go_simp; (try with_reducible rfl)
          try simp only [Act.put, List.getElem_toArray, List.getElem_cons_succ, List.getElem_cons_zero, List.setIfInBounds_toArray, List.set_cons_zero, List.set_cons_succ]
          refine wpAnyH_take (i := 16) (v := ?_) rfl (by kernel_rfl) (by kernel_rfl) (by kernel_rfl) (fun _ _ _ h => h) (Or.inl ⟨by kernel_rfl, ?_⟩) (by assumption) ?_
          rotate_left
          · intro wz hSw; (try dsimp only at hSw); go_simp; (try with_reducible rfl)
          try simp only [Act.put, List.getElem_toArray, List.getElem_cons_succ, List.getElem_cons_zero, List.setIfInBounds_toArray, List.set_cons_zero, List.set_cons_succ]
          refine wpAnyH_take (i := 17) (v := ?_) rfl (by kernel_rfl) (by kernel_rfl) (by kernel_rfl) (fun _ _ _ h => h) (Or.inl ⟨by kernel_rfl, ?_⟩) (by assumption) ?_
          rotate_left
          · intro wz hSw; (try dsimp only at hSw); go_simp; (try with_reducible rfl)
          try simp only [Act.put, List.getElem_toArray, List.getElem_cons_succ, List.getElem_cons_zero, List.setIfInBounds_toArray, List.set_cons_zero, List.set_cons_succ]
          refine wpAnyH_take (i := 18) (v := ?_) rfl (by kernel_rfl) (by kernel_rfl) (by kernel_rfl) (fun _ _ _ h => h) (Or.inl ⟨by kernel_rfl, ?_⟩) (by assumption) ?_
          rotate_left
          · intro wz hSw; (try dsimp only at hSw); go_simp; (try with_reducible rfl)
          try simp only [Act.put, List.getElem_toArray, List.getElem_cons_succ, List.getElem_cons_zero, List.setIfInBounds_toArray, List.set_cons_zero, List.set_cons_succ]
          refine wpAnyH_take (i := 19) (v := ?_) rfl (by kernel_rfl) (by kernel_rfl) (by kernel_rfl) (fun _ _ _ h => h) (Or.inl ⟨by kernel_rfl, ?_⟩) (by assumption) ?_
          rotate_left
          · intro wz hSw; (try dsimp only at hSw); go_simp; (try with_reducible rfl)
          try simp only [Act.put, List.getElem_toArray, List.getElem_cons_succ, List.getElem_cons_zero, List.setIfInBounds_toArray, List.set_cons_zero, List.set_cons_succ]
          refine wpAnyH_take (i := 20) (v := ?_) rfl (by kernel_rfl) (by kernel_rfl) (by kernel_rfl) (fun _ _ _ h => h) (Or.inl ⟨by kernel_rfl, ?_⟩) (by assumption) ?_
          rotate_left
          · intro wz hSw; (try dsimp only at hSw); go_simp; (try with_reducible rfl)
          try simp only [Act.put, List.getElem_toArray, List.getElem_cons_succ, List.getElem_cons_zero, List.setIfInBounds_toArray, List.set_cons_zero, List.set_cons_succ]
          refine wpAnyH_take (i := 21) (v := ?_) rfl (by kernel_rfl) (by kernel_rfl) (by kernel_rfl) (fun _ _ _ h => h) (Or.inl ⟨by kernel_rfl, ?_⟩) (by assumption) ?_
          rotate_left
          · intro wz hSw; (try dsimp only at hSw); go_simp; (try with_reducible rfl)
          try simp only [Act.put, List.getElem_toArray, List.getElem_cons_succ, List.getElem_cons_zero, List.setIfInBounds_toArray, List.set_cons_zero, List.set_cons_succ]
          refine wpAnyH_take (i := 22) (v := ?_) rfl (by kernel_rfl) (by kernel_rfl) (by kernel_rfl) (fun _ _ _ h => h) (Or.inl ⟨by kernel_rfl, ?_⟩) (by assumption) ?_
          rotate_left
          · intro wz hSw; (try dsimp only at hSw); go_simp; (try with_reducible rfl)
          try simp only [Act.put, List.getElem_toArray, List.getElem_cons_succ, List.getElem_cons_zero, List.setIfInBounds_toArray, List.set_cons_zero, List.set_cons_succ]
          refine wpAnyH_take (i := 23) (v := ?_) rfl (by kernel_rfl) (by kernel_rfl) (by kernel_rfl) (fun _ _ _ h => h) (Or.inl ⟨by kernel_rfl, ?_⟩) (by assumption) ?_
          rotate_left
          · intro wz hSw; (try dsimp only at hSw); go_simp; (try with_reducible rfl)
          try simp only [Act.put, List.getElem_toArray, List.getElem_cons_succ, List.getElem_cons_zero, List.setIfInBounds_toArray, List.set_cons_zero, List.set_cons_succ]
          refine wpAnyH_take (i := 24) (v := ?_) rfl (by kernel_rfl) (by kernel_rfl) (by kernel_rfl) (fun _ _ _ h => h) (Or.inl ⟨by kernel_rfl, ?_⟩) (by assumption) ?_
          rotate_left
          · intro wz hSw; (try dsimp only at hSw); go_simp; (try with_reducible rfl)
          try simp only [Act.put, List.getElem_toArray, List.getElem_cons_succ, List.getElem_cons_zero, List.setIfInBounds_toArray, List.set_cons_zero, List.set_cons_succ]
          refine wpAnyH_take (i := 25) (v := ?_) rfl (by kernel_rfl) (by kernel_rfl) (by kernel_rfl) (fun _ _ _ h => h) (Or.inl ⟨by kernel_rfl, ?_⟩) (by assumption) ?_
          rotate_left
          · intro wz hSw; (try dsimp only at hSw); go_simp; (try with_reducible rfl)
          try simp only [Act.put, List.getElem_toArray, List.getElem_cons_succ, List.getElem_cons_zero, List.setIfInBounds_toArray, List.set_cons_zero, List.set_cons_succ]
          refine wpAnyH_ready (rs := [26]) (by kernel_rfl) (by simp) ?_
          refine AllReadyH.cons rfl (fun K hK => ?_) AllReadyH.nil
          go_simp
          go_wp2_with (go_at_call 150; refine (ref_waits ⟨v.ins, v.lat, v.outs, v.bads, v.cons, ⟨some ad, v.gat.n, v.gat.c⟩, v.sym, v.com⟩ c (some ⟨g, 0, none⟩) v.gat.n told x.c _ hg hR.out b2 b3 ((hi1.below hX5.out.bel (Nat.le_refl _)).gatA hA) (rd_row hX5.out.row)).mono ?_; rintro e w6 ⟨p2, rfl, hb6⟩)
          have hX6 := hide (hX5.out.step hb6)
          have s0 := keepCell hb6 s0'
          have s1 := keepCell hb6 s1'
          have s2 := keepCell hb6 s2'
          have s3 := keepCell hb6 s3'
          have s4 := keepCell hb6 s4'
          have s5 := keepCell hb6 s5'
          have s6 := keepCell hb6 s6'
          have s7 := keepCell hb6 s7'
          have s8 := keepCell hb6 s8'
          have g1 := keepCell hb6 g1'
          have g2 := keepCell hb6 g2'
          have ct := keepCell hb6 ct'
          have hb6 := hide (hb5.out.trans (hb6.mono hb5.out.size))
          refine hK.out _ _ ⟨s0, s1, s2, s3, s4, s5, s6, s7, s8, g1, g2, ct⟩ (fun hHeld => ?_)
          clear hK K
          try simp only [Act.put, List.getElem_toArray, List.getElem_cons_succ, List.getElem_cons_zero, List.setIfInBounds_toArray, List.set_cons_zero, List.set_cons_succ]
          clear s0' s1' s2' s3' s4' s5' s6' s7' s8' g1' g2' ct'
          refine wpAnyH_take (i := 27) (v := ?_) rfl (by kernel_rfl) (by kernel_rfl) (by kernel_rfl) (fun _ _ _ h => h) (Or.inl ⟨by kernel_rfl, ?_⟩) (by assumption) ?_
          rotate_left
          · intro wz hSw; (try dsimp only at hSw); go_simp; (try with_reducible rfl)
          try simp only [Act.put, List.getElem_toArray, List.getElem_cons_succ, List.getElem_cons_zero, List.setIfInBounds_toArray, List.set_cons_zero, List.set_cons_succ]
          refine wpAnyH_take (i := 28) (v := ?_) rfl (by kernel_rfl) (by kernel_rfl) (by kernel_rfl) (fun _ _ _ h => h) (Or.inl ⟨by kernel_rfl, ?_⟩) (by assumption) ?_
          rotate_left
          · intro wz hSw; (try dsimp only at hSw); go_simp; (try with_reducible rfl)
          try simp only [Act.put, List.getElem_toArray, List.getElem_cons_succ, List.getElem_cons_zero, List.setIfInBounds_toArray, List.set_cons_zero, List.set_cons_succ]
          refine wpAnyH_done (by kernel_rfl) ?_ _
          cases p2
          · go_wp2
            go_roundw
            case rel => exact ⟨k + 1, k, hlt, by go_num, rfl, .inr ⟨k, rfl, hlt, ht⟩, hb6.out⟩
            case measure => simp [intOf]; omega
          · go_wp2
            go_roundw
            case rel => exact ⟨k + 1, -1, hlt, by go_num, rfl, .inl rfl, hb6.out⟩
            case measure => simp [intOf]; omega
        case true =>
          refine wpAnyH_take (i := 15) (v := ?_) rfl (by kernel_rfl) (by kernel_rfl) (by kernel_rfl) (fun _ _ _ h => h) (Or.inl ⟨by kernel_rfl, ?_⟩) (by assumption) ?_
          rotate_left
          · intro wz hSw; (try dsimp only at hSw); go_simp; (try with_reducible rfl)
          try simp only [Act.put, List.getElem_toArray, List.getElem_cons_succ, List.getElem_cons_zero, List.setIfInBounds_toArray, List.set_cons_zero, List.set_cons_succ]
          refine wpAnyH_take (i := 16) (v := ?_) rfl (by kernel_rfl) (by kernel_rfl) (by kernel_rfl) (fun _ _ _ h => h) (Or.inl ⟨by kernel_rfl, ?_⟩) (by assumption) ?_
          rotate_left
          · intro wz hSw; (try dsimp only at hSw); go_simp; (try with_reducible rfl)
          try simp only [Act.put, List.getElem_toArray, List.getElem_cons_succ, List.getElem_cons_zero, List.setIfInBounds_toArray, List.set_cons_zero, List.set_cons_succ]
          refine wpAnyH_take (i := 17) (v := ?_) rfl (by kernel_rfl) (by kernel_rfl) (by kernel_rfl) (fun _ _ _ h => h) (Or.inl ⟨by kernel_rfl, ?_⟩) (by assumption) ?_
          rotate_left
          · intro wz hSw; (try dsimp only at hSw); go_simp; (try with_reducible rfl)
          try simp only [Act.put, List.getElem_toArray, List.getElem_cons_succ, List.getElem_cons_zero, List.setIfInBounds_toArray, List.set_cons_zero, List.set_cons_succ]
          refine wpAnyH_take (i := 18) rfl (by kernel_rfl) (by kernel_rfl) (by kernel_rfl) (fun _ _ _ h => h) (Or.inr ⟨by kernel_rfl, rfl⟩) (by assumption) ?_
          try simp only [Act.put, List.getElem_toArray, List.getElem_cons_succ, List.getElem_cons_zero, List.setIfInBounds_toArray, List.set_cons_zero, List.set_cons_succ]
          refine wpAnyH_take (i := 19) rfl (by kernel_rfl) (by kernel_rfl) (by kernel_rfl) (fun _ _ _ h => h) (Or.inr ⟨by kernel_rfl, rfl⟩) (by assumption) ?_
          try simp only [Act.put, List.getElem_toArray, List.getElem_cons_succ, List.getElem_cons_zero, List.setIfInBounds_toArray, List.set_cons_zero, List.set_cons_succ]
          refine wpAnyH_take (i := 20) rfl (by kernel_rfl) (by kernel_rfl) (by kernel_rfl) (fun _ _ _ h => h) (Or.inr ⟨by kernel_rfl, rfl⟩) (by assumption) ?_
          try simp only [Act.put, List.getElem_toArray, List.getElem_cons_succ, List.getElem_cons_zero, List.setIfInBounds_toArray, List.set_cons_zero, List.set_cons_succ]
          refine wpAnyH_take (i := 21) rfl (by kernel_rfl) (by kernel_rfl) (by kernel_rfl) (fun _ _ _ h => h) (Or.inr ⟨by kernel_rfl, rfl⟩) (by assumption) ?_
          try simp only [Act.put, List.getElem_toArray, List.getElem_cons_succ, List.getElem_cons_zero, List.setIfInBounds_toArray, List.set_cons_zero, List.set_cons_succ]
          refine wpAnyH_take (i := 22) rfl (by kernel_rfl) (by kernel_rfl) (by kernel_rfl) (fun _ _ _ h => h) (Or.inr ⟨by kernel_rfl, rfl⟩) (by assumption) ?_
          try simp only [Act.put, List.getElem_toArray, List.getElem_cons_succ, List.getElem_cons_zero, List.setIfInBounds_toArray, List.set_cons_zero, List.set_cons_succ]
          refine wpAnyH_take (i := 23) rfl (by kernel_rfl) (by kernel_rfl) (by kernel_rfl) (fun _ _ _ h => h) (Or.inr ⟨by kernel_rfl, rfl⟩) (by assumption) ?_
          try simp only [Act.put, List.getElem_toArray, List.getElem_cons_succ, List.getElem_cons_zero, List.setIfInBounds_toArray, List.set_cons_zero, List.set_cons_succ]
          refine wpAnyH_take (i := 24) rfl (by kernel_rfl) (by kernel_rfl) (by kernel_rfl) (fun _ _ _ h => h) (Or.inr ⟨by kernel_rfl, rfl⟩) (by assumption) ?_
          try simp only [Act.put, List.getElem_toArray, List.getElem_cons_succ, List.getElem_cons_zero, List.setIfInBounds_toArray, List.set_cons_zero, List.set_cons_succ]
          refine wpAnyH_take (i := 25) rfl (by kernel_rfl) (by kernel_rfl) (by kernel_rfl) (fun _ _ _ h => h) (Or.inr ⟨by kernel_rfl, rfl⟩) (by assumption) ?_
          try simp only [Act.put, List.getElem_toArray, List.getElem_cons_succ, List.getElem_cons_zero, List.setIfInBounds_toArray, List.set_cons_zero, List.set_cons_succ]
          refine wpAnyH_take (i := 26) rfl (by kernel_rfl) (by kernel_rfl) (by kernel_rfl) (fun _ _ _ h => h) (Or.inr ⟨by kernel_rfl, rfl⟩) (by assumption) ?_
          try simp only [Act.put, List.getElem_toArray, List.getElem_cons_succ, List.getElem_cons_zero, List.setIfInBounds_toArray, List.set_cons_zero, List.set_cons_succ]
          refine wpAnyH_take (i := 27) rfl (by kernel_rfl) (by kernel_rfl) (by kernel_rfl) (fun _ _ _ h => h) (Or.inr ⟨by kernel_rfl, rfl⟩) (by assumption) ?_
          try simp only [Act.put, List.getElem_toArray, List.getElem_cons_succ, List.getElem_cons_zero, List.setIfInBounds_toArray, List.set_cons_zero, List.set_cons_succ]
          refine wpAnyH_take (i := 28) (v := ?_) rfl (by kernel_rfl) (by kernel_rfl) (by kernel_rfl) (fun _ _ _ h => h) (Or.inl ⟨by kernel_rfl, ?_⟩) (by assumption) ?_
          rotate_left
          · intro wz hSw; (try dsimp only at hSw); go_simp; (try with_reducible rfl)
          try simp only [Act.put, List.getElem_toArray, List.getElem_cons_succ, List.getElem_cons_zero, List.setIfInBounds_toArray, List.set_cons_zero, List.set_cons_succ]
          refine wpAnyH_done (by kernel_rfl) ?_ _
          go_wp2
          go_roundw
          case rel => exact ⟨k + 1, -1, hlt, by go_num, rfl, .inl rfl, hb5.out⟩
          case measure => simp [intOf]; omega
end Go.Proofs.YtcjoohaagdihlaaDoor.Circ
