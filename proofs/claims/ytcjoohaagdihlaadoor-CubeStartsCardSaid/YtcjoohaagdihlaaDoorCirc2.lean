/- Contracts on the literals of a circuit: those that are something's, those that are used. -/
import Derived.Test.YtcjoohaagdihlaaDoorCirc1
import Derived.Test.YtcjoohaagdihlaaDoorOwn1
import Derived.Test.YtcjoohaagdihlaaDoorRegInv
namespace Go.Proofs.YtcjoohaagdihlaaDoor.Circ
open Go.RowKit Go.Lt Go.Proofs.YtcjoohaagdihlaaDoor.Lit
set_option linter.unusedVariables false
set_option linter.unusedSimpArgs false

/-- the numbers that a call answers -/
def ListIs (l : List Int) (w : World) (e : Ending) (w' : World) : Prop := ∃ A n k, e = .returned (.slice A n k) ∧ n ≤ k ∧ k ≤ maxLen ∧ Rd w' A n (ivs l) ∧ Below w.heap.size w w'
theorem listIs_of {l : List Int} {w W1 w' : World} {v : Value} {n : Nat} (h1 : Below w.heap.size w W1) (hown : w'.ownsRow W1.heap.size 3 1 v n (ivs l)) (h2 : Below W1.heap.size W1 w') : ListIs l w (.returned v) w' := by
  obtain ⟨A, c, rfl, hc1, hc2, hr⟩ := Rd.of_own hown
  exact ⟨A, n, c, rfl, hc1, hc2, hr, h1.trans (h2.mono h1.size)⟩
theorem snoc_a {l : List T3} {k : Nat} {x : T3} {f : T3 → Int} (p : List Int) (h : l[k]? = some x) : ivs (p ++ (l.take (k + 1)).map f) = ivs (p ++ (l.take k).map f) ++ [.int .i64 (f x)] := by
  rw [take_snoc f l k x h, ← List.append_assoc, ivs_app]; rfl
theorem snoc_2 {l : List T3} {k : Nat} {x : T3} (p : List Int) (h : l[k]? = some x) : ivs (p ++ (l.take (k + 1)).flatMap fun g => [g.b, g.c]) = ivs (p ++ (l.take k).flatMap fun g => [g.b, g.c]) ++ [.int .i64 x.b, .int .i64 x.c] := by
  rw [List.take_add_one, h, Option.toList_some, List.flatMap_append, ← List.append_assoc, ivs_app]; rfl

set_option maxHeartbeats 4000000 in
theorem ref_Owned (v : Cv) (c : Ci) (w : World) (hf : FewOk 30 v) (hi : CiIs w v c) :
    Calls Tryd.prog 126 #[.agg (cells9 c.max v)] w (ListIs (ownL c) w) := by
  have hb1 := (Below.refl w.heap.size w).alloc (Nat.le_refl _) (.cells (cells9 c.max v) 27)
  have q1 := Blk.new w 27 (cells9 c.max v)
  have hi1 := hi.below hb1 (Nat.le_refl _)
  obtain ⟨W1, hW1⟩ : ∃ W1, w.alloc (.cells (cells9 c.max v) 27) = W1 := ⟨_, rfl⟩
  rw [hW1] at hb1 q1 hi1
  have hlt1 : w.heap.size < W1.heap.size := q1.lt
  have h1 := hf.ins
  have h2 := hf.lat
  have h3 := hf.gat
  have h4 := hf.outs
  have h5 := hf.bads
  have h6 := hf.cons
  have hl2 := hide (show c.lat.take v.lat.n = c.lat from List.take_of_length_le (by rw [hi.lat.1]; exact Nat.le_refl _))
  have hl3 := hide (show c.gat.take v.gat.n = c.gat from List.take_of_length_le (by rw [hi.gat.1]; exact Nat.le_refl _))
  have hb1 := hide hb1
  clear hf hi
  go_enter Tryd.func126, Tryd.ntmps126
  have cI : (W1.alloc (.cells #[] 3)).cell? ⟨w.heap.size, 1, none⟩ = some (.slice v.ins.A v.ins.n v.ins.c) := (q1.alloc _).cell 1
  go_wp2_with (at_builtin; refine wpList_fresh rfl _ _ rfl (by first | rfl | simp [go_sem]) (by first | rfl | simp [go_sem]) hi1.ins (by omega) ?_; intro v2 w2 hown2 hb2)
  have hownP := hown2
  have hbP := hb2
  clear hown2 hb2
  go_wp2
  go_loopw [3, 4] (fun u i wr => ∃ k : Nat, k ≤ v.lat.n ∧ i = .int .i64 k ∧ wr.ownsRow W1.heap.size 3 1 u (v.ins.n + k) (ivs (c.ins ++ (c.lat.take k).map T3.a)) ∧ Below W1.heap.size W1 wr) (fun _ i _ => v.lat.n - (intOf i).toNat)
  case atStart => exact ⟨0, Nat.zero_le _, rfl, by simpa using hownP, hbP⟩
  case round =>
    obtain ⟨k, hk, rfl, hown, hb⟩ := hrel
    have hkI : (k : Int) ≤ 30 := by omega
    have cB : wr.cell? ⟨w.heap.size, 2, none⟩ = some (.slice v.lat.A v.lat.n v.lat.c) := (q1.below hb hlt1).cell 2
    obtain ⟨U, cU, rfl, _, _, _⟩ := Rd.of_own hown
    by_cases hlt : k < v.lat.n
    · obtain ⟨ad, x, hA, hB, hx, c0, c1, c2⟩ := (hi1.lat.below hb (Nat.le_refl _)).get hlt
      have hkn : (k : Int) < v.lat.n := by omega
      rw [hA] at cB
      have HS := hide (snoc_a (f := T3.a) (c.ins) hx)
      clear hx
      have h63 := hide (show v.ins.n + k + 1 ≤ maxLen by unfold maxLen; omega)
      have hby := hide (show (v.ins.n + k + 1) * 8 ≤ 140737488355328 by omega)
      go_wp2_with (at_builtin; refine wpList_pushG rfl _ _ _ rfl Tryd.underlying22 info_i rfl (by decide) rfl (by first | rfl | simp [go_sem]) hown hb (Nat.le_refl _) rfl (by simp [Value.oneCell']) h63.out hby.out ?_; intro v6 w6 hown6 hb6 hgr6)
      go_roundw
      case rel => exact ⟨k + 1, hlt, by go_num, by rw [HS.out]; exact hown6, hb6⟩
      case measure => simp [intOf]; omega
    · have hkn : k = v.lat.n := by omega
      have hkn' : ¬ (k : Int) < v.lat.n := by omega
      subst hkn
      rw [hl2.out] at hown
      have hownP := hide hown
      have hbP := hide hb
      clear hown hb
      have hownP := hownP.out
      have hbP := hbP.out
      go_wp2
      go_loopw [3, 5] (fun u i wr => ∃ k : Nat, k ≤ v.gat.n ∧ i = .int .i64 k ∧ wr.ownsRow W1.heap.size 3 1 u ((v.ins.n + v.lat.n) + k) (ivs (c.ins ++ c.lat.map T3.a ++ (c.gat.take k).map T3.a)) ∧ Below W1.heap.size W1 wr) (fun _ i _ => v.gat.n - (intOf i).toNat)
      case atStart => exact ⟨0, Nat.zero_le _, rfl, by simpa using hownP, hbP⟩
      case round =>
        obtain ⟨k, hk, rfl, hown, hb⟩ := hrel
        have hkI : (k : Int) ≤ 30 := by omega
        have cB : wr.cell? ⟨w.heap.size, 6, none⟩ = some (.slice v.gat.A v.gat.n v.gat.c) := (q1.below hb hlt1).cell 6
        obtain ⟨U, cU, rfl, _, _, _⟩ := Rd.of_own hown
        by_cases hlt : k < v.gat.n
        · obtain ⟨ad, x, hA, hB, hx, c0, c1, c2⟩ := (hi1.gat.below hb (Nat.le_refl _)).get hlt
          have hkn : (k : Int) < v.gat.n := by omega
          rw [hA] at cB
          have HS := hide (snoc_a (f := T3.a) (c.ins ++ c.lat.map T3.a) hx)
          clear hx
          have h63 := hide (show (v.ins.n + v.lat.n) + k + 1 ≤ maxLen by unfold maxLen; omega)
          have hby := hide (show ((v.ins.n + v.lat.n) + k + 1) * 8 ≤ 140737488355328 by omega)
          go_wp2_with (at_builtin; refine wpList_pushG rfl _ _ _ rfl Tryd.underlying22 info_i rfl (by decide) rfl (by first | rfl | simp [go_sem]) hown hb (Nat.le_refl _) rfl (by simp [Value.oneCell']) h63.out hby.out ?_; intro v6 w6 hown6 hb6 hgr6)
          go_roundw
          case rel => exact ⟨k + 1, hlt, by go_num, by rw [HS.out]; exact hown6, hb6⟩
          case measure => simp [intOf]; omega
        · have hkn : k = v.gat.n := by omega
          have hkn' : ¬ (k : Int) < v.gat.n := by omega
          subst hkn
          rw [hl3.out] at hown
          have hR := hide (listIs_of hb1.out hown hb)
          clear hown hb
          go_wp2
          go_ret
          exact hR.out

set_option maxHeartbeats 4000000 in
theorem ref_Used (v : Cv) (c : Ci) (w : World) (hf : FewOk 30 v) (hi : CiIs w v c) :
    Calls Tryd.prog 127 #[.agg (cells9 c.max v)] w (ListIs (usedL c) w) := by
  have hb1 := (Below.refl w.heap.size w).alloc (Nat.le_refl _) (.cells (cells9 c.max v) 27)
  have q1 := Blk.new w 27 (cells9 c.max v)
  have hi1 := hi.below hb1 (Nat.le_refl _)
  obtain ⟨W1, hW1⟩ : ∃ W1, w.alloc (.cells (cells9 c.max v) 27) = W1 := ⟨_, rfl⟩
  rw [hW1] at hb1 q1 hi1
  have hlt1 : w.heap.size < W1.heap.size := q1.lt
  have h1 := hf.ins
  have h2 := hf.lat
  have h3 := hf.gat
  have h4 := hf.outs
  have h5 := hf.bads
  have h6 := hf.cons
  have hl2 := hide (show c.lat.take v.lat.n = c.lat from List.take_of_length_le (by rw [hi.lat.1]; exact Nat.le_refl _))
  have hl3 := hide (show c.gat.take v.gat.n = c.gat from List.take_of_length_le (by rw [hi.gat.1]; exact Nat.le_refl _))
  have hb1 := hide hb1
  clear hf hi
  go_enter Tryd.func127, Tryd.ntmps127
  have cI : (W1.alloc (.cells #[] 3)).cell? ⟨w.heap.size, 3, none⟩ = some (.slice v.outs.A v.outs.n v.outs.c) := (q1.alloc _).cell 3
  go_wp2_with (at_builtin; first | (refine wpList_more rfl _ _ rfl (by first | rfl | simp [go_sem]) (by first | rfl | simp [go_sem]) hown3 hb3 hb3.size (hi1.cons.below hb3 (Nat.le_refl _)) (by omega) ?_; intro v4 w4 hown4 hb4; clear cb5 hown3) | (refine wpList_more rfl _ _ rfl (by first | rfl | simp [go_sem]) (by first | rfl | simp [go_sem]) hown2 hb2 hb2.size (hi1.bads.below hb2 (Nat.le_refl _)) (by omega) ?_; intro v3 w3 hown3 hb3; clear cb4 hown2; have cb5 : w3.cell? ⟨w.heap.size, 5, none⟩ = some (.slice v.cons.A v.cons.n v.cons.c) := (q1.below hb3 hlt1).cell 5) | (refine wpList_fresh rfl _ _ rfl (by first | rfl | simp [go_sem]) (by first | rfl | simp [go_sem]) hi1.outs (by omega) ?_; intro v2 w2 hown2 hb2; clear cI; have cb4 : w2.cell? ⟨w.heap.size, 4, none⟩ = some (.slice v.bads.A v.bads.n v.bads.c) := (q1.below hb2 hlt1).cell 4))
  have hownP := hown4
  have hbP := hb4
  clear hown4 hb4 hb2 hb3
  go_wp2
  go_loopw [3, 4] (fun u i wr => ∃ k : Nat, k ≤ v.lat.n ∧ i = .int .i64 k ∧ wr.ownsRow W1.heap.size 3 1 u ((v.outs.n + v.bads.n + v.cons.n) + k) (ivs (c.outs ++ c.bads ++ c.cons ++ (c.lat.take k).map T3.b)) ∧ Below W1.heap.size W1 wr) (fun _ i _ => v.lat.n - (intOf i).toNat)
  case atStart => exact ⟨0, Nat.zero_le _, rfl, by simpa using hownP, hbP⟩
  case round =>
    obtain ⟨k, hk, rfl, hown, hb⟩ := hrel
    have hkI : (k : Int) ≤ 30 := by omega
    have cB : wr.cell? ⟨w.heap.size, 2, none⟩ = some (.slice v.lat.A v.lat.n v.lat.c) := (q1.below hb hlt1).cell 2
    obtain ⟨U, cU, rfl, _, _, _⟩ := Rd.of_own hown
    by_cases hlt : k < v.lat.n
    · obtain ⟨ad, x, hA, hB, hx, c0, c1, c2⟩ := (hi1.lat.below hb (Nat.le_refl _)).get hlt
      have hkn : (k : Int) < v.lat.n := by omega
      rw [hA] at cB
      have HS := hide (snoc_a (f := T3.b) (c.outs ++ c.bads ++ c.cons) hx)
      clear hx
      have h63 := hide (show (v.outs.n + v.bads.n + v.cons.n) + k + 1 ≤ maxLen by unfold maxLen; omega)
      have hby := hide (show ((v.outs.n + v.bads.n + v.cons.n) + k + 1) * 8 ≤ 140737488355328 by omega)
      go_wp2_with (at_builtin; refine wpList_pushG rfl _ _ _ rfl Tryd.underlying22 info_i rfl (by decide) rfl (by first | rfl | simp [go_sem]) hown hb (Nat.le_refl _) rfl (by simp [Value.oneCell']) h63.out hby.out ?_; intro v6 w6 hown6 hb6 hgr6)
      go_roundw
      case rel => exact ⟨k + 1, hlt, by go_num, by rw [HS.out]; exact hown6, hb6⟩
      case measure => simp [intOf]; omega
    · have hkn : k = v.lat.n := by omega
      have hkn' : ¬ (k : Int) < v.lat.n := by omega
      subst hkn
      rw [hl2.out] at hown
      have hownP := hide hown
      have hbP := hide hb
      clear hown hb
      have hownP := hownP.out
      have hbP := hbP.out
      go_wp2
      go_loopw [3, 5] (fun u i wr => ∃ k : Nat, k ≤ v.gat.n ∧ i = .int .i64 k ∧ wr.ownsRow W1.heap.size 3 1 u ((v.outs.n + v.bads.n + v.cons.n + v.lat.n) + 2 * k) (ivs (c.outs ++ c.bads ++ c.cons ++ c.lat.map T3.b ++ (c.gat.take k).flatMap fun g => [g.b, g.c])) ∧ Below W1.heap.size W1 wr) (fun _ i _ => v.gat.n - (intOf i).toNat)
      case atStart => exact ⟨0, Nat.zero_le _, rfl, by simpa using hownP, hbP⟩
      case round =>
        obtain ⟨k, hk, rfl, hown, hb⟩ := hrel
        have hkI : (k : Int) ≤ 30 := by omega
        have cB : wr.cell? ⟨w.heap.size, 6, none⟩ = some (.slice v.gat.A v.gat.n v.gat.c) := (q1.below hb hlt1).cell 6
        obtain ⟨U, cU, rfl, _, _, _⟩ := Rd.of_own hown
        by_cases hlt : k < v.gat.n
        · obtain ⟨ad, x, hA, hB, hx, c0, c1, c2⟩ := (hi1.gat.below hb (Nat.le_refl _)).get hlt
          have hkn : (k : Int) < v.gat.n := by omega
          rw [hA] at cB
          have hxx := hide hx
          have HS := hide (snoc_2 (c.outs ++ c.bads ++ c.cons ++ c.lat.map T3.b) hx)
          clear hx
          go_wp2
          have hown := hide (Dr.own (a := wr) (b := wr.drew) ⟨1, rfl⟩ hown)
          have hb := hide (hb.trans ((Dr.refl wr).drew.below W1.heap.size))
          refine wp_region_held_drew (S := fun W' => W'.cell? ⟨w.heap.size, 6, none⟩ = some (.slice (some ad) v.gat.n v.gat.c) ∧ W'.cell? ⟨(ad.add (k * 3)).block, (ad.add (k * 3)).off + 1, none⟩ = some (.int .i64 x.b) ∧ W'.cell? ⟨(ad.add (k * 3)).block, (ad.add (k * 3)).off + 2, none⟩ = some (.int .i64 x.c)) (by kernel_rfl) ⟨cB, c1, c2⟩ (fun hHeld => ?_)
          refine wpAnyH_take (i := 0) (v := ?_) rfl (by kernel_rfl) (by kernel_rfl) (by kernel_rfl) (fun _ _ _ h => h) (Or.inl ⟨by kernel_rfl, ?_⟩) (by assumption) ?_
          rotate_left
          · intro wz hSw; (try dsimp only at hSw); go_simp; (try with_reducible rfl)
          try simp only [Act.put, List.getElem_toArray, List.getElem_cons_succ, List.getElem_cons_zero, List.setIfInBounds_toArray, List.set_cons_zero, List.set_cons_succ]
          refine wpAnyH_take (i := 1) (v := ?_) rfl (by kernel_rfl) (by kernel_rfl) (by kernel_rfl) (fun _ _ _ h => h) (Or.inl ⟨by kernel_rfl, ?_⟩) (by assumption) ?_
          rotate_left
          · intro wz hSw; (try dsimp only at hSw); go_simp; (try with_reducible rfl)
          try simp only [Act.put, List.getElem_toArray, List.getElem_cons_succ, List.getElem_cons_zero, List.setIfInBounds_toArray, List.set_cons_zero, List.set_cons_succ]
          refine wpAnyH_take (i := 2) (v := ?_) rfl (by kernel_rfl) (by kernel_rfl) (by kernel_rfl) (fun _ _ _ h => h) (Or.inl ⟨by kernel_rfl, ?_⟩) (by assumption) ?_
          rotate_left
          · intro wz hSw; (try dsimp only at hSw); go_simp; (try with_reducible rfl)
          try simp only [Act.put, List.getElem_toArray, List.getElem_cons_succ, List.getElem_cons_zero, List.setIfInBounds_toArray, List.set_cons_zero, List.set_cons_succ]
          refine wpAnyH_take (i := 3) (v := ?_) rfl (by kernel_rfl) (by kernel_rfl) (by kernel_rfl) (fun _ _ _ h => h) (Or.inl ⟨by kernel_rfl, ?_⟩) (by assumption) ?_
          rotate_left
          · intro wz hSw; (try dsimp only at hSw); go_simp; (try with_reducible rfl)
          try simp only [Act.put, List.getElem_toArray, List.getElem_cons_succ, List.getElem_cons_zero, List.setIfInBounds_toArray, List.set_cons_zero, List.set_cons_succ]
          refine wpAnyH_take (i := 4) (v := ?_) rfl (by kernel_rfl) (by kernel_rfl) (by kernel_rfl) (fun _ _ _ h => h) (Or.inl ⟨by kernel_rfl, ?_⟩) (by assumption) ?_
          rotate_left
          · intro wz hSw; (try dsimp only at hSw); go_simp; (try with_reducible rfl)
          try simp only [Act.put, List.getElem_toArray, List.getElem_cons_succ, List.getElem_cons_zero, List.setIfInBounds_toArray, List.set_cons_zero, List.set_cons_succ]
          refine wpAnyH_take (i := 5) (v := ?_) rfl (by kernel_rfl) (by kernel_rfl) (by kernel_rfl) (fun _ _ _ h => h) (Or.inl ⟨by kernel_rfl, ?_⟩) (by assumption) ?_
          rotate_left
          · intro wz hSw; (try dsimp only at hSw); go_simp; (try with_reducible rfl)
          try simp only [Act.put, List.getElem_toArray, List.getElem_cons_succ, List.getElem_cons_zero, List.setIfInBounds_toArray, List.set_cons_zero, List.set_cons_succ]
          refine wpAnyH_take (i := 6) (v := ?_) rfl (by kernel_rfl) (by kernel_rfl) (by kernel_rfl) (fun _ _ _ h => h) (Or.inl ⟨by kernel_rfl, ?_⟩) (by assumption) ?_
          rotate_left
          · intro wz hSw; (try dsimp only at hSw); go_simp; (try with_reducible rfl)
          try simp only [Act.put, List.getElem_toArray, List.getElem_cons_succ, List.getElem_cons_zero, List.setIfInBounds_toArray, List.set_cons_zero, List.set_cons_succ]
          refine wpAnyH_take (i := 7) (v := ?_) rfl (by kernel_rfl) (by kernel_rfl) (by kernel_rfl) (fun _ _ _ h => h) (Or.inl ⟨by kernel_rfl, ?_⟩) (by assumption) ?_
          rotate_left
          · intro wz hSw; (try dsimp only at hSw); go_simp; (try with_reducible rfl)
          try simp only [Act.put, List.getElem_toArray, List.getElem_cons_succ, List.getElem_cons_zero, List.setIfInBounds_toArray, List.set_cons_zero, List.set_cons_succ]
          refine wpAnyH_take (i := 8) (v := ?_) rfl (by kernel_rfl) (by kernel_rfl) (by kernel_rfl) (fun _ _ _ h => h) (Or.inl ⟨by kernel_rfl, ?_⟩) (by assumption) ?_
          rotate_left
          · intro wz hSw; (try dsimp only at hSw); go_simp; (try with_reducible rfl)
          try simp only [Act.put, List.getElem_toArray, List.getElem_cons_succ, List.getElem_cons_zero, List.setIfInBounds_toArray, List.set_cons_zero, List.set_cons_succ]
          refine wpAnyH_take (i := 9) (v := ?_) rfl (by kernel_rfl) (by kernel_rfl) (by kernel_rfl) (fun _ _ _ h => h) (Or.inl ⟨by kernel_rfl, ?_⟩) (by assumption) ?_
          rotate_left
          · intro wz hSw; (try dsimp only at hSw); go_simp; (try with_reducible rfl)
          try simp only [Act.put, List.getElem_toArray, List.getElem_cons_succ, List.getElem_cons_zero, List.setIfInBounds_toArray, List.set_cons_zero, List.set_cons_succ]
          refine wpAnyH_take (i := 10) (v := ?_) rfl (by kernel_rfl) (by kernel_rfl) (by kernel_rfl) (fun _ _ _ h => h) (Or.inl ⟨by kernel_rfl, ?_⟩) (by assumption) ?_
          rotate_left
          · intro wz hSw; (try dsimp only at hSw); go_simp; (try with_reducible rfl)
          try simp only [Act.put, List.getElem_toArray, List.getElem_cons_succ, List.getElem_cons_zero, List.setIfInBounds_toArray, List.set_cons_zero, List.set_cons_succ]
          refine wpAnyH_take (i := 11) (v := ?_) rfl (by kernel_rfl) (by kernel_rfl) (by kernel_rfl) (fun _ _ _ h => h) (Or.inl ⟨by kernel_rfl, ?_⟩) (by assumption) ?_
          rotate_left
          · intro wz hSw; (try dsimp only at hSw); go_simp; (try with_reducible rfl)
          try simp only [Act.put, List.getElem_toArray, List.getElem_cons_succ, List.getElem_cons_zero, List.setIfInBounds_toArray, List.set_cons_zero, List.set_cons_succ]
          refine wpAnyH_take (i := 12) (v := ?_) rfl (by kernel_rfl) (by kernel_rfl) (by kernel_rfl) (fun _ _ _ h => h) (Or.inl ⟨by kernel_rfl, ?_⟩) (by assumption) ?_
          rotate_left
          · intro wz hSw; (try dsimp only at hSw); go_simp; (try with_reducible rfl)
          try simp only [Act.put, List.getElem_toArray, List.getElem_cons_succ, List.getElem_cons_zero, List.setIfInBounds_toArray, List.set_cons_zero, List.set_cons_succ]
          refine wpAnyH_ready (rs := [13]) (by kernel_rfl) (by simp) ?_
          refine AllReadyH.cons rfl (fun K hK => ?_) AllReadyH.nil
          go_simp
          have hs1 : ((wr.drew).alloc (.cells #[.int .i64 x.b, .int .i64 x.c] 3)).cell? ⟨w.heap.size, 6, none⟩ = some (.slice (some ad) v.gat.n v.gat.c) := (World.cell?_alloc_lt _ _ _ (World.block_lt_of_cell? _ _ cB)).trans cB
          have hs2 : ((wr.drew).alloc (.cells #[.int .i64 x.b, .int .i64 x.c] 3)).cell? ⟨(ad.add (k * 3)).block, (ad.add (k * 3)).off + 1, none⟩ = some (.int .i64 x.b) := (World.cell?_alloc_lt _ _ _ (World.block_lt_of_cell? _ _ c1)).trans c1
          have hs3 : ((wr.drew).alloc (.cells #[.int .i64 x.b, .int .i64 x.c] 3)).cell? ⟨(ad.add (k * 3)).block, (ad.add (k * 3)).off + 2, none⟩ = some (.int .i64 x.c) := (World.cell?_alloc_lt _ _ _ (World.block_lt_of_cell? _ _ c2)).trans c2
          have hown2 := hide (hown.out.alloc (.cells #[.int .i64 x.b, .int .i64 x.c] 3))
          have hb2 := hide (hb.out.alloc hb.out.size (.cells #[.int .i64 x.b, .int .i64 x.c] 3))
          have hrd := hide (show RdS ((wr.drew).alloc (.cells #[.int .i64 x.b, .int .i64 x.c] 3)) (some ⟨wr.heap.size, 0, none⟩) 2 1 [.int .i64 x.b, .int .i64 x.c] from lit2_rdS wr.drew _ _ _)
          refine hK.out _ _ ⟨hs1, hs2, hs3⟩ (fun hHeld => ?_)
          clear hK K
          try simp only [Act.put, List.getElem_toArray, List.getElem_cons_succ, List.getElem_cons_zero, List.setIfInBounds_toArray, List.set_cons_zero, List.set_cons_succ]
          refine wpAnyH_ready (rs := [14]) (by kernel_rfl) (by simp) ?_
          refine AllReadyH.cons rfl (fun K hK => ?_) AllReadyH.nil
          refine step_append_rdS rfl (.tmp 41) (.tmp 54) 22 rfl Tryd.underlying22 info_i rfl (by decide) rfl rfl hown2.out hb2.out.size hrd.out (by intro u hu; simp at hu; rcases hu with rfl | rfl <;> rfl) (by unfold maxLen; omega) (by omega) ?_
          intro v7 w7 hown7 hgr7
          have hb7 := hb2.out.grown hgr7 hb2.out.size (fun k hk => (hown2.out.lt k hk).1)
          have ht1 : w7.cell? ⟨w.heap.size, 6, none⟩ = some (.slice (some ad) v.gat.n v.gat.c) := by
            have := (q1.below hb7 hlt1).cell 6
            rw [this]; show some (Value.slice v.gat.A v.gat.n v.gat.c) = _; rw [hA]
          have ht2 := (hi1.gat.below hb7 (Nat.le_refl _)).get hlt
          obtain ⟨ad', x', hA', _, hx', e0, e1, e2⟩ := ht2
          rw [hA] at hA'
          injection hA' with hA'
          subst hA'
          rw [hxx.out] at hx'
          injection hx' with hx'
          subst hx'
          refine hK.out _ _ ⟨ht1, e1, e2⟩ (fun hHeld => ?_)
          clear hK K
          try simp only [Act.put, List.getElem_toArray, List.getElem_cons_succ, List.getElem_cons_zero, List.setIfInBounds_toArray, List.set_cons_zero, List.set_cons_succ]
          refine wpAnyH_take (i := 15) (v := ?_) rfl (by kernel_rfl) (by kernel_rfl) (by kernel_rfl) (fun _ _ _ h => h) (Or.inl ⟨by kernel_rfl, ?_⟩) (by assumption) ?_
          rotate_left
          · intro wz hSw; (try dsimp only at hSw); go_simp; (try with_reducible rfl)
          try simp only [Act.put, List.getElem_toArray, List.getElem_cons_succ, List.getElem_cons_zero, List.setIfInBounds_toArray, List.set_cons_zero, List.set_cons_succ]
          refine wpAnyH_done (by kernel_rfl) ?_ _
          go_wp2
          go_roundw
          case rel => exact ⟨k + 1, hlt, by go_num, by rw [HS.out]; exact hown7, hb7⟩
          case measure => simp [intOf]; omega
        · have hkn : k = v.gat.n := by omega
          have hkn' : ¬ (k : Int) < v.gat.n := by omega
          subst hkn
          rw [hl3.out] at hown
          have hR := hide (listIs_of hb1.out hown hb)
          clear hown hb
          go_wp2
          go_ret
          exact hR.out
