/- Contracts on how much a circuit holds, on its first states, and on what its gates wait for. -/
import Derived.Test.YtcjoohaagdihlaaDoorCircOpen
import Derived.Test.YtcjoohaagdihlaaDoorCubeHas
import Derived.Test.YtcjoohaagdihlaaDoorStart1
namespace Go.Proofs.YtcjoohaagdihlaaDoor.Circ
open Go.RowKit Go.Lt Go.Proofs.YtcjoohaagdihlaaDoor.Lit Go.Proofs.YtcjoohaagdihlaaDoor.CubeHas Go.Proofs.YtcjoohaagdihlaaDoor.CubeStart
set_option linter.unusedVariables false
set_option linter.unusedSimpArgs false

theorem made_empty (w : World) (base : Nat) (e : TypeId) (size : Nat) (h : base ≤ w.heap.size) : (w.alloc (.cells #[] e)).ownsRow base e size (.slice (some ⟨w.heap.size, 0, none⟩) 0 0) 0 [] :=
  ⟨by simp, .inr ⟨w.heap.size, 0, #[], rfl, h, heap_alloc_new w _, Nat.le_refl _, Nat.zero_le _, by simp, by simp⟩⟩
theorem info_b : (Tryd.prog.info? 4).map (fun i => (i.zero, i.size, i.bytes)) = some (some (.bool false), 1, 1) := by kernel_rfl
theorem info_i : (Tryd.prog.info? 3).map (fun i => (i.zero, i.size, i.bytes)) = some (some (.int .i64 0), 1, 8) := by kernel_rfl
theorem info_n : (Tryd.prog.info? 111).map (fun i => (i.zero, i.size, i.bytes)) = some (some (.agg #[.int .i64 0, .int .i64 0]), 2, 16) := by kernel_rfl
theorem bvs_app (a b : List Bool) : bvs (a ++ b) = bvs a ++ bvs b := by unfold bvs; rw [List.map_append]
theorem ivs_app (a b : List Int) : ivs (a ++ b) = ivs a ++ ivs b := by unfold ivs; rw [List.map_append]

/-- what a circuit of few of each is -/
structure FewOk (most : Int) (v : Cv) : Prop where
  ins : (v.ins.n : Int) ≤ most
  lat : (v.lat.n : Int) ≤ most
  gat : (v.gat.n : Int) ≤ most
  outs : (v.outs.n : Int) ≤ most
  bads : (v.bads.n : Int) ≤ most
  cons : (v.cons.n : Int) ≤ most
  sym : (v.sym.n : Int) ≤ most
def FewIs (most : Int) (v : Cv) (w : World) (e : Ending) (w' : World) : Prop := ∃ b : Bool, e = .returned (.bool b) ∧ Below w.heap.size w w' ∧ (b = true → FewOk most v)
theorem few_no {most : Int} {v : Cv} {w w' : World} (h : Below w.heap.size w w') : FewIs most v w (.returned (.bool false)) w' := ⟨false, rfl, h, fun h => by cases h⟩
theorem few_yes {most : Int} {v : Cv} {w w' : World} (h : Below w.heap.size w w') (h1 : FewOk most v) : FewIs most v w (.returned (.bool true)) w' := ⟨true, rfl, h, fun _ => h1⟩
set_option maxHeartbeats 4000000 in
theorem law_Few (m most : Int) (v : Cv) (w : World) :
    Calls Tryd.prog 82 #[.agg (cells9 m v), .int .i64 most] w (FewIs most v w) := by
  have hb := hide ((Below.refl w.heap.size w).alloc (Nat.le_refl _) (.cells (cells9 m v) 27))
  by_cases h0 : (v.ins.n : Int) ≤ most
  case neg =>
    have d0 : decide ((v.ins.n : Int) ≤ most) = false := by rw [decide_eq_false_iff_not]; exact h0
    clear h0
    go_enter Tryd.func82, Tryd.ntmps82
    go_wp2
    go_ret
    exact few_no hb.out
  have d0 : decide ((v.ins.n : Int) ≤ most) = true := by rw [decide_eq_true_iff]; exact h0
  have h0 := hide h0
  by_cases h1 : (v.lat.n : Int) ≤ most
  case neg =>
    have d1 : decide ((v.lat.n : Int) ≤ most) = false := by rw [decide_eq_false_iff_not]; exact h1
    clear h1
    go_enter Tryd.func82, Tryd.ntmps82
    go_wp2
    go_ret
    exact few_no hb.out
  have d1 : decide ((v.lat.n : Int) ≤ most) = true := by rw [decide_eq_true_iff]; exact h1
  have h1 := hide h1
  by_cases h2 : (v.gat.n : Int) ≤ most
  case neg =>
    have d2 : decide ((v.gat.n : Int) ≤ most) = false := by rw [decide_eq_false_iff_not]; exact h2
    clear h2
    go_enter Tryd.func82, Tryd.ntmps82
    go_wp2
    go_ret
    exact few_no hb.out
  have d2 : decide ((v.gat.n : Int) ≤ most) = true := by rw [decide_eq_true_iff]; exact h2
  have h2 := hide h2
  by_cases h3 : (v.outs.n : Int) ≤ most
  case neg =>
    have d3 : decide ((v.outs.n : Int) ≤ most) = false := by rw [decide_eq_false_iff_not]; exact h3
    clear h3
    go_enter Tryd.func82, Tryd.ntmps82
    go_wp2
    go_ret
    exact few_no hb.out
  have d3 : decide ((v.outs.n : Int) ≤ most) = true := by rw [decide_eq_true_iff]; exact h3
  have h3 := hide h3
  by_cases h4 : (v.bads.n : Int) ≤ most
  case neg =>
    have d4 : decide ((v.bads.n : Int) ≤ most) = false := by rw [decide_eq_false_iff_not]; exact h4
    clear h4
    go_enter Tryd.func82, Tryd.ntmps82
    go_wp2
    go_ret
    exact few_no hb.out
  have d4 : decide ((v.bads.n : Int) ≤ most) = true := by rw [decide_eq_true_iff]; exact h4
  have h4 := hide h4
  by_cases h5 : (v.cons.n : Int) ≤ most
  case neg =>
    have d5 : decide ((v.cons.n : Int) ≤ most) = false := by rw [decide_eq_false_iff_not]; exact h5
    clear h5
    go_enter Tryd.func82, Tryd.ntmps82
    go_wp2
    go_ret
    exact few_no hb.out
  have d5 : decide ((v.cons.n : Int) ≤ most) = true := by rw [decide_eq_true_iff]; exact h5
  have h5 := hide h5
  by_cases h6 : (v.sym.n : Int) ≤ most
  case neg =>
    have d6 : decide ((v.sym.n : Int) ≤ most) = false := by rw [decide_eq_false_iff_not]; exact h6
    clear h6
    go_enter Tryd.func82, Tryd.ntmps82
    go_wp2
    go_ret
    exact few_no hb.out
  have d6 : decide ((v.sym.n : Int) ≤ most) = true := by rw [decide_eq_true_iff]; exact h6
  have h6 := hide h6
  by_cases h7 : (v.com.size : Int) ≤ 300
  case neg =>
    have d7 : decide ((v.com.size : Int) ≤ 300) = false := by rw [decide_eq_false_iff_not]; exact h7
    have d8 : decide (v.com.size ≤ 300) = false := by rw [decide_eq_false_iff_not]; omega
    clear h7
    go_enter Tryd.func82, Tryd.ntmps82
    go_wp2
    go_ret
    exact few_no hb.out
  have d7 : decide ((v.com.size : Int) ≤ 300) = true := by rw [decide_eq_true_iff]; exact h7
  have d8 : decide (v.com.size ≤ 300) = true := by rw [decide_eq_true_iff]; omega
  clear h7
  go_enter Tryd.func82, Tryd.ntmps82
  go_wp2
  go_ret
  exact few_yes hb.out ⟨h0.out, h1.out, h2.out, h3.out, h4.out, h5.out, h6.out⟩

/-- whether a state may be the first one -/
def rsOf (l : List T3) : List Int := l.map T3.c
theorem rs_get {l : List T3} {k : Nat} {x : T3} (h : l[k]? = some x) : (rsOf l).getD k 0 = x.c := by
  unfold rsOf; rw [List.getD_eq_getElem?_getD, List.getElem?_map, h]; rfl
def okTo (rs : List Int) (b : List Bool) (k : Nat) : Prop := ∀ i, i < k → okB (rs.getD i 0) (b.getD i false) = true
theorem okTo_succ {rs : List Int} {b : List Bool} {k : Nat} (h : okTo rs b k) (h1 : okB (rs.getD k 0) (b.getD k false) = true) : okTo rs b (k + 1) := by
  intro i hi
  by_cases hik : i = k
  · subst hik; exact h1
  · exact h i (by omega)
theorem starts_yes {rs : List Int} {b : List Bool} (hl : b.length = rs.length) (h : okTo rs b rs.length) : true = startsB rs b := by
  unfold startsB
  rw [eq_comm, Bool.and_eq_true, decide_eq_true_iff, List.all_eq_true]
  exact ⟨hl, fun i hi => h i (List.mem_range.1 hi)⟩
theorem starts_no {rs : List Int} {b : List Bool} {k : Nat} (hk : k < rs.length) (h : okB (rs.getD k 0) (b.getD k false) = false) : false = startsB rs b := by
  unfold startsB
  rw [eq_comm, Bool.and_eq_false_iff]
  refine .inr ?_
  rw [List.all_eq_false]
  exact ⟨k, List.mem_range.2 hk, by rw [h]; simp⟩
theorem starts_len {rs : List Int} {b : List Bool} (hl : b.length ≠ rs.length) : false = startsB rs b := by
  unfold startsB
  rw [eq_comm, Bool.and_eq_false_iff]
  exact .inl (by simpa using hl)
set_option maxHeartbeats 4000000 in
theorem m_Starts (g : Nat) (A B : Option Addr) (n m c d : Nat) (lat : List T3) (b : List Bool) (w : World) (hn : n ≤ 1000) (hm : m ≤ 1000) (hc : w.cell? ⟨g, 2, none⟩ = some (.slice A n c)) (hr : RdT w A n lat) (hrb : Rd w B m (bvs b)) :
    Calls Tryd.prog 22 #[.pointer (some ⟨g, 0, none⟩), .slice B m d] w fun e w' => e = .returned (.bool (startsB (rsOf lat) b)) ∧ w = w' := by
  have hnI : (n : Int) ≤ 1000 := by omega
  have hmI : (m : Int) ≤ 1000 := by omega
  have hl := hide (show (rsOf lat).length = n by unfold rsOf; rw [List.length_map]; exact hr.1)
  have hlb := hide hrb.len
  clear hn hm
  by_cases hnm : m = n
  case neg =>
    have d1 : ((m : Int) != (n : Int)) = true := by simp; omega
    have hR := hide (starts_len (rs := rsOf lat) (b := b) (by rw [hl.out, hlb.out]; exact hnm))
    go_enter Tryd.func22, Tryd.ntmps22
    go_wp2
    go_ret
    exact ⟨ret_bool hR.out, rfl⟩
  subst hnm
  go_enter Tryd.func22, Tryd.ntmps22
  go_wp2
  go_loop [5] (fun i => ∃ k : Nat, k ≤ m ∧ i = .int .i64 k ∧ Hid (okTo (rsOf lat) b k)) (fun i => m - (intOf i).toNat)
  case atStart => exact ⟨0, Nat.zero_le _, rfl, hide (fun i h => absurd h (Nat.not_lt_zero _))⟩
  case round =>
    obtain ⟨k, hk, rfl, hall⟩ := hrel
    have hkI : (k : Int) ≤ 1000 := by omega
    by_cases hlt : k < m
    · obtain ⟨ad, x, rfl, hB, hx, c0, c1, c2⟩ := hr.get hlt
      obtain ⟨ad2, y, rfl, hB2, hy, hc2⟩ := hrb.get hlt
      have HY := hide (fun h => okTo_succ hall.out (show okB ((rsOf lat).getD k 0) (b.getD k false) = true by rw [rs_get hx, List.getD_eq_getElem?_getD, hy]; exact h))
      have HN := hide (fun h => starts_no (rs := rsOf lat) (b := b) (k := k) (by rw [hl.out]; exact hlt) (by rw [rs_get hx, List.getD_eq_getElem?_getD, hy]; exact h))
      obtain ⟨xa, xb, xc⟩ := x
      simp only at c2
      clear hx hy hall c0 c1
      simp only [Option.getD_some] at HY HN
      by_cases h0 : xc = 0
      · subst h0
        cases y
        · have H := hide (HY.out rfl)
          go_wp2
          go_round
          case rel => exact ⟨k + 1, hlt, by go_num, H⟩
          case measure => simp [intOf]; omega
        · have H := hide (HN.out rfl)
          go_wp2
          go_ret
          exact ⟨ret_bool H.out, rfl⟩
      · have e0 : (xc == 0) = false := by simpa using h0
        by_cases h1 : xc = 1
        · subst h1
          cases y
          · have H := hide (HN.out rfl)
            go_wp2
            go_ret
            exact ⟨ret_bool H.out, rfl⟩
          · have H := hide (HY.out rfl)
            go_wp2
            go_round
            case rel => exact ⟨k + 1, hlt, by go_num, H⟩
            case measure => simp [intOf]; omega
        · have e1 : (xc == 1) = false := by simpa using h1
          have H := hide (HY.out (by unfold okB; simp [h0, h1]))
          clear h0 h1
          go_wp2
          go_round
          case rel => exact ⟨k + 1, hlt, by go_num, H⟩
          case measure => simp [intOf]; omega
    · have hkn : k = m := by omega
      subst hkn
      have H := hide (starts_yes (rs := rsOf lat) (b := b) (by rw [hl.out, hlb.out]) (by rw [hl.out]; exact hall.out))
      clear hall
      go_wp2
      go_ret
      exact ⟨ret_bool H.out, rfl⟩
end Go.Proofs.YtcjoohaagdihlaaDoor.Circ
