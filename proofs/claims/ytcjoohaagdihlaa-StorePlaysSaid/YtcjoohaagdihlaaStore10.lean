/- A store's small functions: a new one, how many, a state's depth, a copy. -/
import Derived.Test.YtcjoohaagdihlaaStore6
import Derived.Test.YtcjoohaagdihlaaStore9
namespace Go.Proofs.Ytcjoohaagdihlaa.Kept
open Go.RowKit Go.Shelf Go.Lt Go.Proofs.Ytcjoohaagdihlaa.Lit Go.Proofs.Ytcjoohaagdihlaa.CubeHas Go.Proofs.Ytcjoohaagdihlaa.Cube
set_option linter.unusedVariables false
set_option linter.unusedSimpArgs false

/-- a store in memory of one's own: its cell, its row, what is kept -/
structure StL (base : Nat) (w : World) (p : Nat) (V : Value) (L : List Kv) (l : List Kc) : Prop where
  cell : Blk w p 118 #[V]
  row : w.ownsRow base 66 3 V L.length (encK L)
  all : AllO base w L l
  low : base ≤ p
theorem StL.keeps {base : Nat} {w : World} {p : Nat} {V : Value} {L : List Kv} {l : List Kc} (h : StL base w p V L l) : Keeps w.heap.size w (some ⟨p, 0, none⟩) L := by
  obtain ⟨A, c, hv, _, _, hr⟩ := RdK.of_own h.row
  refine .inr ⟨p, A, L.length, c, rfl, h.cell.lt, by rw [h.cell.cell, hv]; rfl, hr, fun a ha => ?_⟩
  rcases Nat.eq_zero_or_pos L.length with h0 | h0
  · rcases own_cases h.row with ⟨h1, _⟩ | ⟨g, cap, h1, _, h2, _⟩
    · rw [hv] at h1; injection h1 with h1; rw [h1] at ha; cases ha
    · rw [hv] at h1; injection h1 with h1; rw [h1] at ha; injection ha with ha; subst ha; exact h2
  · obtain ⟨ad, x, h1, h2, _⟩ := hr.2 0 h0
    rw [ha] at h1; injection h1 with h1; subst h1; exact h2
theorem StL.step {base : Nat} {w w' : World} {p : Nat} {V : Value} {L : List Kv} {l : List Kc} (h : StL base w p V L l) (hb : Below w.heap.size w w') : StL base w' p V L l :=
  ⟨h.cell.below hb h.cell.lt, own_keep h.row hb, h.all.step hb, h.low⟩
set_option maxRecDepth 8000 in
set_option maxHeartbeats 1000000 in
theorem store_New (w : World) : Calls Try.prog 39 #[] w fun e w' => e = .returned (.pointer (some ⟨w.heap.size, 0, none⟩)) ∧ StL w.heap.size w' w.heap.size (.slice none 0 0) [] [] ∧ Below w.heap.size w w' := by
  go_enter Try.func39, Try.ntmps39
  go_wp2
  go_ret
  exact ⟨rfl, ⟨Blk.new w _ _, ⟨rfl, .inl ⟨rfl, rfl⟩⟩, AllO.nil _ _, Nat.le_refl _⟩, (Below.refl _ _).alloc (Nat.le_refl _) _⟩
set_option maxRecDepth 8000 in
set_option maxHeartbeats 1000000 in
theorem store_Len (q : Option Addr) (L : List Kv) (n : Nat) (w : World) (hK : Keeps n w q L) (hL : L.length ≤ 1000000) : Calls Try.prog 48 #[.pointer q] w fun e w' => e = .returned (.int .i64 L.length) ∧ w = w' := by
  rcases hK with ⟨rfl, rfl⟩ | ⟨p, A, m, c, rfl, _, hc, hr, _⟩
  · go_enter Try.func48, Try.ntmps48
    go_wp2
    go_ret
    exact ⟨rfl, rfl⟩
  · have hl := hr.1
    subst hl
    go_enter Try.func48, Try.ntmps48
    go_wp2
    go_ret
    exact ⟨rfl, rfl⟩
/-- a state's depth -/
def depthL (l : List Kc) (s : List Bool) : Int := match bestN l s (List.range l.length) with | none => -1 | some j => (kcAt l j).d
set_option maxRecDepth 8000 in
set_option maxHeartbeats 2000000 in
theorem store_DepthE (q : Option Addr) (L : List Kv) (l : List Kc) (s : List Bool) (B : Option Addr) (m cd : Nat) (w : World) (hK : Keeps w.heap.size w q L) (hA : AllK w L l) (hrs : Rd w B m (bvs s)) (hm : L.length ≠ 0 → m ≤ 1000000) (hg : GoodL l) (hL : L.length ≤ 1000000) :
    Calls Try.prog 40 #[.pointer q, .slice B m cd] w fun e w' => e = .returned (.int .i64 (depthL l s)) ∧ Below w.heap.size w w' := by
  have hF := store_FindE q L l s B m cd w hK hA hrs hm hg hL
  rw [hA.1] at hF
  unfold depthL
  cases hb : bestN l s (List.range l.length) with
  | none =>
    rw [hb] at hF
    go_enter Try.func40, Try.ntmps40
    go_wp2_with fail
    refine hF.mono ?_
    rintro e w1 ⟨x, rfl, hd, _, _, hb1⟩
    have hd := hide hd
    have hB1 := hide hb1
    clear hb1
    simp only [Option.map_none, Option.isSome_none]
    go_wp2
    go_ret
    exact ⟨rfl, hB1.out.alloc hB1.out.size _⟩
  | some j =>
    rw [hb] at hF
    go_enter Try.func40, Try.ntmps40
    go_wp2_with fail
    refine hF.mono ?_
    rintro e w1 ⟨x, rfl, hd, _, _, hb1⟩
    have hd := hide hd
    have hB1 := hide hb1
    clear hb1
    simp only [Option.map_some, Option.isSome_some]
    go_wp2
    go_ret
    have e : (kcAt l j).d = x.d := hd.out.symm
    rw [e]
    exact ⟨rfl, hB1.out.alloc hB1.out.size _⟩
theorem store_Depth (q : Option Addr) (L : List Kv) (l : List Kc) (s : List Bool) (B : Option Addr) (m cd : Nat) (w : World) (hK : Keeps w.heap.size w q L) (hA : AllK w L l) (hrs : Rd w B m (bvs s)) (hm : m ≤ 1000000) (hg : GoodL l) (hL : L.length ≤ 1000000) :
    Calls Try.prog 40 #[.pointer q, .slice B m cd] w fun e w' => e = .returned (.int .i64 (depthL l s)) ∧ Below w.heap.size w w' :=
  store_DepthE q L l s B m cd w hK hA hrs (fun _ => hm) hg hL
def CloneIs (l : List Kc) (w : World) (e : Ending) (w' : World) : Prop := ∃ p V L, e = .returned (.pointer (some ⟨p, 0, none⟩)) ∧ StL w.heap.size w' p V L l ∧ Below w.heap.size w w'
set_option maxRecDepth 8000 in
set_option maxHeartbeats 2000000 in
theorem store_Clone (p : Nat) (L : List Kv) (l : List Kc) (w : World) (hK : Keeps w.heap.size w (some ⟨p, 0, none⟩) L) (hA : AllK w L l) (hg : GoodL l) (hL : L.length ≤ 1000000) :
    Calls Try.prog 47 #[.pointer (some ⟨p, 0, none⟩)] w (CloneIs l w) := by
  have hF := store_List (some ⟨p, 0, none⟩) L l w hK hA hg hL
  go_enter Try.func47, Try.ntmps47
  go_wp2_with fail
  refine hF.mono ?_
  rintro e w1 ⟨v, rfl, ⟨L', hrow, hall⟩, hb1⟩
  have hR := hide hrow
  have hAl := hide hall
  have hB1 := hide hb1
  obtain ⟨s, rfl, hs⟩ := own_sl hrow
  clear hrow hall hb1 hs hK hA
  go_wp2
  go_ret
  exact ⟨w1.heap.size, s.val, L', rfl, ⟨Blk.new w1 _ _, hR.out.alloc _, hAl.out.step ((Below.refl _ _).alloc (Nat.le_refl _) _), hB1.out.size⟩, hB1.out.alloc hB1.out.size _⟩
set_option maxRecDepth 8000 in
set_option maxHeartbeats 1000000 in
theorem store_Clone_nil (w : World) : Calls Try.prog 47 #[.pointer none] w fun e w' => e = .returned (.pointer none) ∧ w = w' := by
  go_enter Try.func47, Try.ntmps47
  go_wp2
  go_ret
  exact ⟨rfl, rfl⟩
end Go.Proofs.Ytcjoohaagdihlaa.Kept
