/- A cube that is put to a store. -/
import Derived.Test.YtcjoohaagdihlaaStore10a
import Derived.Test.YtcjoohaagdihlaaNorm2
namespace Go.Proofs.Ytcjoohaagdihlaa.Kept
open Go.RowKit Go.Shelf Go.Lt Go.Proofs.Ytcjoohaagdihlaa.Lit Go.Proofs.Ytcjoohaagdihlaa.CubeHas Go.Proofs.Ytcjoohaagdihlaa.Cube Go.Proofs.Ytcjoohaagdihlaa.Sorted
set_option linter.unusedVariables false
set_option linter.unusedSimpArgs false
attribute [local go_sem] Oper.semAt_some

/-- one that is kept makes a new one needless -/
def refuses (n : List Int) (dep : Int) (k : Kc) : Bool := decide (k.d ≤ dep) && covB k.c n
def addB (l : List Kc) (cl : List Int) (dep : Int) : Bool := normB cl && decide (0 ≤ dep) && !(l.any (refuses (srt cl) dep))
def addL (l : List Kc) (cl : List Int) (dep : Int) (il : List Bool) : List Kc := if addB l cl dep then (l.filter fun k => !strikes dep (srt cl) k) ++ [⟨srt cl, dep, il⟩] else l
def NewK (n : Nat) (x : Kv) : Prop := (∀ g, x.c.val.ownBlock = some g → n ≤ g) ∧ (∀ g, x.i.val.ownBlock = some g → n ≤ g)
def AddIs (base p : Nat) (V : Value) (L : List Kv) (l : List Kc) (cl : List Int) (dep : Int) (il : List Bool) (w : World) (e : Ending) (w' : World) : Prop :=
  ∃ V' L', e = .returned (.bool (addB l cl dep)) ∧ StL base w' p V' L' (addL l cl dep il) ∧ Fr (fun k => k = p ∨ V.ownBlock = some k) w w' ∧ (∀ x ∈ L', x ∈ L ∨ NewK w.heap.size x) ∧ (∀ g, V'.ownBlock = some g → V.ownBlock = some g ∨ w.heap.size ≤ g)
theorem addIs_no {base p : Nat} {V : Value} {L : List Kv} {l : List Kc} {cl : List Int} {dep : Int} {il : List Bool} {w w' : World} (h : addB l cl dep = false) (hS : StL base w p V L l) (hb : Below w.heap.size w w') : AddIs base p V L l cl dep il w (.returned (.bool false)) w' :=
  ⟨V, L, by rw [h], by unfold addL; rw [h]; exact hS.step hb, Fr.of_below hb, fun x hx => .inl hx, fun g hg => .inl hg⟩
/-- what is known between the rounds -/
structure Gx (w : World) (dep : Int) (N9 : Nat) (s : Sl) (n : List Int) (W : World) : Prop where
  bel : Below w.heap.size w W
  b6 : Blk W w.heap.size 3 #[.int .i64 dep]
  b8 : Blk W (w.heap.size + 1) 4 #[.bool false]
  b9 : Blk W N9 40 #[s.val]
  row : W.ownsRow w.heap.size 3 1 s.val (ivs n).length (ivs n)
  n9 : w.heap.size + 2 ≤ N9
theorem Gx.step {w W W' : World} {dep : Int} {N9 : Nat} {s : Sl} {n : List Int} (h : Gx w dep N9 s n W) (hb : Below W.heap.size W W') : Gx w dep N9 s n W' :=
  ⟨h.bel.trans (hb.mono h.bel.size), h.b6.below hb h.b6.lt, h.b8.below hb h.b8.lt, h.b9.below hb h.b9.lt, own_keep h.row hb, h.n9⟩
theorem own_own {w w' : World} {n e size k : Nat} {x : Value} {xs : List Value} {row : Option Nat} (hx : w.ownsRow n e size x k xs) (hg : w.grownBy w' row) (hr : ∀ r, row = some r → ∃ o : Obj, w.heap[r]? = some o ∧ o.isCells = false) : w'.ownsRow n e size x k xs := by
  refine hx.kept hg ?_
  cases hv : x.ownBlock with
  | none => exact .inl rfl
  | some g =>
    right
    intro he
    obtain ⟨ob, ho, hc⟩ := hr g he.symm
    obtain ⟨cs', hb'⟩ := own_blk hx hv
    unfold Blk at hb'
    rw [hb'] at ho
    injection ho with ho
    subst ho
    cases hc
theorem Gx.own {w W W' : World} {dep : Int} {N9 : Nat} {s : Sl} {n : List Int} {row : Option Nat} {m : Nat} (h : Gx w dep N9 s n W) (hn : w.heap.size ≤ m) (hg : W.grownBy W' row) (hr : ∀ r, row = some r → m ≤ r ∧ ∃ o : Obj, W.heap[r]? = some o ∧ o.isCells = false) : Gx w dep N9 s n W' :=
  have hr' : ∀ r, row = some r → ∃ o : Obj, W.heap[r]? = some o ∧ o.isCells = false := fun r e => (hr r e).2
  ⟨h.bel.grown hg h.bel.size (fun k e => Nat.le_trans hn (hr k e).1), blk_own h.b6 hg hr', blk_own h.b8 hg hr', blk_own h.b9 hg hr', own_own h.row hg hr', h.n9⟩
theorem kvAt_mem {L : List Kv} {j : Nat} (h : j < L.length) : kvAt L j ∈ L := by
  have : kvAt L j = L[j] := by simp [kvAt, List.getD, h]
  rw [this]; exact List.getElem_mem _
theorem mem_kvAt {L : List Kv} {x : Kv} (h : x ∈ L) : ∃ j, j < L.length ∧ kvAt L j = x := by
  obtain ⟨j, hj, e⟩ := List.getElem_of_mem h
  exact ⟨j, hj, by simp [kvAt, List.getD, hj, e]⟩
theorem Rw.far8 {base g : Nat} {w : World} {v u : Value} {L : List Kv} {l : List Kc} {cs : Array Value} (h : Rw base w v L l) (hb : Blk w g 4 cs) (hx : ∀ x ∈ L, x.i.val.ownBlock ≠ some g) : Rw base (w.setCell ⟨g, 0, none⟩ u) v L l :=
  ⟨own_off h.own (grownBy_setCell' w g u) (fun g' e => by cases e; exact ⟨_, cs, hb, by decide⟩), h.all.1, fun j hj => ⟨(h.all.2 j hj).d, own_off (h.all.2 j hj).c (grownBy_setCell' w g u) (fun g' e => by cases e; exact ⟨_, cs, hb, by decide⟩), ownsRow_setCell_other (h.all.2 j hj).i (hx _ (kvAt_mem hj)) u⟩⟩
theorem Rw.grown {base : Nat} {w w' : World} {v : Value} {L : List Kv} {l : List Kc} {row : Option Nat} (h : Rw base w v L l) (hg : w.grownBy w' row) (hr : ∀ r, row = some r → ∃ o : Obj, w.heap[r]? = some o ∧ o.isCells = false) : Rw base w' v L l :=
  ⟨own_own h.own hg hr, h.all.1, fun j hj => ⟨(h.all.2 j hj).d, own_own (h.all.2 j hj).c hg hr, own_own (h.all.2 j hj).i hg hr⟩⟩
/-- what is known behind the deleting -/
structure Ay (w : World) (p D : Nat) (V : Value) (dep : Int) (N9 : Nat) (s : Sl) (n : List Int) (u : Value) (W : World) : Prop where
  fr : Fr (fun k => k = p ∨ V.ownBlock = some k) w W
  b6 : Blk W w.heap.size 3 #[.int .i64 dep]
  b8 : Blk W (w.heap.size + 1) 4 #[.bool false]
  b9 : Blk W N9 40 #[s.val]
  bp : Blk W p 118 #[u]
  row : W.ownsRow w.heap.size 3 1 s.val (ivs n).length (ivs n)
  dd : W.heap[D]? = some (.deferred (some []))
theorem Ay.step {w W W' : World} {p D : Nat} {V u : Value} {dep : Int} {N9 : Nat} {s : Sl} {n : List Int} (h : Ay w p D V dep N9 s n u W) (hb : Below W.heap.size W W') : Ay w p D V dep N9 s n u W' :=
  ⟨h.fr.trans (Fr.of_below hb), h.b6.below hb h.b6.lt, h.b8.below hb h.b8.lt, h.b9.below hb h.b9.lt, h.bp.below hb h.bp.lt, own_keep h.row hb, (hb.block D (Array.getElem?_eq_some_iff.1 h.dd).1).trans h.dd⟩
theorem blk_cells_ne {W : World} {g D : Nat} {t : TypeId} {cs : Array Value} {x} (h : Blk W g t cs) (hd : W.heap[D]? = some (.deferred x)) : D ≠ g := by
  rintro rfl
  unfold Blk at h
  rw [hd] at h
  cases h
theorem blk_blk_ne {W : World} {g h : Nat} {t t' : TypeId} {cs cs' : Array Value} (h1 : Blk W g t cs) (h2 : Blk W h t' cs') (hne : t ≠ t') : g ≠ h := by
  rintro rfl
  unfold Blk at h1 h2
  rw [h1] at h2
  injection h2 with h2
  injection h2 with _ h2
  exact hne h2
theorem Ay.put {w W : World} {p D : Nat} {V u : Value} {dep : Int} {N9 : Nat} {s : Sl} {n : List Int} (h : Ay w p D V dep N9 s n u W) (v : Value) : Ay w p D V dep N9 s n v (W.setCell ⟨p, 0, none⟩ v) :=
  ⟨h.fr.trans ⟨rfl, rfl, rfl, by simp, fun k hk hS => Below.heap_setCell _ _ _ _ (fun e => hS (.inl e))⟩, h.b6.far (blk_blk_ne h.b6 h.bp (by decide)) _, h.b8.far (blk_blk_ne h.b8 h.bp (by decide)) _, h.b9.far (blk_blk_ne h.b9 h.bp (by decide)) _, by simpa using h.bp.set_ 0 v,
    own_off h.row (grownBy_setCell' _ _ _) (fun g e => by cases e; exact ⟨_, _, h.bp, by decide⟩), (Below.heap_setCell _ _ _ _ (blk_cells_ne h.bp h.dd)).trans h.dd⟩
theorem Ay.app {w W W' : World} {p D b m : Nat} {V u v : Value} {dep : Int} {N9 : Nat} {s : Sl} {n : List Int} {xs : List Value} (h : Ay w p D V dep N9 s n u W) (hg : W.grownBy W' v.ownBlock) (hv : W.ownsRow b 66 3 v m xs) (hV : v.ownBlock = V.ownBlock) : Ay w p D V dep N9 s n u W' :=
  ⟨h.fr.trans (Fr.of_grown hg (fun k e => .inl (.inr (hV ▸ e)))), h.b6.grown hg (own_blk_ne hv h.b6 (by decide)), h.b8.grown hg (own_blk_ne hv h.b8 (by decide)), h.b9.grown hg (own_blk_ne hv h.b9 (by decide)), h.bp.grown hg (own_blk_ne hv h.bp (by decide)),
    own_off h.row hg (fun g e => by obtain ⟨cs, hb⟩ := own_blk hv e; exact ⟨_, cs, hb, by decide⟩), (hg.block D (Array.getElem?_eq_some_iff.1 h.dd).1 (fun e => by obtain ⟨cs, hb⟩ := own_blk hv e.symm; exact blk_cells_ne hb h.dd rfl)).trans h.dd⟩
set_option maxRecDepth 8000 in
set_option maxHeartbeats 4000000 in
theorem store_Add (p base : Nat) (V : Value) (L : List Kv) (l : List Kc) (A : Option Addr) (n cc : Nat) (cl : List Int) (dep : Int) (iA : Option Addr) (im ic : Nat) (il : List Bool) (w : World) (hS : StL base w p V L l) (hrc : Rd w A n (ivs cl)) (hn : n ≤ 1000)
    (hri : Rd w iA im (bvs il)) (him : im ≤ 100000) (hg : GoodL l) (hL : L.length ≤ 100000) (hin : im = 0 ∨ ∀ ad, iA = some ad → ad.block ≠ p ∧ V.ownBlock ≠ some ad.block) (hbase : base ≤ w.heap.size) :
    Calls Try.prog 41 #[.pointer (some ⟨p, 0, none⟩), .slice A n cc, .int .i64 dep, .slice iA im ic] w (AddIs base p V L l cl dep il w) := by
  have hN := cube_Norm A n cc cl ((w.alloc (.cells #[.int .i64 dep] 3)).alloc (.cells #[.bool false] 4)) (by omega) (hrc.below (((Below.refl _ w).alloc (Nat.le_refl _) _).alloc (by simp) _) (Nat.le_refl _))
  have hlen := hrc.len
  refine (callsIn_wide (n := 10)).1 ?_
  refine callsIn_of_wp_marks Try.func41 rfl trivial ?_ rfl
  simp only [Try.ntmps41, List.size_toArray, List.length_cons, List.length_nil, Nat.reduceAdd, Nat.reduceSub, Array.replicate_succ, Array.replicate_zero, List.push_toArray, List.append_toArray, List.nil_append, List.cons_append]
  gi_wp2_with fail
  refine ⟨trivial, ?_⟩
  refine (callsIn_wide.2 hN).mono ?_
  have hbw : Below w.heap.size w ((w.alloc (.cells #[.int .i64 dep] 3)).alloc (.cells #[.bool false] 4)) := ((Below.refl _ w).alloc (Nat.le_refl _) _).alloc (by simp) _
  have b6 := (Blk.new w 3 #[.int .i64 dep]).alloc (.cells #[.bool false] 4)
  have b8 := Blk.new (w.alloc (.cells #[.int .i64 dep] 3)) 4 #[.bool false]
  rw [World.size_alloc] at b8
  rintro e W1 (⟨hnb, v, rfl, hrow, hb1⟩ | ⟨hnb, rfl, hb1⟩)
  · obtain ⟨s, rfl, hsn⟩ := own_sl hrow
    have hsl := srt_len cl
    have hW1 : w.heap.size + 2 ≤ W1.heap.size := by have := hb1.size; simp at this; omega
    have b6 := b6.below hb1 b6.lt
    have b8 := b8.below hb1 b8.lt
    have hG : Gx w dep W1.heap.size s (srt cl) (W1.alloc (.cells #[s.val] 40)) :=
      ⟨(hbw.trans (hb1.mono (by simp; omega))).alloc (by omega) _, b6.alloc _, b8.alloc _, Blk.new W1 _ _, by have := (own_low hrow (show w.heap.size ≤ _ by simp; omega)).alloc (.cells #[s.val] 40); simpa [ivs] using this, hW1⟩
    have hsn' : s.n ≤ 100000 := by omega
    clear b6 b8 hrow hsn hbw hb1 hN
    by_cases hd0 : dep < 0
    · have c6 : (W1.alloc (.cells #[s.val] 40)).cell? ⟨w.heap.size, 0, none⟩ = some (.int .i64 dep) := hG.b6.cell 0
      have c8 : (W1.alloc (.cells #[s.val] 40)).cell? ⟨w.heap.size + 1, 0, none⟩ = some (.bool false) := hG.b8.cell 0
      have f8 := hG.b8.frozen 0
      have hG := hide hG
      have hAB : addB l cl dep = false := by unfold addB; rw [show decide (0 ≤ dep) = false from decide_eq_false (by omega)]; simp
      gi_wp2
      have hb8 := hG.out.b8.set_ 0 (.bool false)
      have k8 : ((W1.alloc (.cells #[s.val] 40)).setCell ⟨w.heap.size + 1, 0, none⟩ (.bool false)).cell? ⟨w.heap.size + 1, 0, none⟩ = some (.bool false) := hb8.cell 0
      refine ⟨.bool false, by simp [results, Try.results41, go_sem, k8], ?_⟩
      exact addIs_no hAB hS (hG.out.bel.setCell (p := ⟨w.heap.size + 1, 0, none⟩) (by show w.heap.size ≤ w.heap.size + 1; omega) _)
    · have hG0 := hG
      have hdd : decide (dep < 0) = false := decide_eq_false hd0
      have c6 : (W1.alloc (.cells #[s.val] 40)).cell? ⟨w.heap.size, 0, none⟩ = some (.int .i64 dep) := hG.b6.cell 0
      gi_wp2_with (refine ⟨trivial, ?_⟩; gi_at_call 101; refine (all_in Fence.wide _ trivial rfl _ _).mono ?_; rintro e w' ⟨rfl, rfl⟩)
      obtain ⟨N9, hN9⟩ : ∃ N9, N9 = W1.heap.size := ⟨_, rfl⟩
      obtain ⟨W0, hW0⟩ : ∃ W0, ((W1.alloc (.cells #[s.val] 40)).alloc (.cells #[.pointer (some ⟨p, 0, none⟩)] 61)) = W0 := ⟨_, rfl⟩
      have hI0 : Gx w dep W1.heap.size s (srt cl) W0 ∧ Blk W0 (W1.heap.size + 1) 61 #[.pointer (some ⟨p, 0, none⟩)] ∧ W0.heap.size = W1.heap.size + 2 := by
        subst hW0
        have e1 := Blk.new (W1.alloc (.cells #[s.val] 40)) 61 #[.pointer (some ⟨p, 0, none⟩)]
        simp only [World.size_alloc] at e1
        exact ⟨hG.step ((Below.refl _ _).alloc (Nat.le_refl _) _), e1, by simp⟩
      obtain ⟨hI0, hb4, hsz⟩ := hI0
      simp only [hW0]
      clear hW0 hG hG0 c6
      rw [← hN9] at hI0 hb4 hsz hW1 ⊢
      clear hN9
      have hn9 := hI0.n9
      refine wpIn_rangeFunc_ownH rfl (by omega) (gf := 134) (lb := #[.pointer (some ⟨N9 + 1, 0, none⟩)]) rfl trivial (enters_of Try.func134 (by kernel_rfl) rfl)
        (all_stops Fence.wide _ trivial rfl (by omega) (N9 + 1) w.heap.size (some ⟨p, 0, none⟩) L (by omega) W0 (by omega) (by omega) (hb4.cell 0) (hS.keeps.below hI0.bel hI0.bel.size)) belowK_t (belowK_b (by omega)) (Below.refl _ _) (fun _ => rfl)
        (fun pre W => Gx w dep N9 s (srt cl) W ∧ ∀ i ∈ pre, refuses (srt cl) dep (kcAt l i.1) = false)
        (fun c pre W => c = .ret ∧ Gx w dep N9 s (srt cl) W ∧ ∃ i : Fin L.length, refuses (srt cl) dep (kcAt l i.1) = true)
        (fun pre X Y row hs hg hr => ⟨hs.1.own (by omega) hg hr, hs.2⟩)
        (fun c pre X Y row hs hg hr => ⟨hs.1, hs.2.1.own (by omega) hg hr, hs.2.2⟩)
        ⟨hI0, fun i hi => by cases hi⟩
        (fun x a' W => ∃ Bx, N9 < Bx ∧ Blk W Bx 66 (kvAt L x.1).cells ∧ a' = { tmps := #[.pointer (some ⟨p, 0, none⟩), .slice A n cc, .int .i64 dep, .slice iA im ic, undef, undef, .pointer (some ⟨w.heap.size, 0, none⟩), undef, .pointer (some ⟨w.heap.size + 1, 0, none⟩), .pointer (some ⟨N9, 0, none⟩), .bool true, undef, .pointer (some ⟨Bx, 0, none⟩), .tuple #[s.val, .bool true], .slice A n cc, .tuple #[s.val, .bool true], s.val, .bool true, .pointer (some ⟨p, 0, none⟩), .bool false, .bool false, .bool true, .bool false, .bool false, .bool false, .int .i64 dep, .bool false, .bool false, .pointer (some ⟨p, 0, none⟩), .func (.func 134) #[] #[.pointer (some ⟨N9 + 1, 0, none⟩)], .int .i64 (x.1 : Int), .agg (kvAt L x.1).cells, undef, undef, undef, undef, undef, undef, undef, undef, undef, undef, undef, undef, undef, undef, undef, undef, undef, undef, undef, undef, undef, undef, undef, undef, undef, undef, undef, undef, undef, undef, undef, undef, undef], defers := [] })
        (fun x a' _ X Y row hs hg hr => by obtain ⟨Bx, h1, h2, h3⟩ := hs; exact ⟨Bx, h1, blk_own h2 hg (fun r e => (hr r e).2), h3⟩)
        ?assign ?body ?done ?stop
      case assign =>
        rintro l0 pre x W K hI hK
        have hbs := hI.1.bel.size
        dsimp only [encsF]
        gi_wp2
        exact hK _ _ ((KeepsOthers.alloc _ _).from _) ((Below.refl _ W).alloc hbs _) ⟨hI.1.step ((Below.refl _ W).alloc (Nat.le_refl _) _), hI.2⟩ ⟨W.heap.size, hI.1.b9.lt, Blk.new W _ _, rfl⟩
      case body =>
        rintro l0 pre x a' W hl ⟨r, hr⟩ hI ⟨Bx, hBx, bX, rfl⟩ hlt
        have hkv := (hS.all.rd.2 x.1 x.2).below hI.1.bel (Nat.le_refl _)
        have hgk := hg.at (j := x.1) (by have := hS.all.1; have := x.2; omega)
        generalize hxv : kvAt L x.1 = xv at hkv bX ⊢
        have hcl : (kcAt l x.1).c.length = xv.c.n := hkv.c.len
        have hxd := hkv.d
        have hsr : Rd W s.A s.n (ivs (srt cl)) := by have := rd_own hI.1.row; exact this
        have hcv := cube_Covers xv.c.A s.A xv.c.n s.n xv.c.c s.c (kcAt l x.1).c (srt cl) W (by have := hgk.c; omega) (by omega) hkv.c hsr
        have cX0 : W.cell? ⟨Bx, 0, none⟩ = some (.slice xv.c.A xv.c.n xv.c.c) := bX.cell 0
        have cX1 : W.cell? ⟨Bx, 1, none⟩ = some (.int .i64 xv.d) := bX.cell 1
        have c6 : W.cell? ⟨w.heap.size, 0, none⟩ = some (.int .i64 dep) := hI.1.b6.cell 0
        have c9 : W.cell? ⟨N9, 0, none⟩ = some (.slice s.A s.n s.c) := hI.1.b9.cell 0
        have c8 : W.cell? ⟨w.heap.size + 1, 0, none⟩ = some (.bool false) := hI.1.b8.cell 0
        have f8 := hI.1.b8.frozen 0
        have hI := hide hI
        have hN : 1 ≤ 10 - 1 - 1 := by omega
        by_cases hd : (kcAt l x.1).d ≤ dep
        · have hd2 : xv.d ≤ dep := by omega
          cases hc : covB (kcAt l x.1).c (srt cl) with
          | true =>
            have hR : Hid (refuses (srt cl) dep (kcAt l x.1) = true) := hide (by unfold refuses; rw [decide_eq_true hd, hc]; rfl)
            rw [hc] at hcv
            clear hxd hd hkv hgk hc
            gi_wp2_with (refine ⟨trivial, ?_⟩; gi_at_call 102; refine (CallsIn.inRound l0 (callsIn_wide.2 hcv)).mono ?_; rintro e w' ⟨rfl, rfl⟩)
            have hG := hI.out.1
            exact ⟨(KeepsOthers.setCell _ _ _).from _, rfl, ⟨hG.bel.setCell (p := ⟨w.heap.size + 1, 0, none⟩) (by show w.heap.size ≤ w.heap.size + 1; omega) _, hG.b6.far (by simp) _, by simpa using hG.b8.set_ 0 (.bool false), hG.b9.far (by simp; omega) _, own_off hG.row (grownBy_setCell' _ _ _) (fun g e => by cases e; exact ⟨_, _, hG.b8, by decide⟩), hG.n9⟩, x, hR.out⟩
          | false =>
            have hR : Hid (refuses (srt cl) dep (kcAt l x.1) = false) := hide (by unfold refuses; rw [hc]; simp)
            rw [hc] at hcv
            clear hxd hd hkv hgk hc
            gi_wp2_with (refine ⟨trivial, ?_⟩; gi_at_call 102; refine (CallsIn.inRound l0 (callsIn_wide.2 hcv)).mono ?_; rintro e w' ⟨rfl, rfl⟩)
            exact ⟨KeepsFrom.refl _ _, Below.refl _ _, hI.out.1, fun i hi => by
              rcases List.mem_append.1 hi with h | h
              · exact hI.out.2 i h
              · rw [List.mem_singleton.1 h]; exact hR.out⟩
        · have hd2 : ¬ xv.d ≤ dep := by omega
          have hR : Hid (refuses (srt cl) dep (kcAt l x.1) = false) := hide (by unfold refuses; rw [decide_eq_false hd]; rfl)
          clear hxd hd hkv hgk hcv
          gi_wp2
          refine ⟨trivial, ?_⟩
          gi_wp2
          exact ⟨KeepsFrom.refl _ _, Below.refl _ _, hI.out.1, fun i hi => by
            rcases List.mem_append.1 hi with h | h
            · exact hI.out.2 i h
            · rw [List.mem_singleton.1 h]; exact hR.out⟩
      case stop =>
        rintro D c pre W hD _ ⟨rfl, hI, i, hi⟩ hKD
        have hAB : addB l cl dep = false := by
          unfold addB
          have : l.any (refuses (srt cl) dep) = true := List.any_eq_true.2 ⟨kcAt l i.1, by
            have h1 : i.1 < l.length := by have := hS.all.1; have := i.2; omega
            have : kcAt l i.1 = l[i.1] := by simp [kcAt, List.getD, h1]
            rw [this]; exact List.getElem_mem _, hi⟩
          rw [this]; simp
        gi_wp2
        refine ⟨by simp, .inl ⟨_, _, rfl, run_takeDeferred hKD, ?_⟩⟩
        have hro : ∀ r, some D = some r → ∃ o : Obj, W.heap[r]? = some o ∧ o.isCells = false := fun r e => by cases e; exact ⟨_, hKD, rfl⟩
        have b8' := blk_own hI.b8 (grownBy_putObj' W D (.deferred none)) hro
        have k8 : (W.putObj D (.deferred none)).cell? ⟨w.heap.size + 1, 0, none⟩ = some (.bool false) := b8'.cell 0
        refine ⟨.bool false, by simp [results, Try.results41, go_sem, k8], ?_⟩
        exact addIs_no hAB hS (hI.bel.trans (belowK_b (w := w) (Nat.le_refl _) W D _ _ (by omega) hKD rfl rfl))
      case done =>
        rintro DD ys W hD rfl hI hKD
        obtain ⟨hG, hno⟩ := hI
        have hAB : addB l cl dep = true := by
          unfold addB
          have : l.any (refuses (srt cl) dep) = false := by
            rw [List.any_eq_false]
            intro k hk
            obtain ⟨j, hj, rfl⟩ : ∃ j, j < L.length ∧ kcAt l j = k := by
              obtain ⟨j, hj, e⟩ := List.getElem_of_mem hk
              exact ⟨j, by rw [hS.all.1]; exact hj, by simp [kcAt, List.getD, hj, e]⟩
            have := hno ⟨j, hj⟩ (by rw [upF_all]; simp)
            simpa using this
          rw [this, hnb, decide_eq_true hd0]; rfl
        have hrow : W.ownsRow base 66 3 V L.length (encK L) := own_keep hS.row hG.bel
        have hall : AllO base W L l := hS.all.step hG.bel
        have bp : Blk W p 118 #[V] := hS.cell.below hG.bel hS.cell.lt
        have hps := hS.cell.lt
        obtain ⟨AV, cV, hVe, _, _, _⟩ := RdK.of_own hrow
        have hdel := del_fn V base L (fun j => strikes dep (srt cl) (kcAt l j)) (.pointer (some ⟨w.heap.size, 0, none⟩)) (.pointer (some ⟨N9, 0, none⟩)) W hrow (by omega) (fun W2 hf j hj => by
          have e6 := hf.blk hG.b6 (blk_ne hrow hG.b6 (by decide))
          have e9 := hf.blk hG.b9 (blk_ne hrow hG.b9 (by decide))
          have er := hf.own hG.row (own_ne hG.row hrow (by decide))
          have hgk := hg.at (j := j) (by have := hall.1; omega)
          exact store_strikes (kvAt L j) (kcAt l j) dep w.heap.size N9 s (srt cl) W2 (e6.cell 0) (e9.cell 0) (rd_own er) (by omega) ((hall.2 j hj).fr hrow hf).rd (by have := hgk.c; omega))
        have cp : W.cell? ⟨p, 0, none⟩ = some (.slice AV L.length cV) := by rw [bp.cell, hVe]; rfl
        rw [hVe] at hdel
        have hH := hide (show (Gx w dep N9 s (srt cl) W ∧ W.ownsRow base 66 3 V L.length (encK L)) ∧ AllO base W L l ∧ Blk W p 118 #[V] from ⟨⟨hG, hrow⟩, hall, bp⟩)
        replace hVe := hide hVe
        clear hG hno hrow hall bp hI0
        gi_wp2_with fail
        refine ⟨trivial, (callsIn_wide.2 hdel).mono ?_⟩
        rintro e w2 ⟨V', rfl, hrow2, hfr2, hV2⟩
        obtain ⟨s1, rfl, hs1⟩ := own_sl hrow2
        obtain ⟨⟨hG, hrow⟩, hall, bp⟩ := hH.out
        rw [← hVe.out] at hfr2 hV2
        obtain ⟨K1, hK1⟩ : ∃ K1, Kept.kept (fun j => strikes dep (srt cl) (kcAt l j)) L L.length = K1 := ⟨_, rfl⟩
        have hrw : Rw base w2 s1.val K1 (l.filter fun k => !strikes dep (srt cl) k) := ⟨by rw [← hK1]; exact hrow2, by rw [← hK1]; exact (hall.fr hrow hfr2).keep dep (srt cl)⟩
        have hK1m : ∀ x ∈ K1, x ∈ L := fun x hx => by rw [← hK1] at hx; exact kept_mem (Nat.le_refl _) hx
        have hK1l : K1.length ≤ 100000 := by rw [← hK1]; exact Nat.le_trans (kept_len _ _ _) hL
        have hay : Ay w p DD V dep N9 s (srt cl) V w2 := ⟨(Fr.of_below hG.bel).trans (hfr2.more (fun k _ e => .inr e)), hfr2.blk hG.b6 (blk_ne hrow hG.b6 (by decide)), hfr2.blk hG.b8 (blk_ne hrow hG.b8 (by decide)), hfr2.blk hG.b9 (blk_ne hrow hG.b9 (by decide)), hfr2.blk bp (blk_ne hrow bp (by decide)), hfr2.own hG.row (own_ne hG.row hrow (by decide)),
          (hfr2.block DD (Array.getElem?_eq_some_iff.1 hKD).1 (fun e => by obtain ⟨cs, hb⟩ := own_blk hrow e; exact blk_cells_ne hb hKD rfl)).trans hKD⟩
        have hWw : w.heap.size + 2 ≤ w2.heap.size := by have := hG.b8.lt; have := hfr2.size; omega
        have hDw : w.heap.size ≤ DD := by omega
        have cp2 : w2.cell? ⟨p, 0, none⟩ = some (.slice AV L.length cV) := by rw [hay.bp.cell, hVe.out]; rfl
        have fp2 := hay.bp.frozen 0
        have hrw2 := hide (hrw.far (u := s1.val) hay.bp (by decide) (by decide) (by decide))
        have hay2 := hide (hay.put s1.val)
        replace hV2 := hide hV2
        clear hG hrow hall bp hrow2 hfr2 hrw hay hH hK1 hs1 hdel cp hsz hD
        gi_wp2_with fail
        obtain ⟨w3, hw3⟩ : ∃ w3, w2.setCell ⟨p, 0, none⟩ s1.val = w3 := ⟨_, rfl⟩
        have hwz3 : w.heap.size + 2 ≤ w3.heap.size := by rw [← hw3]; simpa using hWw
        rw [hw3] at hrw2 hay2
        simp only [hw3]
        clear hw3 cp2 fp2 hWw
        refine wpIn_wide.2 ?_
        refine wp_region_inv3 (fun D az wz => ∃ x51 x52 x53 x54 x55 x56 x57 x58 x59 x60 x61 x62 x63 x64 u : Value, az = ⟨#[.pointer (some ⟨p, 0, none⟩), .slice A n cc, .int .i64 dep, .slice iA im ic, undef, undef, .pointer (some ⟨w.heap.size, 0, none⟩), undef, .pointer (some ⟨w.heap.size + 1, 0, none⟩), .pointer (some ⟨N9, 0, none⟩), .bool true, undef, undef, .tuple #[s.val, .bool true], .slice A n cc, .tuple #[s.val, .bool true], s.val, .bool true, .pointer (some ⟨p, 0, none⟩), .bool false, .bool false, .bool true, .bool false, .bool false, .bool false, .int .i64 dep, .bool false, .bool false, .pointer (some ⟨p, 0, none⟩), .func (.func 134) #[] #[.pointer (some ⟨N9 + 1, 0, none⟩)], undef, undef, undef, undef, undef, undef, undef, undef, undef, undef, undef, undef, .pointer (some ⟨p, 0, none⟩), .pointer (some ⟨p, 0, none⟩), .pointer (some ⟨p, 0, none⟩), .pointer (some ⟨p, 0, none⟩), .slice AV L.length cV, .func (.func 104) #[] #[.pointer (some ⟨w.heap.size, 0, none⟩), .pointer (some ⟨N9, 0, none⟩)], s1.val, .pointer (some ⟨p, 0, none⟩), .pointer (some ⟨p, 0, none⟩), x51, x52, x53, x54, x55, x56, x57, x58, x59, x60, x61, x62, x63, x64], [{ target := .collected DD, args := #[] }]⟩ ∧ Ay w p DD V dep N9 s (srt cl) u wz ∧ w.heap.size + 2 ≤ wz.heap.size ∧ (¬ D 4 → u = s1.val) ∧ (¬ D 11 → Rw base wz s1.val K1 (l.filter fun k => !strikes dep (srt cl) k)) ∧ (D 0 → x51 = .pointer (some ⟨p, 0, none⟩)) ∧ (D 1 → x52 = .pointer (some ⟨p, 0, none⟩)) ∧ (D 2 → x53 = .pointer (some ⟨p, 0, none⟩)) ∧ (D 3 → x54 = .pointer (some ⟨p, 0, none⟩)) ∧ (D 4 → x55 = s1.val) ∧ (D 5 → x56 = s.val) ∧ (D 6 → x57 = .int .i64 dep) ∧ (D 7 → x58 = .slice iA im ic) ∧ (D 8 → x59 = .agg #[s.val, .int .i64 dep, .slice iA im ic]) ∧ (D 9 → (D 8 ∧ ∃ y : Kv, x60 = .agg y.cells ∧ KvO (w.heap.size + 2) wz y ⟨srt cl, dep, il⟩)) ∧ (D 10 → (D 9 ∧ ∃ (y : Kv) (g : Nat), x60 = .agg y.cells ∧ KvO (w.heap.size + 2) wz y ⟨srt cl, dep, il⟩ ∧ x61 = .slice (some ⟨g, 0, none⟩) 1 1 ∧ (¬ D 11 → Blk wz g 66 y.cells))) ∧ (D 11 → (D 4 ∧ D 10 ∧ ∃ y : Kv, Rw base wz x62 (K1 ++ [y]) ((l.filter fun k => !strikes dep (srt cl) k) ++ [⟨srt cl, dep, il⟩]) ∧ KvO (w.heap.size + 2) wz y ⟨srt cl, dep, il⟩ ∧ (x62.ownBlock = V.ownBlock ∨ ∃ g, x62.ownBlock = some g ∧ w.heap.size ≤ g))) ∧ (D 12 → x63 = .pointer (some ⟨p, 0, none⟩)) ∧ (D 13 → x64 = .pointer (some ⟨p, 0, none⟩)) ∧ (D 14 → (D 11 ∧ u = x62))) (by kernel_rfl) (by kernel_rfl) ?h0 ?hstep ?hdone
        case h0 =>
          have hdr := Dr.below (Dr.refl w3).drew w3.heap.size
          exact ⟨_, _, _, _, _, _, _, _, _, _, _, _, _, _, _, rfl, hay2.out.step hdr, hwz3, fun _ => rfl, fun _ => hrw2.out.step hdr, fun h => absurd h (by decide), fun h => absurd h (by decide), fun h => absurd h (by decide), fun h => absurd h (by decide), fun h => absurd h (by decide), fun h => absurd h (by decide), fun h => absurd h (by decide), fun h => absurd h (by decide), fun h => absurd h (by decide), fun h => absurd h (by decide), fun h => absurd h (by decide), fun h => absurd h (by decide), fun h => absurd h (by decide), fun h => absurd h (by decide), fun h => absurd h (by decide)⟩
        case hstep =>
          intro D az wz i hi' hn hd' hI2
          obtain ⟨x51, x52, x53, x54, x55, x56, x57, x58, x59, x60, x61, x62, x63, x64, u, rfl, hay, hwz, g4, g11, f0, f1, f2, f3, f4, f5, f6, f7, f8, f9, f10, f11, f12, f13, f14⟩ := hI2
          have hi' : i < 15 := hi'
          rcases (show i = 0 ∨ i = 1 ∨ i = 2 ∨ i = 3 ∨ i = 4 ∨ i = 5 ∨ i = 6 ∨ i = 7 ∨ i = 8 ∨ i = 9 ∨ i = 10 ∨ i = 11 ∨ i = 12 ∨ i = 13 ∨ i = 14 by omega) with rfl | rfl | rfl | rfl | rfl | rfl | rfl | rfl | rfl | rfl | rfl | rfl | rfl | rfl | rfl
          · -- 0
            refine wpOp_step rfl (fun K hK => ?_)
            have hK : Shut _ := hK
            go_simp
            try simp only [Act.put, List.getElem_toArray, List.getElem_cons_succ, List.getElem_cons_zero, List.setIfInBounds_toArray, List.set_cons_zero, List.set_cons_succ]
            refine hK.out _ _ ⟨_, _, _, _, _, _, _, _, _, _, _, _, _, _, _, rfl, hay, hwz, (fun h => g4 (fun e => h (Or.inr e))), (fun h => g11 (fun e => h (Or.inr e))), fun _ => rfl, fun h => h.elim (fun e => absurd e (by decide)) f1, fun h => h.elim (fun e => absurd e (by decide)) f2, fun h => h.elim (fun e => absurd e (by decide)) f3, fun h => h.elim (fun e => absurd e (by decide)) f4, fun h => h.elim (fun e => absurd e (by decide)) f5, fun h => h.elim (fun e => absurd e (by decide)) f6, fun h => h.elim (fun e => absurd e (by decide)) f7, fun h => h.elim (fun e => absurd e (by decide)) f8, fun h => h.elim (fun e => absurd e (by decide)) (fun h => ⟨Or.inr (f9 h).1, (f9 h).2⟩), fun h => h.elim (fun e => absurd e (by decide)) (fun h => by obtain ⟨m9, y, g, a1, a2, a3, a4⟩ := f10 h; exact ⟨Or.inr m9, y, g, a1, a2, a3, fun h => a4 (fun e => h (Or.inr e))⟩), fun h => h.elim (fun e => absurd e (by decide)) (fun h => ⟨Or.inr (f11 h).1, Or.inr (f11 h).2.1, (f11 h).2.2⟩), fun h => h.elim (fun e => absurd e (by decide)) f12, fun h => h.elim (fun e => absurd e (by decide)) f13, fun h => h.elim (fun e => absurd e (by decide)) (fun h => ⟨Or.inr (f14 h).1, (f14 h).2⟩)⟩
          · -- 1
            refine wpOp_step rfl (fun K hK => ?_)
            have hK : Shut _ := hK
            go_simp
            try simp only [Act.put, List.getElem_toArray, List.getElem_cons_succ, List.getElem_cons_zero, List.setIfInBounds_toArray, List.set_cons_zero, List.set_cons_succ]
            refine hK.out _ _ ⟨_, _, _, _, _, _, _, _, _, _, _, _, _, _, _, rfl, hay, hwz, (fun h => g4 (fun e => h (Or.inr e))), (fun h => g11 (fun e => h (Or.inr e))), fun h => h.elim (fun e => absurd e (by decide)) f0, fun _ => rfl, fun h => h.elim (fun e => absurd e (by decide)) f2, fun h => h.elim (fun e => absurd e (by decide)) f3, fun h => h.elim (fun e => absurd e (by decide)) f4, fun h => h.elim (fun e => absurd e (by decide)) f5, fun h => h.elim (fun e => absurd e (by decide)) f6, fun h => h.elim (fun e => absurd e (by decide)) f7, fun h => h.elim (fun e => absurd e (by decide)) f8, fun h => h.elim (fun e => absurd e (by decide)) (fun h => ⟨Or.inr (f9 h).1, (f9 h).2⟩), fun h => h.elim (fun e => absurd e (by decide)) (fun h => by obtain ⟨m9, y, g, a1, a2, a3, a4⟩ := f10 h; exact ⟨Or.inr m9, y, g, a1, a2, a3, fun h => a4 (fun e => h (Or.inr e))⟩), fun h => h.elim (fun e => absurd e (by decide)) (fun h => ⟨Or.inr (f11 h).1, Or.inr (f11 h).2.1, (f11 h).2.2⟩), fun h => h.elim (fun e => absurd e (by decide)) f12, fun h => h.elim (fun e => absurd e (by decide)) f13, fun h => h.elim (fun e => absurd e (by decide)) (fun h => ⟨Or.inr (f14 h).1, (f14 h).2⟩)⟩
          · -- 2
            have d1 := f1 (hd' 1 (by kernel_rfl))
            refine wpOp_step rfl (fun K hK => ?_)
            have hK : Shut _ := hK
            subst d1
            go_simp
            try simp only [Act.put, List.getElem_toArray, List.getElem_cons_succ, List.getElem_cons_zero, List.setIfInBounds_toArray, List.set_cons_zero, List.set_cons_succ]
            refine hK.out _ _ ⟨_, _, _, _, _, _, _, _, _, _, _, _, _, _, _, rfl, hay, hwz, (fun h => g4 (fun e => h (Or.inr e))), (fun h => g11 (fun e => h (Or.inr e))), fun h => h.elim (fun e => absurd e (by decide)) f0, fun _ => rfl, fun _ => rfl, fun h => h.elim (fun e => absurd e (by decide)) f3, fun h => h.elim (fun e => absurd e (by decide)) f4, fun h => h.elim (fun e => absurd e (by decide)) f5, fun h => h.elim (fun e => absurd e (by decide)) f6, fun h => h.elim (fun e => absurd e (by decide)) f7, fun h => h.elim (fun e => absurd e (by decide)) f8, fun h => h.elim (fun e => absurd e (by decide)) (fun h => ⟨Or.inr (f9 h).1, (f9 h).2⟩), fun h => h.elim (fun e => absurd e (by decide)) (fun h => by obtain ⟨m9, y, g, a1, a2, a3, a4⟩ := f10 h; exact ⟨Or.inr m9, y, g, a1, a2, a3, fun h => a4 (fun e => h (Or.inr e))⟩), fun h => h.elim (fun e => absurd e (by decide)) (fun h => ⟨Or.inr (f11 h).1, Or.inr (f11 h).2.1, (f11 h).2.2⟩), fun h => h.elim (fun e => absurd e (by decide)) f12, fun h => h.elim (fun e => absurd e (by decide)) f13, fun h => h.elim (fun e => absurd e (by decide)) (fun h => ⟨Or.inr (f14 h).1, (f14 h).2⟩)⟩
          · -- 3
            have d2 := f2 (hd' 2 (by kernel_rfl))
            refine wpOp_step rfl (fun K hK => ?_)
            have hK : Shut _ := hK
            subst d2
            go_simp
            try simp only [Act.put, List.getElem_toArray, List.getElem_cons_succ, List.getElem_cons_zero, List.setIfInBounds_toArray, List.set_cons_zero, List.set_cons_succ]
            refine hK.out _ _ ⟨_, _, _, _, _, _, _, _, _, _, _, _, _, _, _, rfl, hay, hwz, (fun h => g4 (fun e => h (Or.inr e))), (fun h => g11 (fun e => h (Or.inr e))), fun h => h.elim (fun e => absurd e (by decide)) f0, fun h => h.elim (fun e => absurd e (by decide)) f1, fun _ => rfl, fun _ => rfl, fun h => h.elim (fun e => absurd e (by decide)) f4, fun h => h.elim (fun e => absurd e (by decide)) f5, fun h => h.elim (fun e => absurd e (by decide)) f6, fun h => h.elim (fun e => absurd e (by decide)) f7, fun h => h.elim (fun e => absurd e (by decide)) f8, fun h => h.elim (fun e => absurd e (by decide)) (fun h => ⟨Or.inr (f9 h).1, (f9 h).2⟩), fun h => h.elim (fun e => absurd e (by decide)) (fun h => by obtain ⟨m9, y, g, a1, a2, a3, a4⟩ := f10 h; exact ⟨Or.inr m9, y, g, a1, a2, a3, fun h => a4 (fun e => h (Or.inr e))⟩), fun h => h.elim (fun e => absurd e (by decide)) (fun h => ⟨Or.inr (f11 h).1, Or.inr (f11 h).2.1, (f11 h).2.2⟩), fun h => h.elim (fun e => absurd e (by decide)) f12, fun h => h.elim (fun e => absurd e (by decide)) f13, fun h => h.elim (fun e => absurd e (by decide)) (fun h => ⟨Or.inr (f14 h).1, (f14 h).2⟩)⟩
          · -- 4
            have d3 := f3 (hd' 3 (by kernel_rfl))
            refine wpOp_step rfl (fun K hK => ?_)
            have hK : Shut _ := hK
            subst d3
            obtain rfl := g4 hn
            have cz : wz.cell? ⟨p, 0, none⟩ = some s1.val := hay.bp.cell 0
            go_simp
            try simp only [Act.put, List.getElem_toArray, List.getElem_cons_succ, List.getElem_cons_zero, List.setIfInBounds_toArray, List.set_cons_zero, List.set_cons_succ]
            refine hK.out _ _ ⟨_, _, _, _, _, _, _, _, _, _, _, _, _, _, _, rfl, hay, hwz, (fun h => (h (by simp)).elim), (fun h => g11 (fun e => h (Or.inr e))), fun h => h.elim (fun e => absurd e (by decide)) f0, fun h => h.elim (fun e => absurd e (by decide)) f1, fun h => h.elim (fun e => absurd e (by decide)) f2, fun _ => rfl, fun _ => rfl, fun h => h.elim (fun e => absurd e (by decide)) f5, fun h => h.elim (fun e => absurd e (by decide)) f6, fun h => h.elim (fun e => absurd e (by decide)) f7, fun h => h.elim (fun e => absurd e (by decide)) f8, fun h => h.elim (fun e => absurd e (by decide)) (fun h => ⟨Or.inr (f9 h).1, (f9 h).2⟩), fun h => h.elim (fun e => absurd e (by decide)) (fun h => by obtain ⟨m9, y, g, a1, a2, a3, a4⟩ := f10 h; exact ⟨Or.inr m9, y, g, a1, a2, a3, fun h => a4 (fun e => h (Or.inr e))⟩), fun h => h.elim (fun e => absurd e (by decide)) (fun h => absurd (f11 h).1 hn), fun h => h.elim (fun e => absurd e (by decide)) f12, fun h => h.elim (fun e => absurd e (by decide)) f13, fun h => h.elim (fun e => absurd e (by decide)) (fun h => absurd (f11 (f14 h).1).1 hn)⟩
          · -- 5
            refine wpOp_step rfl (fun K hK => ?_)
            have hK : Shut _ := hK
            have cz : wz.cell? ⟨N9, 0, none⟩ = some s.val := hay.b9.cell 0
            go_simp
            try simp only [Act.put, List.getElem_toArray, List.getElem_cons_succ, List.getElem_cons_zero, List.setIfInBounds_toArray, List.set_cons_zero, List.set_cons_succ]
            refine hK.out _ _ ⟨_, _, _, _, _, _, _, _, _, _, _, _, _, _, _, rfl, hay, hwz, (fun h => g4 (fun e => h (Or.inr e))), (fun h => g11 (fun e => h (Or.inr e))), fun h => h.elim (fun e => absurd e (by decide)) f0, fun h => h.elim (fun e => absurd e (by decide)) f1, fun h => h.elim (fun e => absurd e (by decide)) f2, fun h => h.elim (fun e => absurd e (by decide)) f3, fun h => h.elim (fun e => absurd e (by decide)) f4, fun _ => rfl, fun h => h.elim (fun e => absurd e (by decide)) f6, fun h => h.elim (fun e => absurd e (by decide)) f7, fun h => h.elim (fun e => absurd e (by decide)) f8, fun h => h.elim (fun e => absurd e (by decide)) (fun h => ⟨Or.inr (f9 h).1, (f9 h).2⟩), fun h => h.elim (fun e => absurd e (by decide)) (fun h => by obtain ⟨m9, y, g, a1, a2, a3, a4⟩ := f10 h; exact ⟨Or.inr m9, y, g, a1, a2, a3, fun h => a4 (fun e => h (Or.inr e))⟩), fun h => h.elim (fun e => absurd e (by decide)) (fun h => ⟨Or.inr (f11 h).1, Or.inr (f11 h).2.1, (f11 h).2.2⟩), fun h => h.elim (fun e => absurd e (by decide)) f12, fun h => h.elim (fun e => absurd e (by decide)) f13, fun h => h.elim (fun e => absurd e (by decide)) (fun h => ⟨Or.inr (f14 h).1, (f14 h).2⟩)⟩
          · -- 6
            refine wpOp_step rfl (fun K hK => ?_)
            have hK : Shut _ := hK
            have cz : wz.cell? ⟨w.heap.size, 0, none⟩ = some (.int .i64 dep) := hay.b6.cell 0
            go_simp
            try simp only [Act.put, List.getElem_toArray, List.getElem_cons_succ, List.getElem_cons_zero, List.setIfInBounds_toArray, List.set_cons_zero, List.set_cons_succ]
            refine hK.out _ _ ⟨_, _, _, _, _, _, _, _, _, _, _, _, _, _, _, rfl, hay, hwz, (fun h => g4 (fun e => h (Or.inr e))), (fun h => g11 (fun e => h (Or.inr e))), fun h => h.elim (fun e => absurd e (by decide)) f0, fun h => h.elim (fun e => absurd e (by decide)) f1, fun h => h.elim (fun e => absurd e (by decide)) f2, fun h => h.elim (fun e => absurd e (by decide)) f3, fun h => h.elim (fun e => absurd e (by decide)) f4, fun h => h.elim (fun e => absurd e (by decide)) f5, fun _ => rfl, fun h => h.elim (fun e => absurd e (by decide)) f7, fun h => h.elim (fun e => absurd e (by decide)) f8, fun h => h.elim (fun e => absurd e (by decide)) (fun h => ⟨Or.inr (f9 h).1, (f9 h).2⟩), fun h => h.elim (fun e => absurd e (by decide)) (fun h => by obtain ⟨m9, y, g, a1, a2, a3, a4⟩ := f10 h; exact ⟨Or.inr m9, y, g, a1, a2, a3, fun h => a4 (fun e => h (Or.inr e))⟩), fun h => h.elim (fun e => absurd e (by decide)) (fun h => ⟨Or.inr (f11 h).1, Or.inr (f11 h).2.1, (f11 h).2.2⟩), fun h => h.elim (fun e => absurd e (by decide)) f12, fun h => h.elim (fun e => absurd e (by decide)) f13, fun h => h.elim (fun e => absurd e (by decide)) (fun h => ⟨Or.inr (f14 h).1, (f14 h).2⟩)⟩
          · -- 7
            refine wpOp_step rfl (fun K hK => ?_)
            have hK : Shut _ := hK
            go_simp
            try simp only [Act.put, List.getElem_toArray, List.getElem_cons_succ, List.getElem_cons_zero, List.setIfInBounds_toArray, List.set_cons_zero, List.set_cons_succ]
            refine hK.out _ _ ⟨_, _, _, _, _, _, _, _, _, _, _, _, _, _, _, rfl, hay, hwz, (fun h => g4 (fun e => h (Or.inr e))), (fun h => g11 (fun e => h (Or.inr e))), fun h => h.elim (fun e => absurd e (by decide)) f0, fun h => h.elim (fun e => absurd e (by decide)) f1, fun h => h.elim (fun e => absurd e (by decide)) f2, fun h => h.elim (fun e => absurd e (by decide)) f3, fun h => h.elim (fun e => absurd e (by decide)) f4, fun h => h.elim (fun e => absurd e (by decide)) f5, fun h => h.elim (fun e => absurd e (by decide)) f6, fun _ => rfl, fun h => h.elim (fun e => absurd e (by decide)) f8, fun h => h.elim (fun e => absurd e (by decide)) (fun h => ⟨Or.inr (f9 h).1, (f9 h).2⟩), fun h => h.elim (fun e => absurd e (by decide)) (fun h => by obtain ⟨m9, y, g, a1, a2, a3, a4⟩ := f10 h; exact ⟨Or.inr m9, y, g, a1, a2, a3, fun h => a4 (fun e => h (Or.inr e))⟩), fun h => h.elim (fun e => absurd e (by decide)) (fun h => ⟨Or.inr (f11 h).1, Or.inr (f11 h).2.1, (f11 h).2.2⟩), fun h => h.elim (fun e => absurd e (by decide)) f12, fun h => h.elim (fun e => absurd e (by decide)) f13, fun h => h.elim (fun e => absurd e (by decide)) (fun h => ⟨Or.inr (f14 h).1, (f14 h).2⟩)⟩
          · -- 8
            have d5 := f5 (hd' 5 (by kernel_rfl))
            have d6 := f6 (hd' 6 (by kernel_rfl))
            have d7 := f7 (hd' 7 (by kernel_rfl))
            refine wpOp_step rfl (fun K hK => ?_)
            have hK : Shut _ := hK
            subst d5 d6 d7
            go_simp
            try simp only [Act.put, List.getElem_toArray, List.getElem_cons_succ, List.getElem_cons_zero, List.setIfInBounds_toArray, List.set_cons_zero, List.set_cons_succ]
            refine hK.out _ _ ⟨_, _, _, _, _, _, _, _, _, _, _, _, _, _, _, rfl, hay, hwz, (fun h => g4 (fun e => h (Or.inr e))), (fun h => g11 (fun e => h (Or.inr e))), fun h => h.elim (fun e => absurd e (by decide)) f0, fun h => h.elim (fun e => absurd e (by decide)) f1, fun h => h.elim (fun e => absurd e (by decide)) f2, fun h => h.elim (fun e => absurd e (by decide)) f3, fun h => h.elim (fun e => absurd e (by decide)) f4, fun _ => rfl, fun _ => rfl, fun _ => rfl, fun _ => rfl, fun h => h.elim (fun e => absurd e (by decide)) (fun h => absurd (f9 h).1 hn), fun h => h.elim (fun e => absurd e (by decide)) (fun h => absurd (f9 (f10 h).1).1 hn), fun h => h.elim (fun e => absurd e (by decide)) (fun h => absurd (f9 (f10 (f11 h).2.1).1).1 hn), fun h => h.elim (fun e => absurd e (by decide)) f12, fun h => h.elim (fun e => absurd e (by decide)) f13, fun h => h.elim (fun e => absurd e (by decide)) (fun h => absurd (f9 (f10 (f11 (f14 h).1).2.1).1).1 hn)⟩
          · -- 9
            have d8 := f8 (hd' 8 (by kernel_rfl))
            refine wpOp_step rfl (fun K hK => ?_)
            have hK : Shut _ := hK
            have m8 : D 8 := hd' 8 (by kernel_rfl)
            subst d8
            have hsr : Rd wz s.A s.n (ivs (srt cl)) := by have := rd_own hay.row; exact this
            have hir : Rd wz iA im (bvs il) := by
              rcases hin with h0 | hin
              · have hil : il = [] := List.eq_nil_of_length_eq_zero (by have := hri.len; omega)
                rw [h0, hil]; exact Rd.nil _ _
              · exact hay.fr.rd hri (fun ad h e => by rcases e with e | e; exact (hin ad h).1 e; exact (hin ad h).2 e)
            go_wp2_with (go_at_call 105; refine (store_own ⟨s, dep, ⟨iA, im, ic⟩⟩ (srt cl) il wz hsr hir (by show s.n ≤ 1000000; omega) (by show im ≤ 1000000; omega)).mono ?_; rintro e wy ⟨y, rfl, hyd, hyc, hyi, hbs⟩)
            try simp only [Act.put, List.getElem_toArray, List.getElem_cons_succ, List.getElem_cons_zero, List.setIfInBounds_toArray, List.set_cons_zero, List.set_cons_succ]
            exact ⟨_, _, _, _, _, _, _, _, _, _, _, _, _, _, _, rfl, hay.step hbs, Nat.le_trans hwz hbs.size, (fun h => g4 (fun e => h (Or.inr e))), (fun h => (g11 (fun e => h (Or.inr e))).step hbs), fun h => h.elim (fun e => absurd e (by decide)) f0, fun h => h.elim (fun e => absurd e (by decide)) f1, fun h => h.elim (fun e => absurd e (by decide)) f2, fun h => h.elim (fun e => absurd e (by decide)) f3, fun h => h.elim (fun e => absurd e (by decide)) f4, fun h => h.elim (fun e => absurd e (by decide)) f5, fun h => h.elim (fun e => absurd e (by decide)) f6, fun h => h.elim (fun e => absurd e (by decide)) f7, fun _ => rfl, fun _ => ⟨Or.inr m8, y, rfl, ⟨hyd, own_low hyc hwz, own_low hyi hwz⟩⟩, fun h => h.elim (fun e => absurd e (by decide)) (fun h => absurd (f10 h).1 hn), fun h => h.elim (fun e => absurd e (by decide)) (fun h => absurd (f10 (f11 h).2.1).1 hn), fun h => h.elim (fun e => absurd e (by decide)) f12, fun h => h.elim (fun e => absurd e (by decide)) f13, fun h => h.elim (fun e => absurd e (by decide)) (fun h => absurd (f10 (f11 (f14 h).1).2.1).1 hn)⟩
          · -- 10
            have d9 := f9 (hd' 9 (by kernel_rfl))
            refine wpOp_step rfl (fun K hK => ?_)
            have hK : Shut _ := hK
            have m9 : D 9 := hd' 9 (by kernel_rfl)
            obtain ⟨m8, y, rfl, hyo⟩ := d9
            have hyd := hide hyo
            clear hyo
            have hbs := (Below.refl wz.heap.size wz).alloc (Nat.le_refl _) (.cells y.cells 66)
            go_simp
            try simp only [Act.put, List.getElem_toArray, List.getElem_cons_succ, List.getElem_cons_zero, List.setIfInBounds_toArray, List.set_cons_zero, List.set_cons_succ]
            refine hK.out _ _ ⟨_, _, _, _, _, _, _, _, _, _, _, _, _, _, _, rfl, hay.step hbs, Nat.le_trans hwz hbs.size, (fun h => g4 (fun e => h (Or.inr e))), (fun h => (g11 (fun e => h (Or.inr e))).step hbs), fun h => h.elim (fun e => absurd e (by decide)) f0, fun h => h.elim (fun e => absurd e (by decide)) f1, fun h => h.elim (fun e => absurd e (by decide)) f2, fun h => h.elim (fun e => absurd e (by decide)) f3, fun h => h.elim (fun e => absurd e (by decide)) f4, fun h => h.elim (fun e => absurd e (by decide)) f5, fun h => h.elim (fun e => absurd e (by decide)) f6, fun h => h.elim (fun e => absurd e (by decide)) f7, fun h => h.elim (fun e => absurd e (by decide)) f8, fun _ => ⟨Or.inr m8, y, rfl, hyd.out.step hbs⟩, fun _ => ⟨Or.inr m9, y, _, rfl, hyd.out.step hbs, rfl, fun _ => Blk.new wz 66 y.cells⟩, fun h => h.elim (fun e => absurd e (by decide)) (fun h => absurd (f11 h).2.1 hn), fun h => h.elim (fun e => absurd e (by decide)) f12, fun h => h.elim (fun e => absurd e (by decide)) f13, fun h => h.elim (fun e => absurd e (by decide)) (fun h => absurd (f11 (f14 h).1).2.1 hn)⟩
          · -- 11
            have d4 := f4 (hd' 4 (by kernel_rfl))
            have d10 := f10 (hd' 10 (by kernel_rfl))
            refine wpOp_step rfl (fun K hK => ?_)
            have hK : Shut _ := hK
            have m4 : D 4 := hd' 4 (by kernel_rfl)
            have m10 : D 10 := hd' 10 (by kernel_rfl)
            obtain ⟨m9, y, g, rfl, hyo, rfl, hbg⟩ := d10
            have hbg := hbg hn
            have m8 := (f9 m9).1
            subst d4
            have hro := g11 hn
            refine step_append_at (ad := ⟨g, 0, none⟩) rfl (.tmp 55) (.tmp 61) 58 rfl (by kernel_rfl) k_kept rfl (by decide) rfl rfl hro.own (by omega) (news := encK [y]) rfl (fun k u hk => by rw [add0, hbg.cell]; simpa [encK] using hk) encK_one (by unfold maxLen; omega) (by omega) ?_
            intro v1 w1 hown hgr hloc
            have hoff : OffRow wz (Value.ownBlock s1.val) := fun g e => by obtain ⟨cs, hb⟩ := own_blk hro.own e; exact ⟨66, cs, hb, by decide, by decide⟩
            rw [← encK_app] at hown
            have hnew : Rw base w1 v1 (K1 ++ [y]) ((l.filter fun k => !strikes dep (srt cl) k) ++ [⟨srt cl, dep, il⟩]) := ⟨by simpa using hown, (hro.all.kept hgr hoff).snoc ((hyo.kept hgr hoff).low (by omega))⟩
            have hloc2 : v1.ownBlock = V.ownBlock ∨ ∃ g, v1.ownBlock = some g ∧ w.heap.size ≤ g := hloc.imp (fun e => e.trans hV2.out) (fun e => ⟨_, e, by omega⟩)
            try simp only [Act.put, List.getElem_toArray, List.getElem_cons_succ, List.getElem_cons_zero, List.setIfInBounds_toArray, List.set_cons_zero, List.set_cons_succ]
            refine hK.out _ _ ⟨_, _, _, _, _, _, _, _, _, _, _, _, _, _, _, rfl, hay.app hgr hro.own hV2.out, Nat.le_trans hwz hgr.size, (fun h => g4 (fun e => h (Or.inr e))), (fun h => (h (by simp)).elim), fun h => h.elim (fun e => absurd e (by decide)) f0, fun h => h.elim (fun e => absurd e (by decide)) f1, fun h => h.elim (fun e => absurd e (by decide)) f2, fun h => h.elim (fun e => absurd e (by decide)) f3, fun _ => rfl, fun h => h.elim (fun e => absurd e (by decide)) f5, fun h => h.elim (fun e => absurd e (by decide)) f6, fun h => h.elim (fun e => absurd e (by decide)) f7, fun h => h.elim (fun e => absurd e (by decide)) f8, fun _ => ⟨Or.inr m8, y, rfl, hyo.kept hgr hoff⟩, fun _ => ⟨Or.inr m9, y, g, rfl, hyo.kept hgr hoff, rfl, fun h => (h (by simp)).elim⟩, fun _ => ⟨Or.inr m4, Or.inr m10, y, hnew, hyo.kept hgr hoff, hloc2⟩, fun h => h.elim (fun e => absurd e (by decide)) f12, fun h => h.elim (fun e => absurd e (by decide)) f13, fun h => h.elim (fun e => absurd e (by decide)) (fun h => absurd (f14 h).1 hn)⟩
          · -- 12
            have d0 := f0 (hd' 0 (by kernel_rfl))
            refine wpOp_step rfl (fun K hK => ?_)
            have hK : Shut _ := hK
            subst d0
            go_simp
            try simp only [Act.put, List.getElem_toArray, List.getElem_cons_succ, List.getElem_cons_zero, List.setIfInBounds_toArray, List.set_cons_zero, List.set_cons_succ]
            refine hK.out _ _ ⟨_, _, _, _, _, _, _, _, _, _, _, _, _, _, _, rfl, hay, hwz, (fun h => g4 (fun e => h (Or.inr e))), (fun h => g11 (fun e => h (Or.inr e))), fun _ => rfl, fun h => h.elim (fun e => absurd e (by decide)) f1, fun h => h.elim (fun e => absurd e (by decide)) f2, fun h => h.elim (fun e => absurd e (by decide)) f3, fun h => h.elim (fun e => absurd e (by decide)) f4, fun h => h.elim (fun e => absurd e (by decide)) f5, fun h => h.elim (fun e => absurd e (by decide)) f6, fun h => h.elim (fun e => absurd e (by decide)) f7, fun h => h.elim (fun e => absurd e (by decide)) f8, fun h => h.elim (fun e => absurd e (by decide)) (fun h => ⟨Or.inr (f9 h).1, (f9 h).2⟩), fun h => h.elim (fun e => absurd e (by decide)) (fun h => by obtain ⟨m9, y, g, a1, a2, a3, a4⟩ := f10 h; exact ⟨Or.inr m9, y, g, a1, a2, a3, fun h => a4 (fun e => h (Or.inr e))⟩), fun h => h.elim (fun e => absurd e (by decide)) (fun h => ⟨Or.inr (f11 h).1, Or.inr (f11 h).2.1, (f11 h).2.2⟩), fun _ => rfl, fun h => h.elim (fun e => absurd e (by decide)) f13, fun h => h.elim (fun e => absurd e (by decide)) (fun h => ⟨Or.inr (f14 h).1, (f14 h).2⟩)⟩
          · -- 13
            have d12 := f12 (hd' 12 (by kernel_rfl))
            refine wpOp_step rfl (fun K hK => ?_)
            have hK : Shut _ := hK
            subst d12
            go_simp
            try simp only [Act.put, List.getElem_toArray, List.getElem_cons_succ, List.getElem_cons_zero, List.setIfInBounds_toArray, List.set_cons_zero, List.set_cons_succ]
            refine hK.out _ _ ⟨_, _, _, _, _, _, _, _, _, _, _, _, _, _, _, rfl, hay, hwz, (fun h => g4 (fun e => h (Or.inr e))), (fun h => g11 (fun e => h (Or.inr e))), fun h => h.elim (fun e => absurd e (by decide)) f0, fun h => h.elim (fun e => absurd e (by decide)) f1, fun h => h.elim (fun e => absurd e (by decide)) f2, fun h => h.elim (fun e => absurd e (by decide)) f3, fun h => h.elim (fun e => absurd e (by decide)) f4, fun h => h.elim (fun e => absurd e (by decide)) f5, fun h => h.elim (fun e => absurd e (by decide)) f6, fun h => h.elim (fun e => absurd e (by decide)) f7, fun h => h.elim (fun e => absurd e (by decide)) f8, fun h => h.elim (fun e => absurd e (by decide)) (fun h => ⟨Or.inr (f9 h).1, (f9 h).2⟩), fun h => h.elim (fun e => absurd e (by decide)) (fun h => by obtain ⟨m9, y, g, a1, a2, a3, a4⟩ := f10 h; exact ⟨Or.inr m9, y, g, a1, a2, a3, fun h => a4 (fun e => h (Or.inr e))⟩), fun h => h.elim (fun e => absurd e (by decide)) (fun h => ⟨Or.inr (f11 h).1, Or.inr (f11 h).2.1, (f11 h).2.2⟩), fun _ => rfl, fun _ => rfl, fun h => h.elim (fun e => absurd e (by decide)) (fun h => ⟨Or.inr (f14 h).1, (f14 h).2⟩)⟩
          · -- 14
            have d13 := f13 (hd' 13 (by kernel_rfl))
            have d11 := f11 (hd' 11 (by kernel_rfl))
            refine wpOp_step rfl (fun K hK => ?_)
            have hK : Shut _ := hK
            have m11 : D 11 := hd' 11 (by kernel_rfl)
            subst d13
            obtain ⟨m4, m10, y, hrn, hyo, hloc⟩ := d11
            have hrn0 := hide hrn
            obtain ⟨sN, rfl, hsn⟩ := own_sl hrn.own
            clear hrn hsn
            have cz : wz.cell? ⟨p, 0, none⟩ = some u := hay.bp.cell 0
            have fz := hay.bp.frozen 0
            have hrn2 := hide (hrn0.out.far (u := sN.val) hay.bp (by decide) (by decide) (by decide))
            have hy2 := hide (hyo.far (u := sN.val) hay.bp (by decide) (by decide))
            clear hrn0
            replace hyo := hide hyo
            replace hloc := hide hloc
            go_simp
            try simp only [Act.put, List.getElem_toArray, List.getElem_cons_succ, List.getElem_cons_zero, List.setIfInBounds_toArray, List.set_cons_zero, List.set_cons_succ]
            refine hK.out _ _ ⟨_, _, _, _, _, _, _, _, _, _, _, _, _, _, _, rfl, hay.put sN.val, by simpa using hwz, (fun h => (h (by simp [m4])).elim), (fun h => (h (by simp [m11])).elim), fun h => h.elim (fun e => absurd e (by decide)) f0, fun h => h.elim (fun e => absurd e (by decide)) f1, fun h => h.elim (fun e => absurd e (by decide)) f2, fun h => h.elim (fun e => absurd e (by decide)) f3, fun h => h.elim (fun e => absurd e (by decide)) f4, fun h => h.elim (fun e => absurd e (by decide)) f5, fun h => h.elim (fun e => absurd e (by decide)) f6, fun h => h.elim (fun e => absurd e (by decide)) f7, fun h => h.elim (fun e => absurd e (by decide)) f8, fun h => h.elim (fun e => absurd e (by decide)) (fun h => by obtain ⟨m8, y, a1, a2⟩ := f9 h; exact ⟨Or.inr m8, y, a1, a2.far (u := sN.val) hay.bp (by decide) (by decide)⟩), fun h => h.elim (fun e => absurd e (by decide)) (fun h => by obtain ⟨m9, y, g, a1, a2, a3, a4⟩ := f10 h; exact ⟨Or.inr m9, y, g, a1, a2.far (u := sN.val) hay.bp (by decide) (by decide), a3, fun h => (h (by simp [m11])).elim⟩), fun _ => ⟨Or.inr m4, Or.inr m10, y, hrn2.out, hy2.out, hloc.out⟩, fun h => h.elim (fun e => absurd e (by decide)) f12, fun _ => rfl, fun _ => ⟨Or.inr m11, rfl⟩⟩
        case hdone =>
          rintro D az wz hD ⟨x51, x52, x53, x54, x55, x56, x57, x58, x59, x60, x61, x62, x63, x64, u, rfl, hay, hwz, g4, g11, f0, f1, f2, f3, f4, f5, f6, f7, f8, f9, f10, f11, f12, f13, f14⟩
          obtain ⟨_, rfl⟩ := f14 (hD 14)
          obtain ⟨_, _, y, hrn, hyo, hloc⟩ := f11 (hD 11)
          have c8 : wz.cell? ⟨w.heap.size + 1, 0, none⟩ = some (.bool false) := hay.b8.cell 0
          have fz8 := hay.b8.frozen 0
          clear f0 f1 f2 f3 f4 f5 f6 f7 f8 f9 f10 f11 f12 f13 f14 g4 g11
          replace hrn := hide hrn
          replace hyo := hide hyo
          replace hloc := hide hloc
          replace hay := hide hay
          gi_wp2
          have hay := hay.out
          have hyo := hyo.out
          have b8y : Blk (wz.setCell ⟨w.heap.size + 1, 0, none⟩ (.bool true)) (w.heap.size + 1) 4 #[.bool true] := by simpa using hay.b8.set_ 0 (.bool true)
          have bpy := hay.bp.far (p := ⟨w.heap.size + 1, 0, none⟩) (by show p ≠ w.heap.size + 1; omega) (.bool true)
          have hdy := (Below.heap_setCell wz ⟨w.heap.size + 1, 0, none⟩ (.bool true) DD (blk_cells_ne hay.b8 hay.dd)).trans hay.dd
          have hry := hrn.out.far8 (u := .bool true) hay.b8 (fun x hx e => by
            rcases List.mem_append.1 hx with hx | hx
            · obtain ⟨j, hj, rfl⟩ := mem_kvAt (hK1m x hx)
              have := ((hS.all.2 j hj).i.lt _ e).2
              omega
            · rw [List.mem_singleton.1 hx] at e
              have := (hyo.i.lt _ e).1
              omega)
          have hfy : Fr (fun k => k = p ∨ V.ownBlock = some k) w (wz.setCell ⟨w.heap.size + 1, 0, none⟩ (.bool true)) := hay.fr.then (S' := fun k => k = w.heap.size + 1) ⟨rfl, rfl, rfl, by simp, fun k hk hS => Below.heap_setCell _ _ _ _ hS⟩ (fun i hi e => by omega)
          obtain ⟨wy, hwy⟩ : ∃ wy, wz.setCell ⟨w.heap.size + 1, 0, none⟩ (.bool true) = wy := ⟨_, rfl⟩
          rw [hwy] at b8y bpy hdy hry hfy ⊢
          refine ⟨by simp, .inl ⟨_, _, rfl, run_takeDeferred hdy, ?_⟩⟩
          have hro : ∀ r, some DD = some r → ∃ o : Obj, wy.heap[r]? = some o ∧ o.isCells = false := fun r e => by cases e; exact ⟨_, hdy, rfl⟩
          have gP := grownBy_putObj' wy DD (.deferred none)
          have k8 : (wy.putObj DD (.deferred none)).cell? ⟨w.heap.size + 1, 0, none⟩ = some (.bool true) := (blk_own b8y gP hro).cell 0
          refine ⟨.bool true, by simp [results, Try.results41, go_sem, k8], ?_⟩
          have hryf := hry.grown gP hro
          refine ⟨u, K1 ++ [y], by rw [hAB], ⟨blk_own bpy gP hro, hryf.own, ?_, hS.low⟩, hfy.then (Fr.of_grown (S := fun k => k = DD) gP (fun k e => .inl (by cases e; rfl))) (fun i hi e => by omega), ?_, ?_⟩
          · unfold addL; rw [hAB]; exact hryf.all
          · intro x hx
            rcases List.mem_append.1 hx with hx | hx
            · exact .inl (hK1m x hx)
            · rw [List.mem_singleton.1 hx]
              exact .inr ⟨fun g e => by have := (hyo.c.lt g e).1; omega, fun g e => by have := (hyo.i.lt g e).1; omega⟩
          · intro g e
            rcases hloc.out with h1 | ⟨g', h1, h2⟩
            · exact .inl (h1 ▸ e)
            · rw [h1] at e; injection e with e; exact .inr (by omega)
  · have hbl : Below w.heap.size w (W1.alloc (.cells #[.slice none 0 0] 40)) := (hbw.trans (hb1.mono (by simp; omega))).alloc (by have := hb1.size; simp at this; omega) _
    have b8 := (b8.below hb1 b8.lt).alloc (.cells #[.slice none 0 0] 40)
    have c8 : (W1.alloc (.cells #[.slice none 0 0] 40)).cell? ⟨w.heap.size + 1, 0, none⟩ = some (.bool false) := b8.cell 0
    have f8 := b8.frozen 0
    have hAB : addB l cl dep = false := by unfold addB; rw [hnb]; rfl
    clear b6 hN hbw
    gi_wp2
    have hb8 := b8.set_ 0 (.bool false)
    have k8 : ((W1.alloc (.cells #[.slice none 0 0] 40)).setCell ⟨w.heap.size + 1, 0, none⟩ (.bool false)).cell? ⟨w.heap.size + 1, 0, none⟩ = some (.bool false) := hb8.cell 0
    refine ⟨.bool false, by simp [results, Try.results41, go_sem, k8], ?_⟩
    exact addIs_no hAB hS (hbl.setCell (p := ⟨w.heap.size + 1, 0, none⟩) (by show w.heap.size ≤ w.heap.size + 1; omega) _)
end Go.Proofs.Ytcjoohaagdihlaa.Kept
