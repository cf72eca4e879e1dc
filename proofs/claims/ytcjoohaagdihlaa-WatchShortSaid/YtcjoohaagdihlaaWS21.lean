/- Texts behind a row, one behind the other: Begin2. -/
import Derived.Test.YtcjoohaagdihlaaWS16
section
/- The example's first look at its clause: why, and the one way of begin. -/
namespace Go.Proofs.Ytcjoohaagdihlaa.Watch
open Go.RowKit Go.Lt Go.Proofs.Ytcjoohaagdihlaa.Lit Go.Proofs.Ytcjoohaagdihlaa.Sorted Go.Proofs.Ytcjoohaagdihlaa.Learn Go.Instr
open Go.Proofs.Ytcjoohaagdihlaa.Kept (Sl Sl.val)
set_option linter.unusedVariables false
set_option linter.unusedSimpArgs false

theorem store_func (P : Program) (w : World) (a : Addr) (m : Mode) (f : Fn) (s c : Array Value) : (store a (.func f s c) m).run P w = stored P w a (.func f s c) m := run_store P w a _ m rfl
theorem run_lit1 (x : Int) (w : World) : (Instr.buildSlice 40 1 #[(0, .int .i64 x)]).run Try.prog w = .ok (.slice (some ⟨w.heap.size, 0, none⟩) 1 1) (w.alloc (.cells #[.int .i64 x] 3)) := by go_simp
theorem oper_lit1 {o : Oper} {a : Act} {w : World} {K : Act → World → Prop} {Q : Exit → Act → World → Prop} (y : Operand) (ho : o.op = .buildSlice 40 1 #[(0, y)]) (x : Int) (hx : a.eval y = .int .i64 x)
    (h : K (a.put o.dst (.slice (some ⟨w.heap.size, 0, none⟩) 1 1)) (w.alloc (.cells #[.int .i64 x] 3))) : Oper.wp Try.prog o a w K Q := by
  unfold Oper.wp execOp
  simp only [ho, Sem.run_bind, Sem.run_pure, Result.andThen_ok, List.map_toArray, List.map_cons, List.map_nil, hx, run_lit1]
  exact h
theorem lit_cell1 {W : World} {g : Nat} {t : TypeId} {x : Value} (h : Blk W g t #[x]) : ∀ j u, [x][j]? = some u → W.cell? ((⟨g, 0, none⟩ : Addr).add j) = some u := by
  intro j u hu
  cases j with
  | zero => injection hu with hu; subst hu; exact h.cell 0
  | succ j => cases j <;> cases hu
theorem why_is {W : World} {p mA mN mS mB : Nat} {n next : Int} {fv : Value} (hb : Blk W p 131 (boxS n next mA mN mS mB fv)) (hn : 0 ≤ n ∧ n ≤ 1048576) (id : Int) (hid : 0 ≤ id ∧ id ≤ 1000000) :
    Calls Try.prog 116 #[.pointer (some ⟨p, 0, none⟩), .int .i64 id] W fun e w' => e = .returned (.int .i64 (3 * (n + 1) + id)) ∧ W = w' := by
  have b0 : W.cell? ⟨p, 0, none⟩ = some (.int .i64 n) := hb.cell 0
  have e1 : IntKind.i64.wrap (n + 1) = n + 1 := IntWalk.i64_in _ (by omega)
  have e2 : IntKind.i64.wrap (3 * (n + 1)) = 3 * (n + 1) := IntWalk.i64_in _ (by omega)
  have e3 : IntKind.i64.wrap (3 * (n + 1) + id) = 3 * (n + 1) + id := IntWalk.i64_in _ (by omega)
  replace hn := hide hn
  replace hid := hide hid
  clear hb
  go_enter Try.func116, Try.ntmps116
  go_wp2
  go_ret
  exact ⟨rfl, rfl⟩
/-- the example's store: one clause of two literals -/
structure ExM (base : Nat) (W : World) (p mA mN mS mB b gc cap : Nat) (fv : Value) (al bl : List (Int × Value)) (c0 c1 : Int) (rest : List Value) : Prop where
  box : Blk W p 131 (boxS 4 1 mA mN mS mB fv)
  all : MapS W Lt.encI mA al
  short : MapS W Lt.encI mS []
  by_ : MapS W Lt.encI mB bl
  wb : Blk W b 139 #[.slice (some ⟨gc, 0, none⟩) 2 cap]
  lits : Blk W gc 3 (.int .i64 c0 :: .int .i64 c1 :: rest).toArray
  get : mget al 0 = some (.pointer (some ⟨b, 0, none⟩))
  d : mA ≠ mB ∧ mS ≠ mB
  lo : base ≤ p ∧ base ≤ mA ∧ base ≤ mS ∧ base ≤ mB ∧ base ≤ b ∧ base ≤ gc
  cap2 : 2 ≤ cap ∧ cap ≤ maxLen
section
variable {base : Nat} {W W' : World} {p mA mN mS mB b gc cap : Nat} {fv : Value} {al bl : List (Int × Value)} {c0 c1 : Int} {rest : List Value}
theorem ExM.fr {S : Nat → Prop} (h : ExM base W p mA mN mS mB b gc cap fv al bl c0 c1 rest) (hf : Fr S W W') (h1 : ¬ S p) (h2 : ¬ S mA) (h3 : ¬ S mS) (h4 : ¬ S mB) (h5 : ¬ S b) (h6 : ¬ S gc) : ExM base W' p mA mN mS mB b gc cap fv al bl c0 c1 rest :=
  ⟨hf.blk h.box h1, map_fr h.all hf h2, map_fr h.short hf h3, map_fr h.by_ hf h4, hf.blk h.wb h5, hf.blk h.lits h6, h.get, h.d, h.lo, h.cap2⟩
theorem ExM.keep (h : ExM base W p mA mN mS mB b gc cap fv al bl c0 c1 rest) (hb : Below W.heap.size W W') : ExM base W' p mA mN mS mB b gc cap fv al bl c0 c1 rest :=
  h.fr (S := fun _ => False) (Fr.of_below hb) id id id id id id
theorem ExM.pB (h : ExM base W p mA mN mS mB b gc cap fv al bl c0 c1 rest) : p ≠ mB := map_blk h.by_ h.box
/-- another map of clauses by literals -/
theorem ExM.put {bl' : List (Int × Value)} (h : ExM base W p mA mN mS mB b gc cap fv al bl c0 c1 rest) (hf : Fr (fun q => q = mB) W W') (hm : MapS W' Lt.encI mB bl') : ExM base W' p mA mN mS mB b gc cap fv al bl' c0 c1 rest :=
  ⟨hf.blk h.box (map_blk h.by_ h.box), map_fr h.all hf h.d.1, map_fr h.short hf h.d.2, hm, hf.blk h.wb (map_blk h.by_ h.wb), hf.blk h.lits (map_blk h.by_ h.lits), h.get, h.d, h.lo, h.cap2⟩
/-- the clause turned -/
theorem ExM.turn {e0 e1 : Int} (h : ExM base W p mA mN mS mB b gc cap fv al bl c0 c1 rest) (hf : Fr (fun q => q = gc) W W') (hm : Blk W' gc 3 (.int .i64 e0 :: .int .i64 e1 :: rest).toArray) : ExM base W' p mA mN mS mB b gc cap fv al bl e0 e1 rest :=
  ⟨hf.blk h.box (fun e => blk_ne h.box h.lits (by decide) e), map_fr h.all hf (fun e => map_blk h.all h.lits e.symm), map_fr h.short hf (fun e => map_blk h.short h.lits e.symm), map_fr h.by_ hf (fun e => map_blk h.by_ h.lits e.symm), hf.blk h.wb (fun e => blk_ne h.wb h.lits (by decide) e), hm, h.get, h.d, h.lo, h.cap2⟩
end
theorem TrM.fr {base : Nat} {W W' : World} {p gv gm N : Nat} {lv : Value} {vals : List Int} {mk : List Mk} {ls : List Int} {S : Nat → Prop} (h : TrM base W p gv gm N lv vals mk ls) (hf : Fr S W W') (h1 : ¬ S p) (h2 : ¬ S gv) (h3 : ¬ S gm) (h4 : ∀ g, lv.ownBlock = some g → ¬ S g) : TrM base W' p gv gm N lv vals mk ls :=
  ⟨hf.blk h.box h1, hf.blk h.vals_ h2, hf.blk h.marks h3, h.vl, h.ml, hf.own h.list h4, h.ne, h.bp, h.bv, h.bm⟩
/-- a map is no block of a trail's -/
theorem TrM.map {base : Nat} {W W' : World} {p gv gm N : Nat} {lv : Value} {vals : List Int} {mk : List Mk} {ls : List Int} {B : Nat} {ml : List (Int × Value)} (h : TrM base W p gv gm N lv vals mk ls) (hm : MapS W Lt.encI B ml) (hf : Fr (fun q => q = B) W W') : TrM base W' p gv gm N lv vals mk ls :=
  h.fr hf (map_blk hm h.box) (map_blk hm h.vals_) (map_blk hm h.marks) (fun g hg e => own_map_ne h.list hm (by rw [hg, e]))
/-- the store keeps what it is while a trail is set -/
theorem ExM.far {base : Nat} {W W' : World} {p mA mN mS mB b gc cap : Nat} {fv : Value} {al bl : List (Int × Value)} {c0 c1 : Int} {rest : List Value} {pt gv gm N : Nat} {lv : Value} {vals : List Int} {mk : List Mk} {ls : List Int}
    (h : ExM base W p mA mN mS mB b gc cap fv al bl c0 c1 rest) (ht : TrM base W pt gv gm N lv vals mk ls) (hn : gc ≠ gv ∧ some gc ≠ lv.ownBlock) (hf : ∀ g, g ≠ pt → g ≠ gv → g ≠ gm → some g ≠ lv.ownBlock → g < W.heap.size → W'.heap[g]? = W.heap[g]?) : ExM base W' p mA mN mS mB b gc cap fv al bl c0 c1 rest := by
  have hmp : ∀ {B : Nat} {ml : List (Int × Value)}, MapS W Lt.encI B ml → MapS W' Lt.encI B ml := fun hm => hm.block (hf _ (fun e => map_blk hm ht.box e.symm) (fun e => map_blk hm ht.vals_ e.symm) (fun e => map_blk hm ht.marks e.symm) (own_map_ne ht.list hm) hm.lt)
  have hbk : ∀ {g : Nat} {t : TypeId} {cs : Array Value}, Blk W g t cs → t ≠ 134 → t ≠ 3 → t ≠ 136 → Blk W' g t cs := fun hb n1 n2 n3 => (hf _ (blk_ne hb ht.box n1) (blk_ne hb ht.vals_ n2) (blk_ne hb ht.marks n3) (own_blk_ne ht.list hb (fun e => n2 e.symm)) hb.lt).trans hb
  exact ⟨hbk h.box (by decide) (by decide) (by decide), hmp h.all, hmp h.short, hmp h.by_, hbk h.wb (by decide) (by decide) (by decide), (hf _ (blk_ne h.lits ht.box (by decide)) hn.1 (blk_ne h.lits ht.marks (by decide)) hn.2 h.lits.lt).trans h.lits, h.get, h.d, h.lo, h.cap2⟩

abbrev vals1 : List Int := [0, 1, 2, 2, 2]
abbrev vals2 : List Int := [0, 1, 1, 2, 2]
abbrev mk1 : List Mk := [⟨0, -1, -1⟩, ⟨0, -1, 0⟩, zMk, zMk, zMk]
abbrev mk2 : List Mk := [⟨0, -1, -1⟩, ⟨0, -1, 0⟩, ⟨0, 15, 1⟩, zMk, zMk]
/-- behind the trail's Set of the example's literal -/
def SetP (base : Nat) (W : World) (pt gv gm : Nat) (lv : Value) (w' : World) : Prop :=
  ∃ lv', TrM base w' pt gv gm 5 lv' vals2 mk2 [2, 4] ∧ Below base W w' ∧ Fr (fun q => q = pt ∨ q = gv ∨ q = gm ∨ lv.ownBlock = some q) W w'
theorem set_ex {base : Nat} {W : World} {pt gv gm : Nat} {lv : Value} (ht : TrM base W pt gv gm 5 lv vals1 mk1 [2]) (hbase : base ≤ W.heap.size) :
    Calls Try.prog 109 #[.pointer (some ⟨pt, 0, none⟩), .int .i64 4, .int .i64 15] W fun e w' => e = .returned (.int .i64 0) ∧ SetP base W pt gv gm lv w' := by
  refine (trail_Set ht hbase (by decide) (x := 4) (by rfl) (by rfl) (by decide) (by decide) 15).mono ?_
  rintro e w' ⟨rfl, lv', h1, h2, h3⟩
  exact ⟨rfl, lv', h1, h2, ⟨h2.os, h2.tape, h2.output, h2.size, fun k hk hn => h3 k (fun e => hn (.inl e)) (fun e => hn (.inr (.inl e))) (fun e => hn (.inr (.inr (.inl e)))) (fun e => hn (.inr (.inr (.inr e.symm)))) hk⟩⟩
theorem setP_of {base : Nat} {W W2 w' : World} {pt gv gm : Nat} {lv : Value} (hb : Below W.heap.size W W2) (hbase : base ≤ W.heap.size) (h : SetP base W2 pt gv gm lv w') : SetP base W pt gv gm lv w' := by
  obtain ⟨lv', h1, h2, h3⟩ := h
  exact ⟨lv', h1, (hb.mono hbase).trans h2, (Fr.of_below hb).trans h3⟩
theorem why_ex {W : World} {p mA mN mS mB : Nat} {fv : Value} (hb : Blk W p 131 (boxS 4 1 mA mN mS mB fv)) :
    Calls Try.prog 116 #[.pointer (some ⟨p, 0, none⟩), .int .i64 0] W fun e w' => e = .returned (.int .i64 15) ∧ W = w' := why_is hb (by decide) 0 (by decide)
set_option maxRecDepth 8000 in
theorem begin_ex {base : Nat} {W : World} {p mA mN mS mB b gc cap : Nat} {fv : Value} {al : List (Int × Value)} {rest : List Value} {pt gv gm : Nat} {lv : Value}
    (h : ExM base W p mA mN mS mB b gc cap fv al [] 3 4 rest) (ht : TrM base W pt gv gm 5 lv vals1 mk1 [2]) (hn : gc ≠ gv ∧ some gc ≠ lv.ownBlock) :
    Calls Try.prog 117 #[.pointer (some ⟨p, 0, none⟩), .pointer (some ⟨pt, 0, none⟩), .int .i64 0] W fun e w' => e = .returned (.bool false) ∧ ∃ (lv' v1 : Value) (v2 : Sl), v2.n = 1 ∧ w'.ownsRow base 3 1 v2.val 1 (ivs [0]) ∧
      ExM base w' p mA mN mS mB b gc cap fv al [(4, v1), (3, v2.val)] 4 3 rest ∧ TrM base w' pt gv gm 5 lv' vals2 mk2 [2, 4] ∧ Below base W w' := by
  have hsf := store_func Try.prog
  have hbase : base ≤ W.heap.size := Nat.le_trans h.lo.1 (Nat.le_of_lt h.box.lt)
  have hbA := (Below.refl W.heap.size W).alloc (Nat.le_refl _) (.cells #[.pointer (some ⟨pt, 0, none⟩)] 83)
  have hg4 := Blk.new W 83 #[.pointer (some ⟨pt, 0, none⟩)]
  obtain ⟨W1, hW1⟩ : ∃ W1, W.alloc (.cells #[.pointer (some ⟨pt, 0, none⟩)] 83) = W1 := ⟨_, rfl⟩
  have hbB := (Below.refl W1.heap.size W1).alloc (Nat.le_refl _) (.cells #[.func (.func 144) #[] #[.pointer (some ⟨W.heap.size, 0, none⟩)]] 53)
  have hg8 := Blk.new W1 53 #[.func (.func 144) #[] #[.pointer (some ⟨W.heap.size, 0, none⟩)]]
  obtain ⟨g4, eg4⟩ : ∃ g4, W.heap.size = g4 := ⟨_, rfl⟩
  have hX1 := h.keep (hW1 ▸ hbA)
  have hT1 := ht.keep (hW1 ▸ hbA)
  rw [hW1] at hbA hg4
  rw [eg4] at hg4 hg8 hbB
  obtain ⟨g8, eg8⟩ : ∃ g8, W1.heap.size = g8 := ⟨_, rfl⟩
  obtain ⟨W2, hW2⟩ : ∃ W2, W1.alloc (.cells #[.func (.func 144) #[] #[.pointer (some ⟨g4, 0, none⟩)]] 53) = W2 := ⟨_, rfl⟩
  rw [hW2] at hg8 hbB
  rw [eg8] at hg8
  have hX2 := hX1.keep hbB
  have hT2 := hT1.keep hbB
  have hG4 := hg4.below hbB hg4.lt
  have HS := hide (sort2_stable gc cap 3 4 (0 - 1048577) rest (.pointer (some ⟨g8, 0, none⟩)) W2 hX2.lits (by decide) (fun W' hb' => begin2_is (Lx := 1048577) (Ly := 0) (hg8.below hb' hg8.lt)
    (fun W'' hb'' => late_free ((hT2.keep hb').keep hb'') (by decide) ((hG4.below hb' hG4.lt).below hb'' (hG4.below hb' hG4.lt).lt) (v := 2) (by rfl) (by decide))
    (fun W'' hb'' => late_zero ((hT2.keep hb').keep hb'') (by decide) ((hG4.below hb' hG4.lt).below hb'' (hG4.below hb' hG4.lt).lt) (by rfl) (k := 1) (by decide) (by rfl) (a := 1) (m := ⟨0, -1, 0⟩) (by rfl) (by decide) (by rfl)) (by decide)))
  have hb2 := hide ((hbA.mono hbase).trans (hbB.mono (Nat.le_trans hbase hbA.size)))
  have k2 : W1.cell? ⟨p, 2, none⟩ = some (.map (some mA)) := hX1.box.cell 2
  have hga : ((mget al 0).getD (.pointer none)) = .pointer (some ⟨b, 0, none⟩) := by rw [h.get]; rfl
  have hcap := hide h.cap2
  have hcap2 : 2 ≤ cap := h.cap2.1
  have hw0 : W1.cell? ⟨b, 0, none⟩ = some (.slice (some ⟨gc, 0, none⟩) 2 cap) := hX1.wb.cell 0
  replace hX1 := hide hX1
  replace hT2 := hide hT2
  replace hX2 := hide hX2
  replace hG4 := hide hG4
  replace hn := hide hn
  have hallW := h.all.lt
  clear h ht hbA hbB hg4 hg8 hT1
  go_enter Try.func117, Try.ntmps117
  go_wp2_with (at_lookup; refine wpList_lookupO (keyLaw_int Try.underlying3) mapAU zero_pw rfl _ _ rfl hX1.out.all.toO 0 (by rfl) (by rfl) ?_; rw [hga])
  refine HS.out.mono ?_
  rintro e w3 ⟨⟨vr, rfl⟩, hl3, hf3⟩
  have hX3 := hX2.out.turn hf3 hl3
  have hT3 := hT2.out.fr hf3 (blk_ne hT2.out.box hX2.out.lits (by decide)) (fun e => hn.out.1 e.symm) (blk_ne hT2.out.marks hX2.out.lits (by decide)) (fun g hg e => hn.out.2 (by rw [hg, e]))
  have hG3 := hf3.blk hG4.out (blk_ne hG4.out hX2.out.lits (by decide))
  have hb3 := hide (hb2.out.trans (hf3.below (Nat.le_trans hbase (by have := hb2.out.size; omega)) (fun g e => by rw [e]; exact hX3.lo.2.2.2.2.2)))
  have hb3s := hb3.out.size
  have hbase3 : base ≤ w3.heap.size := Nat.le_trans hbase hb3s
  have l0 : w3.cell? ⟨gc, 0, none⟩ = some (.int .i64 4) := blk_list hX3.lits 0
  have l1 : w3.cell? ⟨gc, 1, none⟩ = some (.int .i64 3) := blk_list hX3.lits 1
  have k6w : w3.cell? ⟨p, 6, none⟩ = some (.map (some mB)) := hX3.box.cell 6
  have pB := hX3.pB
  have gB : gc ≠ mB := map_blk hX3.by_ hX3.lits
  have hby3 := hide hX3.by_
  have hT3lt := hide (show gv < w3.heap.size ∧ pt < w3.heap.size ∧ gm < w3.heap.size ∧ ∀ g, lv.ownBlock = some g → g < w3.heap.size from ⟨hT3.vals_.lt, hT3.box.lt, hT3.marks.lt, fun g hg => by rcases own_cases hT3.list with ⟨h2, _⟩ | ⟨g2, cap, h2, _, h3, _⟩ <;> rw [h2] at hg <;> cases hg; exact h3⟩)
  replace hX3 := hide hX3
  replace hT3 := hide hT3
  replace hG3 := hide hG3
  clear hl3 hf3 hX2 hT2 hG4 hb2 HS hX1 k2 hw0 hW1 hW2
  go_wp2
  go_loopw [27] (fun i wr => ∃ (k : Nat) (bl : List (Int × Value)), k ≤ 2 ∧ i = .int .i64 k ∧ Hid (Fr (fun q => q = mB) w3 wr) ∧ Hid (MapS wr Lt.encI mB bl) ∧ Hid (k = 0 → bl = []) ∧ Hid (k = 1 → ∃ v, bl = [(4, v)]) ∧ Hid (k = 2 → ∃ (v1 : Value) (v2 : Sl), bl = [(4, v1), (3, v2.val)] ∧ v2.n = 1 ∧ wr.ownsRow w3.heap.size 3 1 v2.val 1 (ivs [0]))) (fun i _ => 2 - (intOf i).toNat)
  case atStart => exact ⟨0, [], by omega, rfl, hide (Fr.refl _ _), hby3, hide (fun _ => rfl), hide (fun e => absurd e (by decide)), hide (fun e => absurd e (by decide))⟩
  case round =>
    obtain ⟨k, bl, hk, rfl, hfr, hmap, hk0, hk1, hk2⟩ := hrel
    by_cases hlt : k < 2
    · have hltI : (k : Int) < 2 := by omega
      have k6 := hfr.out.cell k6w pB
      obtain ⟨x, hx, hget, hxl⟩ : ∃ x : Int, wr.cell? ⟨gc, k, none⟩ = some (.int .i64 x) ∧ (mget bl x).getD (.slice none 0 0) = .slice none 0 0 ∧ Hid (x = if k = 0 then 4 else 3) := by
        rcases (show k = 0 ∨ k = 1 by omega) with rfl | rfl
        · have e := hk0.out rfl
          subst e
          exact ⟨4, hfr.out.cell l0 gB, rfl, hide rfl⟩
        · obtain ⟨v, e⟩ := hk1.out rfl
          subst e
          exact ⟨3, hfr.out.cell l1 gB, rfl, hide rfl⟩
      have hwrs := hfr.out.size
      go_wp2
      refine wp_region_slots [31, 32, 33, 34, 35, 36, 37, 38, 39, 40, 41, 42, 43, 44] (fun D g wz => g 0 = .pointer (some ⟨p, 0, none⟩) ∧ g 10 = .int .i64 x ∧ g 2 = .int .i64 0 ∧ Fr (fun q => q = mB) wr wz ∧ (¬ D 14 → Below wr.heap.size wr wz) ∧ (D 14 → D 13) ∧ (D 13 → D 10) ∧ (D 13 → D 12) ∧ (D 0 → g 31 = .pointer (some ⟨p, 0, none⟩)) ∧ (D 1 → g 32 = .pointer (some ⟨p, 0, none⟩)) ∧ (D 2 → g 33 = .pointer (some ⟨p, 6, none⟩)) ∧ (D 3 → g 34 = .map (some mB)) ∧ (D 4 → g 35 = .int .i64 x) ∧ (D 5 → g 36 = .pointer (some ⟨p, 0, none⟩)) ∧ (D 6 → g 37 = .pointer (some ⟨p, 0, none⟩)) ∧ (D 7 → g 38 = .pointer (some ⟨p, 6, none⟩)) ∧ (D 8 → g 39 = .map (some mB)) ∧ (D 9 → g 40 = .int .i64 x) ∧ (D 10 → g 41 = .slice none 0 0) ∧ (D 11 → g 42 = .int .i64 0) ∧ (D 12 → ∃ gb, g 43 = .slice (some ⟨gb, 0, none⟩) 1 1 ∧ Blk wz gb 3 #[.int .i64 0]) ∧ (D 13 → ∃ v2 : Sl, g 44 = v2.val ∧ v2.n = 1 ∧ wz.ownsRow wr.heap.size 3 1 v2.val 1 (ivs [0])) ∧ (D 14 → ∃ v2 : Sl, v2.n = 1 ∧ wz.ownsRow wr.heap.size 3 1 v2.val 1 (ivs [0]) ∧ MapS wz Lt.encI mB (mput bl x v2.val))) (by kernel_rfl) (by kernel_rfl) 61 rfl (by kernel_rfl) ?h0 ?hstep ?hdone
      case h0 => exact ⟨rfl, rfl, rfl, Fr.of_below ((Dr.refl wr).drew.below _), (fun _ => (Dr.refl wr).drew.below _), nt0, nt0, nt0, nt0, nt0, nt0, nt0, nt0, nt0, nt0, nt0, nt0, nt0, nt0, nt0, nt0, nt0, nt0⟩
      case hstep =>
        intro D g wz i hi' hn hd' hI2
        obtain ⟨r0, r10, r2, hfz, lw, c14, c13, e13, f0, f1, f2, f3, f4, f5, f6, f7, f8, f9, f10, f11, f12, f13, f14⟩ := hI2
        have hi' : i < 15 := hi'
        rcases (show i = 0 ∨ i = 1 ∨ i = 2 ∨ i = 3 ∨ i = 4 ∨ i = 5 ∨ i = 6 ∨ i = 7 ∨ i = 8 ∨ i = 9 ∨ i = 10 ∨ i = 11 ∨ i = 12 ∨ i = 13 ∨ i = 14 by omega) with rfl | rfl | rfl | rfl | rfl | rfl | rfl | rfl | rfl | rfl | rfl | rfl | rfl | rfl | rfl
        · -- 0
          refine slot_step rfl rfl (fun az hs K hK => ?_)
          have hK : Shut _ := hK
          have e0 := hs.get 0
          rw [r0] at e0
          go_simp
          exact hK.out _ _ ⟨r0, r10, r2, hfz, (fun h => lw (fun e => h (Or.inr e))), (fun h => h.elim (fun e => absurd e (by decide)) (fun h => Or.inr (c14 h))), (fun h => h.elim (fun e => absurd e (by decide)) (fun h => Or.inr (c13 h))), (fun h => h.elim (fun e => absurd e (by decide)) (fun h => Or.inr (e13 h))), fun _ => rfl, kp f1, kp f2, kp f3, kp f4, kp f5, kp f6, kp f7, kp f8, kp f9, kp f10, kp f11, kp f12, kp f13, kp f14⟩
        · -- 1
          have d0 := f0 (hd' 0 (by kernel_rfl))
          refine slot_step rfl rfl (fun az hs K hK => ?_)
          have hK : Shut _ := hK
          have e31 := hs.get 31
          rw [d0] at e31
          go_simp
          exact hK.out _ _ ⟨r0, r10, r2, hfz, (fun h => lw (fun e => h (Or.inr e))), (fun h => h.elim (fun e => absurd e (by decide)) (fun h => Or.inr (c14 h))), (fun h => h.elim (fun e => absurd e (by decide)) (fun h => Or.inr (c13 h))), (fun h => h.elim (fun e => absurd e (by decide)) (fun h => Or.inr (e13 h))), kp f0, fun _ => rfl, kp f2, kp f3, kp f4, kp f5, kp f6, kp f7, kp f8, kp f9, kp f10, kp f11, kp f12, kp f13, kp f14⟩
        · -- 2
          have d1 := f1 (hd' 1 (by kernel_rfl))
          refine slot_step rfl rfl (fun az hs K hK => ?_)
          have hK : Shut _ := hK
          have e32 := hs.get 32
          rw [d1] at e32
          go_simp
          exact hK.out _ _ ⟨r0, r10, r2, hfz, (fun h => lw (fun e => h (Or.inr e))), (fun h => h.elim (fun e => absurd e (by decide)) (fun h => Or.inr (c14 h))), (fun h => h.elim (fun e => absurd e (by decide)) (fun h => Or.inr (c13 h))), (fun h => h.elim (fun e => absurd e (by decide)) (fun h => Or.inr (e13 h))), kp f0, kp f1, fun _ => rfl, kp f3, kp f4, kp f5, kp f6, kp f7, kp f8, kp f9, kp f10, kp f11, kp f12, kp f13, kp f14⟩
        · -- 3
          have d2 := f2 (hd' 2 (by kernel_rfl))
          refine slot_step rfl rfl (fun az hs K hK => ?_)
          have hK : Shut _ := hK
          have cz := hfz.cell k6 pB
          have e33 := hs.get 33
          rw [d2] at e33
          go_simp
          exact hK.out _ _ ⟨r0, r10, r2, hfz, (fun h => lw (fun e => h (Or.inr e))), (fun h => h.elim (fun e => absurd e (by decide)) (fun h => Or.inr (c14 h))), (fun h => h.elim (fun e => absurd e (by decide)) (fun h => Or.inr (c13 h))), (fun h => h.elim (fun e => absurd e (by decide)) (fun h => Or.inr (e13 h))), kp f0, kp f1, kp f2, fun _ => rfl, kp f4, kp f5, kp f6, kp f7, kp f8, kp f9, kp f10, kp f11, kp f12, kp f13, kp f14⟩
        · -- 4
          refine slot_step rfl rfl (fun az hs K hK => ?_)
          have hK : Shut _ := hK
          have e10 := hs.get 10
          rw [r10] at e10
          go_simp
          exact hK.out _ _ ⟨r0, r10, r2, hfz, (fun h => lw (fun e => h (Or.inr e))), (fun h => h.elim (fun e => absurd e (by decide)) (fun h => Or.inr (c14 h))), (fun h => h.elim (fun e => absurd e (by decide)) (fun h => Or.inr (c13 h))), (fun h => h.elim (fun e => absurd e (by decide)) (fun h => Or.inr (e13 h))), kp f0, kp f1, kp f2, kp f3, fun _ => rfl, kp f5, kp f6, kp f7, kp f8, kp f9, kp f10, kp f11, kp f12, kp f13, kp f14⟩
        · -- 5
          refine slot_step rfl rfl (fun az hs K hK => ?_)
          have hK : Shut _ := hK
          have e0 := hs.get 0
          rw [r0] at e0
          go_simp
          exact hK.out _ _ ⟨r0, r10, r2, hfz, (fun h => lw (fun e => h (Or.inr e))), (fun h => h.elim (fun e => absurd e (by decide)) (fun h => Or.inr (c14 h))), (fun h => h.elim (fun e => absurd e (by decide)) (fun h => Or.inr (c13 h))), (fun h => h.elim (fun e => absurd e (by decide)) (fun h => Or.inr (e13 h))), kp f0, kp f1, kp f2, kp f3, kp f4, fun _ => rfl, kp f6, kp f7, kp f8, kp f9, kp f10, kp f11, kp f12, kp f13, kp f14⟩
        · -- 6
          have d5 := f5 (hd' 5 (by kernel_rfl))
          refine slot_step rfl rfl (fun az hs K hK => ?_)
          have hK : Shut _ := hK
          have e36 := hs.get 36
          rw [d5] at e36
          go_simp
          exact hK.out _ _ ⟨r0, r10, r2, hfz, (fun h => lw (fun e => h (Or.inr e))), (fun h => h.elim (fun e => absurd e (by decide)) (fun h => Or.inr (c14 h))), (fun h => h.elim (fun e => absurd e (by decide)) (fun h => Or.inr (c13 h))), (fun h => h.elim (fun e => absurd e (by decide)) (fun h => Or.inr (e13 h))), kp f0, kp f1, kp f2, kp f3, kp f4, kp f5, fun _ => rfl, kp f7, kp f8, kp f9, kp f10, kp f11, kp f12, kp f13, kp f14⟩
        · -- 7
          have d6 := f6 (hd' 6 (by kernel_rfl))
          refine slot_step rfl rfl (fun az hs K hK => ?_)
          have hK : Shut _ := hK
          have e37 := hs.get 37
          rw [d6] at e37
          go_simp
          exact hK.out _ _ ⟨r0, r10, r2, hfz, (fun h => lw (fun e => h (Or.inr e))), (fun h => h.elim (fun e => absurd e (by decide)) (fun h => Or.inr (c14 h))), (fun h => h.elim (fun e => absurd e (by decide)) (fun h => Or.inr (c13 h))), (fun h => h.elim (fun e => absurd e (by decide)) (fun h => Or.inr (e13 h))), kp f0, kp f1, kp f2, kp f3, kp f4, kp f5, kp f6, fun _ => rfl, kp f8, kp f9, kp f10, kp f11, kp f12, kp f13, kp f14⟩
        · -- 8
          have d7 := f7 (hd' 7 (by kernel_rfl))
          refine slot_step rfl rfl (fun az hs K hK => ?_)
          have hK : Shut _ := hK
          have cz := hfz.cell k6 pB
          have e38 := hs.get 38
          rw [d7] at e38
          go_simp
          exact hK.out _ _ ⟨r0, r10, r2, hfz, (fun h => lw (fun e => h (Or.inr e))), (fun h => h.elim (fun e => absurd e (by decide)) (fun h => Or.inr (c14 h))), (fun h => h.elim (fun e => absurd e (by decide)) (fun h => Or.inr (c13 h))), (fun h => h.elim (fun e => absurd e (by decide)) (fun h => Or.inr (e13 h))), kp f0, kp f1, kp f2, kp f3, kp f4, kp f5, kp f6, kp f7, fun _ => rfl, kp f9, kp f10, kp f11, kp f12, kp f13, kp f14⟩
        · -- 9
          refine slot_step rfl rfl (fun az hs K hK => ?_)
          have hK : Shut _ := hK
          have e10 := hs.get 10
          rw [r10] at e10
          go_simp
          exact hK.out _ _ ⟨r0, r10, r2, hfz, (fun h => lw (fun e => h (Or.inr e))), (fun h => h.elim (fun e => absurd e (by decide)) (fun h => Or.inr (c14 h))), (fun h => h.elim (fun e => absurd e (by decide)) (fun h => Or.inr (c13 h))), (fun h => h.elim (fun e => absurd e (by decide)) (fun h => Or.inr (e13 h))), kp f0, kp f1, kp f2, kp f3, kp f4, kp f5, kp f6, kp f7, kp f8, fun _ => rfl, kp f10, kp f11, kp f12, kp f13, kp f14⟩
        · -- 10
          have d8 := f8 (hd' 8 (by kernel_rfl))
          have d9 := f9 (hd' 9 (by kernel_rfl))
          refine slot_step rfl rfl (fun az hs K hK => ?_)
          have hK : Shut _ := hK
          have hmz := (hmap.out.below (lw (fun h => hn (c13 (c14 h)))) hmap.out.lt).toO
          have e39 := hs.get 39
          rw [d8] at e39
          have e40 := hs.get 40
          rw [d9] at e40
          refine oper_lookupO (keyLaw_int Try.underlying3) mapNU zero_sl (.tmp 39) (.tmp 40) rfl hmz x (hs.eval d8) (hs.eval d9) ?_
          exact hK.out ((mget bl x).getD (.slice none 0 0)) _ ⟨r0, r10, r2, hfz, (fun h => lw (fun e => h (Or.inr e))), (fun h => h.elim (fun e => absurd e (by decide)) (fun h => Or.inr (c14 h))), (fun h => h.elim (fun e => absurd e (by decide)) (fun h => Or.inr (c13 h))), (fun h => h.elim (fun e => absurd e (by decide)) (fun h => Or.inr (e13 h))), kp f0, kp f1, kp f2, kp f3, kp f4, kp f5, kp f6, kp f7, kp f8, kp f9, fun _ => hget, kp f11, kp f12, kp f13, kp f14⟩
        · -- 11
          refine slot_step rfl rfl (fun az hs K hK => ?_)
          have hK : Shut _ := hK
          have e2 := hs.get 2
          rw [r2] at e2
          go_simp
          exact hK.out _ _ ⟨r0, r10, r2, hfz, (fun h => lw (fun e => h (Or.inr e))), (fun h => h.elim (fun e => absurd e (by decide)) (fun h => Or.inr (c14 h))), (fun h => h.elim (fun e => absurd e (by decide)) (fun h => Or.inr (c13 h))), (fun h => h.elim (fun e => absurd e (by decide)) (fun h => Or.inr (e13 h))), kp f0, kp f1, kp f2, kp f3, kp f4, kp f5, kp f6, kp f7, kp f8, kp f9, kp f10, fun _ => rfl, kp f12, kp f13, kp f14⟩
        · -- 12
          have d11 := f11 (hd' 11 (by kernel_rfl))
          refine slot_step rfl rfl (fun az hs K hK => ?_)
          have hK : Shut _ := hK
          have hbw := (Below.refl wz.heap.size wz).alloc (Nat.le_refl _) (.cells #[.int .i64 0] 3)
          have hnd : ¬ D 14 := fun h => hn (e13 (c14 h))
          have e42 := hs.get 42
          rw [d11] at e42
          refine oper_lit1 (.tmp 42) rfl 0 (hs.eval d11) ?_
          exact hK.out (.slice (some ⟨wz.heap.size, 0, none⟩) 1 1) (wz.alloc (.cells #[.int .i64 0] 3)) ⟨r0, r10, r2, hfz.trans (Fr.of_below hbw), (fun h => (lw (fun e => h (Or.inr e))).trans (hbw.mono (lw (fun e => h (Or.inr e))).size)), (fun h => h.elim (fun e => absurd e (by decide)) (fun h => Or.inr (c14 h))), (fun h => h.elim (fun e => absurd e (by decide)) (fun h => Or.inr (c13 h))), (fun h => h.elim (fun e => absurd e (by decide)) (fun h => Or.inr (e13 h))), kp f0, kp f1, kp f2, kp f3, kp f4, kp f5, kp f6, kp f7, kp f8, kp f9, kp f10, kp f11, fun _ => ⟨wz.heap.size, rfl, Blk.new wz _ _⟩, fun h => h.elim (fun e => absurd e (by decide)) (fun h => absurd (e13 h) hn), fun h => h.elim (fun e => absurd e (by decide)) (fun h => absurd (e13 (c14 h)) hn)⟩
        · -- 13
          have d10 := f10 (hd' 10 (by kernel_rfl))
          have d12 := f12 (hd' 12 (by kernel_rfl))
          refine slot_step rfl rfl (fun az hs K hK => ?_)
          have hK : Shut _ := hK
          have hnd : ¬ D 14 := fun h => hn (c14 h)
          obtain ⟨gb, eg, hbk⟩ := d12
          obtain ⟨inf, hi0, hiz, his, hib⟩ := info_parts info_i
          refine wp_append_own wz (.tmp 41) (.tmp 43) 40 rfl wr.heap.size 3 inf _ 1 8 Try.underlying40 hi0 hiz his hib rfl (by decide) (.slice none 0 0) 0 [] (hs.eval d10) (World.ownsRow_nil _ _ _ _) ⟨gb, 0, none⟩ 1 1 [.int .i64 0] (hs.eval eg) rfl (lit_cell1 hbk) (by intro u hu; rw [List.mem_singleton] at hu; subst hu; rfl) (by unfold maxLen; omega) (by omega) hfz.size ?_
          intro v2 w2 hown2 hgr _
          obtain ⟨A2, c2, rfl, _, _, _⟩ := Rd.of_own hown2
          have hbw := (Fr.of_grown (S := fun _ => False) hgr (fun k e => by cases e)).below (Nat.le_refl _) (fun k e => e.elim)
          exact hK.out _ _ ⟨r0, r10, r2, hfz.trans (Fr.of_below hbw), (fun h => (lw (fun e => h (Or.inr e))).trans (hbw.mono (lw (fun e => h (Or.inr e))).size)), (fun h => h.elim (fun e => absurd e (by decide)) (fun h => Or.inr (c14 h))), (fun _ => Or.inr (hd' 10 (by kernel_rfl))), (fun _ => Or.inr (hd' 12 (by kernel_rfl))), kp f0, kp f1, kp f2, kp f3, kp f4, kp f5, kp f6, kp f7, kp f8, kp f9, kp f10, kp f11, fun h => h.elim (fun e => absurd e (by decide)) (fun h => let ⟨gb, e1, e2⟩ := f12 h; ⟨gb, e1, e2.below hbw e2.lt⟩), fun _ => ⟨⟨A2, 1, c2⟩, rfl, rfl, hown2⟩, fun h => h.elim (fun e => absurd e (by decide)) (fun h => absurd (c14 h) hn)⟩
        · -- 14
          have d3 := f3 (hd' 3 (by kernel_rfl))
          have d4 := f4 (hd' 4 (by kernel_rfl))
          have d13 := f13 (hd' 13 (by kernel_rfl))
          refine slot_step rfl rfl (fun az hs K hK => ?_)
          have hK : Shut _ := hK
          obtain ⟨v2, e13v, ev2, hown2⟩ := d13
          have hmz := hmap.out.below (lw hn) hmap.out.lt
          have e34 := hs.get 34
          rw [d3] at e34
          have e35 := hs.get 35
          rw [d4] at e35
          refine oper_updateS (keyLaw_int Try.underlying3) mapNU (.tmp 34) (.tmp 35) (.tmp 44) rfl hmz x v2.val (hs.eval d3) (hs.eval d4) (hs.eval e13v) ?_
          intro wy hm2 hgr hsz2
          have hf2 := (Fr.of_grown hgr (fun q e => .inl (by cases e; rfl)) : Fr (fun q => q = mB) wz wy)
          exact hK.out undef _ ⟨r0, r10, r2, hfz.trans hf2, (fun h => (h (by simp)).elim), (fun _ => Or.inr (hd' 13 (by kernel_rfl))), (fun h => h.elim (fun e => absurd e (by decide)) (fun h => Or.inr (c13 h))), (fun h => h.elim (fun e => absurd e (by decide)) (fun h => Or.inr (e13 h))), kp f0, kp f1, kp f2, kp f3, kp f4, kp f5, kp f6, kp f7, kp f8, kp f9, kp f10, kp f11, fun h => h.elim (fun e => absurd e (by decide)) (fun h => let ⟨gb, e1, e2⟩ := f12 h; ⟨gb, e1, hf2.blk e2 (map_blk hmz e2)⟩), fun h => h.elim (fun e => absurd e (by decide)) (fun h => let ⟨v2, e1, e2, e3⟩ := f13 h; ⟨v2, e1, e2, e3.kept hgr (.inr (fun e => own_map_ne e3 hmz e.symm))⟩), fun _ => ⟨v2, ev2, hown2.kept hgr (.inr (fun e => own_map_ne hown2 hmz e.symm)), hm2⟩⟩
      case hdone =>
        rintro D g wz hD ⟨r0, r10, r2, hfz, lw, c14, c13, e13, f0, f1, f2, f3, f4, f5, f6, f7, f8, f9, f10, f11, f12, f13, f14⟩
        simp only [setAll, List.foldl_cons, List.foldl_nil, List.setIfInBounds_toArray, List.set_cons_succ, List.set_cons_zero]
        have hmA := f14 (hD 14)
        clear f0 f1 f2 f3 f4 f5 f6 f7 f8 f9 f10 f11 f12 f13 f14 hD r0 r10 r2 lw c14 c13 e13
        obtain ⟨v2, ev2, hown2, hm2⟩ := hmA
        have hfN := hide (hfr.out.trans hfz)
        have hmN := hide hm2
        have h1N : Hid (k + 1 = 1 → ∃ v, mput bl x v2.val = [(4, v)]) := hide (fun e => by
          have e0 : k = 0 := by omega
          have := hk0.out e0
          subst this
          have := hxl.out
          rw [if_pos e0] at this
          subst this
          exact ⟨v2.val, rfl⟩)
        have h2N : Hid (k + 1 = 2 → ∃ (v1 : Value) (v3 : Sl), mput bl x v2.val = [(4, v1), (3, v3.val)] ∧ v3.n = 1 ∧ wz.ownsRow w3.heap.size 3 1 v3.val 1 (ivs [0])) := hide (fun e => by
          have e0 : k = 1 := by omega
          obtain ⟨v, hv⟩ := hk1.out e0
          subst hv
          have := hxl.out
          rw [if_neg (by omega)] at this
          subst this
          exact ⟨v, v2, rfl, ev2, own_base hown2 hwrs⟩)
        clear hfz hown2 hm2 hmap hfr hk0 hk1 hk2 hxl hget hx k6
        go_wp2
        go_roundw
        case rel => exact ⟨k + 1, _, by omega, by go_num, hfN, hmN, hide (fun e => absurd e (by omega)), h1N, h2N⟩
        case measure => simp [intOf]; omega
    · have hk : k = 2 := by omega
      subst hk
      obtain ⟨v1, v2, rfl, ev2, hown2⟩ := hk2.out rfl
      have hX4 := hX3.out.put hfr.out hmap.out
      have hT4 := hT3.out.map hby3.out hfr.out
      have hg4c : wr.cell? ⟨g4, 0, none⟩ = some (.pointer (some ⟨pt, 0, none⟩)) := hfr.out.cell (hG3.out.cell 0) (map_blk hby3.out hG3.out)
      have HV := hide (fun (W' : World) (hb' : Below wr.heap.size wr W') => value_is (hT4.keep hb') (by decide) (x := 3) (v := 0) (by rfl))
      have m0 : wr.cell? ⟨gc, 0, none⟩ = some (.int .i64 4) := blk_list hX4.lits 0
      have m1 : wr.cell? ⟨gc, 1, none⟩ = some (.int .i64 3) := blk_list hX4.lits 1
      have hb4 := hide (hb3.out.trans (hfr.out.below hbase3 (fun g e => by rw [e]; exact hX4.lo.2.2.2.1)))
      have hsz4 := hfr.out.size
      obtain ⟨w4, hw4⟩ : ∃ w4, w4 = wr := ⟨_, rfl⟩
      subst hw4
      replace hX4 := hide hX4
      replace hT4 := hide hT4
      replace hown2 := hide hown2
      have gl4 := (hfr.out.blk hG3.out (map_blk hby3.out hG3.out)).lt
      have glc := hX4.out.lits.lt
      clear hX3 hT3 hG3 hfr hmap hk0 hk1 hk2 hb3 l0 l1 k6w
      go_wp2
      refine wp_region_slots [46, 47, 48, 49, 50, 51] (fun D g wz => g 4 = .pointer (some ⟨g4, 0, none⟩) ∧ g 7 = .slice (some ⟨gc, 0, none⟩) 2 cap ∧ Below w4.heap.size w4 wz ∧ (D 0 → g 46 = .pointer (some ⟨pt, 0, none⟩)) ∧ (D 1 → g 47 = .slice (some ⟨gc, 0, none⟩) 2 cap) ∧ (D 2 → g 48 = .pointer (some ⟨gc, 1, none⟩)) ∧ (D 3 → g 49 = .int .i64 3) ∧ (D 4 → g 50 = .int .i64 0) ∧ (D 5 → g 51 = .bool false)) (by kernel_rfl) (by kernel_rfl) 61 rfl (by kernel_rfl) ?h0 ?hstep ?hdone
      case h0 => exact ⟨rfl, rfl, (Dr.refl w4).drew.below _, nt0, nt0, nt0, nt0, nt0, nt0⟩
      case hstep =>
        intro D g wz i hi' hn hd' hI2
        obtain ⟨r4, r7, hbz, f0, f1, f2, f3, f4, f5⟩ := hI2
        have hi' : i < 6 := hi'
        rcases (show i = 0 ∨ i = 1 ∨ i = 2 ∨ i = 3 ∨ i = 4 ∨ i = 5 by omega) with rfl | rfl | rfl | rfl | rfl | rfl
        · -- 0
          refine slot_step rfl rfl (fun az hs K hK => ?_)
          have hK : Shut _ := hK
          have cz := (hbz.cell (p := ⟨g4, 0, none⟩) gl4).trans hg4c
          have e4 := hs.get 4
          rw [r4] at e4
          go_simp
          exact hK.out _ _ ⟨r4, r7, hbz, fun _ => rfl, kp f1, kp f2, kp f3, kp f4, kp f5⟩
        · -- 1
          refine slot_step rfl rfl (fun az hs K hK => ?_)
          have hK : Shut _ := hK
          have e7 := hs.get 7
          rw [r7] at e7
          go_simp
          exact hK.out _ _ ⟨r4, r7, hbz, kp f0, fun _ => rfl, kp f2, kp f3, kp f4, kp f5⟩
        · -- 2
          have d1 := f1 (hd' 1 (by kernel_rfl))
          refine slot_step rfl rfl (fun az hs K hK => ?_)
          have hK : Shut _ := hK
          have e47 := hs.get 47
          rw [d1] at e47
          go_simp
          exact hK.out _ _ ⟨r4, r7, hbz, kp f0, kp f1, fun _ => rfl, kp f3, kp f4, kp f5⟩
        · -- 3
          have d2 := f2 (hd' 2 (by kernel_rfl))
          refine slot_step rfl rfl (fun az hs K hK => ?_)
          have hK : Shut _ := hK
          have cz := (hbz.cell (p := ⟨gc, 1, none⟩) glc).trans m1
          have e48 := hs.get 48
          rw [d2] at e48
          go_simp
          exact hK.out _ _ ⟨r4, r7, hbz, kp f0, kp f1, kp f2, fun _ => rfl, kp f4, kp f5⟩
        · -- 4
          have d0 := f0 (hd' 0 (by kernel_rfl))
          have d3 := f3 (hd' 3 (by kernel_rfl))
          refine slot_step rfl rfl (fun az hs K hK => ?_)
          have hK : Shut _ := hK
          have e46 := hs.get 46
          rw [d0] at e46
          have e49 := hs.get 49
          rw [d3] at e49
          go_wp2_with (go_at_call 110; refine (HV.out wz hbz).mono ?_; rintro e wy ⟨rfl, rfl⟩)
          exact ⟨r4, r7, hbz, kp f0, kp f1, kp f2, kp f3, fun _ => rfl, kp f5⟩
        · -- 5
          have d4 := f4 (hd' 4 (by kernel_rfl))
          refine slot_step rfl rfl (fun az hs K hK => ?_)
          have hK : Shut _ := hK
          have e50 := hs.get 50
          rw [d4] at e50
          go_simp
          exact hK.out _ _ ⟨r4, r7, hbz, kp f0, kp f1, kp f2, kp f3, kp f4, fun _ => rfl⟩
      case hdone =>
        rintro D g wz hD ⟨r4, r7, hbz, f0, f1, f2, f3, f4, f5⟩
        simp only [setAll, List.foldl_cons, List.foldl_nil, List.setIfInBounds_toArray, List.set_cons_succ, List.set_cons_zero]
        have e51 := f5 (hD 5)
        rw [e51]
        have hX5 := hide (hX4.out.keep hbz)
        have hT5 := hide (hT4.out.keep hbz)
        have hown5 := hide (own_keep hown2.out hbz)
        have hb5 := hide (hb4.out.trans (hbz.mono (Nat.le_trans hbase3 hsz4)))
        have n0 := (hbz.cell (p := ⟨gc, 0, none⟩) glc).trans m0
        have n4 := (hbz.cell (p := ⟨g4, 0, none⟩) gl4).trans hg4c
        have hs5 := hbz.size
        obtain ⟨w5, hw5⟩ : ∃ w5, w5 = wz := ⟨_, rfl⟩
        subst hw5
        clear f0 f1 f2 f3 f4 f5 hD r4 r7 e51 hbz hX4 hT4 hown2 hb4 m0 m1 hg4c HV
        have glc5 : gc < w5.heap.size := by omega
        have gl45 : g4 < w5.heap.size := by omega
        have hbase5 : base ≤ w5.heap.size := by omega
        go_wp2
        refine wp_region_slots [52, 53, 54, 55, 56, 57, 58, 59, 60, 6] (fun D g wz => g 0 = .pointer (some ⟨p, 0, none⟩) ∧ g 2 = .int .i64 0 ∧ g 4 = .pointer (some ⟨g4, 0, none⟩) ∧ g 7 = .slice (some ⟨gc, 0, none⟩) 2 cap ∧ (¬ D 7 → Below w5.heap.size w5 wz) ∧ (D 7 → SetP base w5 pt gv gm lv wz) ∧ (D 7 → D 0) ∧ (D 7 → D 3) ∧ (D 7 → D 6) ∧ (D 0 → g 52 = .pointer (some ⟨pt, 0, none⟩)) ∧ (D 1 → g 53 = .slice (some ⟨gc, 0, none⟩) 2 cap) ∧ (D 2 → g 54 = .pointer (some ⟨gc, 0, none⟩)) ∧ (D 3 → g 55 = .int .i64 4) ∧ (D 4 → g 56 = .pointer (some ⟨p, 0, none⟩)) ∧ (D 5 → g 57 = .int .i64 0) ∧ (D 6 → g 58 = .int .i64 15) ∧ (D 7 → g 59 = .int .i64 0) ∧ (D 8 → g 60 = .bool false) ∧ (D 9 → g 6 = .bool false)) (by kernel_rfl) (by kernel_rfl) 61 rfl (by kernel_rfl) ?h0 ?hstep ?hdone
        case h0 => exact ⟨rfl, rfl, rfl, rfl, (fun _ => (Dr.refl w5).drew.below _), nt0, nt0, nt0, nt0, nt0, nt0, nt0, nt0, nt0, nt0, nt0, nt0, nt0, nt0⟩
        case hstep =>
          intro D g wz i hi' hn hd' hI2
          obtain ⟨r0, r2, r4, r7, hbz, hP, c70, c73, c76, f0, f1, f2, f3, f4, f5, f6, f7, f8, f9⟩ := hI2
          have hi' : i < 10 := hi'
          rcases (show i = 0 ∨ i = 1 ∨ i = 2 ∨ i = 3 ∨ i = 4 ∨ i = 5 ∨ i = 6 ∨ i = 7 ∨ i = 8 ∨ i = 9 by omega) with rfl | rfl | rfl | rfl | rfl | rfl | rfl | rfl | rfl | rfl
          · -- 0
            refine slot_step rfl rfl (fun az hs K hK => ?_)
            have hK : Shut _ := hK
            have cz := ((hbz (fun e => hn (c70 e))).cell (p := ⟨g4, 0, none⟩) gl45).trans n4
            have e4 := hs.get 4
            rw [r4] at e4
            go_simp
            exact hK.out _ _ ⟨r0, r2, r4, r7, (fun h => hbz (fun e => h (Or.inr e))), (fun h => hP (h.resolve_left (by decide))), (fun h => h.elim (fun e => absurd e (by decide)) (fun h => Or.inr (c70 h))), (fun h => h.elim (fun e => absurd e (by decide)) (fun h => Or.inr (c73 h))), (fun h => h.elim (fun e => absurd e (by decide)) (fun h => Or.inr (c76 h))), fun _ => rfl, kp f1, kp f2, kp f3, kp f4, kp f5, kp f6, kp f7, kp f8, kp f9⟩
          · -- 1
            refine slot_step rfl rfl (fun az hs K hK => ?_)
            have hK : Shut _ := hK
            have e7 := hs.get 7
            rw [r7] at e7
            go_simp
            exact hK.out _ _ ⟨r0, r2, r4, r7, (fun h => hbz (fun e => h (Or.inr e))), (fun h => hP (h.resolve_left (by decide))), (fun h => h.elim (fun e => absurd e (by decide)) (fun h => Or.inr (c70 h))), (fun h => h.elim (fun e => absurd e (by decide)) (fun h => Or.inr (c73 h))), (fun h => h.elim (fun e => absurd e (by decide)) (fun h => Or.inr (c76 h))), kp f0, fun _ => rfl, kp f2, kp f3, kp f4, kp f5, kp f6, kp f7, kp f8, kp f9⟩
          · -- 2
            have d1 := f1 (hd' 1 (by kernel_rfl))
            refine slot_step rfl rfl (fun az hs K hK => ?_)
            have hK : Shut _ := hK
            have e53 := hs.get 53
            rw [d1] at e53
            go_simp
            exact hK.out _ _ ⟨r0, r2, r4, r7, (fun h => hbz (fun e => h (Or.inr e))), (fun h => hP (h.resolve_left (by decide))), (fun h => h.elim (fun e => absurd e (by decide)) (fun h => Or.inr (c70 h))), (fun h => h.elim (fun e => absurd e (by decide)) (fun h => Or.inr (c73 h))), (fun h => h.elim (fun e => absurd e (by decide)) (fun h => Or.inr (c76 h))), kp f0, kp f1, fun _ => rfl, kp f3, kp f4, kp f5, kp f6, kp f7, kp f8, kp f9⟩
          · -- 3
            have d2 := f2 (hd' 2 (by kernel_rfl))
            refine slot_step rfl rfl (fun az hs K hK => ?_)
            have hK : Shut _ := hK
            have cz := ((hbz (fun e => hn (c73 e))).cell (p := ⟨gc, 0, none⟩) glc5).trans n0
            have e54 := hs.get 54
            rw [d2] at e54
            go_simp
            exact hK.out _ _ ⟨r0, r2, r4, r7, (fun h => hbz (fun e => h (Or.inr e))), (fun h => hP (h.resolve_left (by decide))), (fun h => h.elim (fun e => absurd e (by decide)) (fun h => Or.inr (c70 h))), (fun h => h.elim (fun e => absurd e (by decide)) (fun h => Or.inr (c73 h))), (fun h => h.elim (fun e => absurd e (by decide)) (fun h => Or.inr (c76 h))), kp f0, kp f1, kp f2, fun _ => rfl, kp f4, kp f5, kp f6, kp f7, kp f8, kp f9⟩
          · -- 4
            refine slot_step rfl rfl (fun az hs K hK => ?_)
            have hK : Shut _ := hK
            have e0 := hs.get 0
            rw [r0] at e0
            go_simp
            exact hK.out _ _ ⟨r0, r2, r4, r7, (fun h => hbz (fun e => h (Or.inr e))), (fun h => hP (h.resolve_left (by decide))), (fun h => h.elim (fun e => absurd e (by decide)) (fun h => Or.inr (c70 h))), (fun h => h.elim (fun e => absurd e (by decide)) (fun h => Or.inr (c73 h))), (fun h => h.elim (fun e => absurd e (by decide)) (fun h => Or.inr (c76 h))), kp f0, kp f1, kp f2, kp f3, fun _ => rfl, kp f5, kp f6, kp f7, kp f8, kp f9⟩
          · -- 5
            refine slot_step rfl rfl (fun az hs K hK => ?_)
            have hK : Shut _ := hK
            have e2 := hs.get 2
            rw [r2] at e2
            go_simp
            exact hK.out _ _ ⟨r0, r2, r4, r7, (fun h => hbz (fun e => h (Or.inr e))), (fun h => hP (h.resolve_left (by decide))), (fun h => h.elim (fun e => absurd e (by decide)) (fun h => Or.inr (c70 h))), (fun h => h.elim (fun e => absurd e (by decide)) (fun h => Or.inr (c73 h))), (fun h => h.elim (fun e => absurd e (by decide)) (fun h => Or.inr (c76 h))), kp f0, kp f1, kp f2, kp f3, kp f4, fun _ => rfl, kp f6, kp f7, kp f8, kp f9⟩
          · -- 6
            have d4 := f4 (hd' 4 (by kernel_rfl))
            have d5 := f5 (hd' 5 (by kernel_rfl))
            refine slot_step rfl rfl (fun az hs K hK => ?_)
            have hK : Shut _ := hK
            have e56 := hs.get 56
            rw [d4] at e56
            have e57 := hs.get 57
            rw [d5] at e57
            go_wp2_with (go_at_call 116; refine (why_ex (hX5.out.keep (hbz (fun e => hn (c76 e)))).box).mono ?_; rintro e wy ⟨rfl, rfl⟩)
            exact ⟨r0, r2, r4, r7, (fun h => hbz (fun e => h (Or.inr e))), (fun h => hP (h.resolve_left (by decide))), (fun h => h.elim (fun e => absurd e (by decide)) (fun h => Or.inr (c70 h))), (fun h => h.elim (fun e => absurd e (by decide)) (fun h => Or.inr (c73 h))), (fun h => h.elim (fun e => absurd e (by decide)) (fun h => Or.inr (c76 h))), kp f0, kp f1, kp f2, kp f3, kp f4, kp f5, fun _ => rfl, kp f7, kp f8, kp f9⟩
          · -- 7
            have d0 := f0 (hd' 0 (by kernel_rfl))
            have d3 := f3 (hd' 3 (by kernel_rfl))
            have d6 := f6 (hd' 6 (by kernel_rfl))
            refine slot_step rfl rfl (fun az hs K hK => ?_)
            have hK : Shut _ := hK
            have e52 := hs.get 52
            rw [d0] at e52
            have e55 := hs.get 55
            rw [d3] at e55
            have e58 := hs.get 58
            rw [d6] at e58
            go_wp2_with (go_at_call 109; refine (set_ex (hT5.out.keep (hbz hn)) (Nat.le_trans hbase5 (hbz hn).size)).mono ?_; rintro e wy ⟨rfl, hQ0⟩; have hQ := setP_of (hbz hn) hbase5 hQ0)
            exact ⟨r0, r2, r4, r7, (fun h => (h (by simp)).elim), (fun _ => hQ), (fun _ => Or.inr (hd' 0 (by kernel_rfl))), (fun _ => Or.inr (hd' 3 (by kernel_rfl))), (fun _ => Or.inr (hd' 6 (by kernel_rfl))), kp f0, kp f1, kp f2, kp f3, kp f4, kp f5, kp f6, fun _ => rfl, kp f8, kp f9⟩
          · -- 8
            have d7 := f7 (hd' 7 (by kernel_rfl))
            refine slot_step rfl rfl (fun az hs K hK => ?_)
            have hK : Shut _ := hK
            have e59 := hs.get 59
            rw [d7] at e59
            go_simp
            exact hK.out _ _ ⟨r0, r2, r4, r7, (fun h => hbz (fun e => h (Or.inr e))), (fun h => hP (h.resolve_left (by decide))), (fun h => h.elim (fun e => absurd e (by decide)) (fun h => Or.inr (c70 h))), (fun h => h.elim (fun e => absurd e (by decide)) (fun h => Or.inr (c73 h))), (fun h => h.elim (fun e => absurd e (by decide)) (fun h => Or.inr (c76 h))), kp f0, kp f1, kp f2, kp f3, kp f4, kp f5, kp f6, kp f7, fun _ => rfl, kp f9⟩
          · -- 9
            have d8 := f8 (hd' 8 (by kernel_rfl))
            refine slot_step rfl rfl (fun az hs K hK => ?_)
            have hK : Shut _ := hK
            have e60 := hs.get 60
            rw [d8] at e60
            go_simp
            exact hK.out _ _ ⟨r0, r2, r4, r7, (fun h => hbz (fun e => h (Or.inr e))), (fun h => hP (h.resolve_left (by decide))), (fun h => h.elim (fun e => absurd e (by decide)) (fun h => Or.inr (c70 h))), (fun h => h.elim (fun e => absurd e (by decide)) (fun h => Or.inr (c73 h))), (fun h => h.elim (fun e => absurd e (by decide)) (fun h => Or.inr (c76 h))), kp f0, kp f1, kp f2, kp f3, kp f4, kp f5, kp f6, kp f7, kp f8, fun _ => rfl⟩
        case hdone =>
          rintro D g wz hD ⟨r0, r2, r4, r7, hbz, hP, c70, c73, c76, f0, f1, f2, f3, f4, f5, f6, f7, f8, f9⟩
          simp only [setAll, List.foldl_cons, List.foldl_nil, List.setIfInBounds_toArray, List.set_cons_succ, List.set_cons_zero]
          have e6 := f9 (hD 9)
          rw [e6]
          have hQ := hide (hP (hD 7))
          clear f0 f1 f2 f3 f4 f5 f6 f7 f8 f9 hD r0 r2 r4 r7 e6 hbz hP c70 c73 c76
          go_wp2
          go_ret
          obtain ⟨lv', ht6, hb6, hf6⟩ := hQ.out
          have hlo := hX5.out.lo
          have h15 : gv < w3.heap.size := hT3lt.out.1
          have hown6 := own_base (hf6.own hown5.out (fun g hg e => by
            have h7 : w3.heap.size ≤ g := Nat.le_of_not_lt (fun hlt => own_low_ne hown5.out hlt hg.symm)
            rcases e with e | e | e | e
            · have := hT3lt.out.2.1; omega
            · omega
            · have := hT3lt.out.2.2.1; omega
            · have := hT3lt.out.2.2.2 g e; omega)) hbase3
          exact ⟨rfl, lv', v1, v2, ev2, hown6, hX5.out.far hT5.out hn.out (fun g g1 g2 g3 g4 g5 => hf6.block g g5 (fun e => by
            rcases e with e | e | e | e
            · exact g1 e
            · exact g2 e
            · exact g3 e
            · exact g4 e.symm)), ht6, hb5.out.trans hb6⟩
end Go.Proofs.Ytcjoohaagdihlaa.Watch
end
