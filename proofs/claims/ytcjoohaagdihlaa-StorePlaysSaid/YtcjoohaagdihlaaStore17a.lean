/- What a store's law on plays needs besides: rows that lie apart. -/
import Derived.Test.YtcjoohaagdihlaaStore16
import Derived.Test.YtcjoohaagdihlaaStore17
namespace Go.Proofs.Ytcjoohaagdihlaa.Kept
open Go.RowKit Go.Shelf Go.Lt Go.Proofs.Ytcjoohaagdihlaa.Lit Go.Proofs.Ytcjoohaagdihlaa.CubeHas Go.Proofs.Ytcjoohaagdihlaa.Cube Go.Proofs.Ytcjoohaagdihlaa.Sorted
set_option linter.unusedVariables false
set_option linter.unusedSimpArgs false

def RefAdd2 (base : Nat) (v : Value) (l' : List Kc) (b : Bool) (w : World) (e : Ending) (w' : World) : Prop :=
  ∃ (s : Sl) (L' : List Kv), e = .returned (.tuple #[s.val, .bool b]) ∧ Rw base w' s.val L' l' ∧ Below w.heap.size w w' ∧ ∀ g, s.val.ownBlock = some g → v.ownBlock = some g ∨ w.heap.size ≤ g
theorem ref_Add' (base : Nat) (vw : Sl) (L : List Kv) (l l' : List Kc) (b : Bool) (C : Option Addr) (nc cc : Nat) (cl : List Int) (dep : Int) (I : Option Addr) (ni ci : Nat) (il : List Bool) (w : World) (hrw : Rw base w vw.val L l) (hbase : base ≤ w.heap.size) (hL : L.length ≤ 1000) (hg : GoodL l)
    (hrc : Rd w C nc (ivs cl)) (hnc : nc ≤ 1000) (hri : Rd w I ni (bvs il)) (hni : ni ≤ 1000) (hb : addB l cl dep = b) (hl : addL l cl dep il = l') :
    Calls Try.prog 46 #[vw.val, .slice C nc cc, .int .i64 dep, .slice I ni ci] w (RefAdd2 base vw.val l' b w) := by
  subst hb hl
  refine (ref_Add base vw.A vw.n vw.c L l C nc cc cl dep I ni ci il w hrw hbase hL hg hrc hnc hri hni).mono ?_
  rintro e w' (⟨hb, rfl, hbl⟩ | ⟨hb, v', L', rfl, ho, hr, hbl⟩)
  · exact ⟨vw, L, by rw [hb], by unfold addL; rw [hb]; exact hrw.step hbl, hbl, fun g h => .inl h⟩
  · obtain ⟨s, rfl, _⟩ := own_sl ho
    exact ⟨s, L', by rw [hb], hr, hbl, fun g h => .inr (ho.lt g h).1⟩
/-- what a store's own blocks are -/
abbrev StB (p : Nat) (V : Value) : Nat → Prop := fun k => k = p ∨ V.ownBlock = some k
theorem KvO.frV {n b m p : Nat} {w w' : World} {x : Kv} {k : Kc} {V : Value} {xs : List Value} {cs : Array Value} (h : KvO n w x k) (hV : w.ownsRow b 66 3 V m xs) (hp : Blk w p 118 cs) (hf : Fr (StB p V) w w') : KvO n w' x k :=
  ⟨h.d, hf.own h.c (fun g hg e => by rcases e with rfl | e; exact blk_ne h.c hp (by decide) hg; exact own_ne h.c hV (by decide) g hg e), hf.own h.i (fun g hg e => by rcases e with rfl | e; exact blk_ne h.i hp (by decide) hg; exact own_ne h.i hV (by decide) g hg e)⟩
theorem Rw.frV {base b m p : Nat} {w w' : World} {v V : Value} {L : List Kv} {l : List Kc} {xs : List Value} {cs : Array Value} (h : Rw base w v L l) (hV : w.ownsRow b 66 3 V m xs) (hp : Blk w p 118 cs) (hne : ∀ g, v.ownBlock = some g → V.ownBlock ≠ some g) (hf : Fr (StB p V) w w') : Rw base w' v L l :=
  ⟨hf.own h.own (fun g hg e => by rcases e with rfl | e; exact blk_ne h.own hp (by decide) hg; exact hne g hg e), h.all.1, fun j hj => (h.all.2 j hj).frV hV hp hf⟩
theorem StL.frV {b2 b m p p2 : Nat} {w w' : World} {V V2 : Value} {L2 : List Kv} {l2 : List Kc} {xs : List Value} {cs : Array Value} (h : StL b2 w p2 V2 L2 l2) (hV : w.ownsRow b 66 3 V m xs) (hp : Blk w p 118 cs) (hpp : p2 ≠ p) (hne : ∀ g, V2.ownBlock = some g → V.ownBlock ≠ some g) (hf : Fr (StB p V) w w') : StL b2 w' p2 V2 L2 l2 :=
  have hr := (show Rw b2 w V2 L2 l2 from ⟨h.row, h.all⟩).frV hV hp hne hf
  ⟨hf.blk h.cell (fun e => by rcases e with e | e; exact hpp e; exact blk_ne hV h.cell (by decide) e), hr.own, hr.all, h.low⟩
theorem AllO.low {b1 b2 : Nat} {w : World} {L : List Kv} {l : List Kc} (h : AllO b2 w L l) (hb : b1 ≤ b2) : AllO b1 w L l := ⟨h.1, fun j hj => (h.2 j hj).low hb⟩
theorem StL.lower {b1 b2 p : Nat} {w : World} {V : Value} {L : List Kv} {l : List Kc} (h : StL b2 w p V L l) (hb : b1 ≤ b2) : StL b1 w p V L l := ⟨h.cell, own_low h.row hb, h.all.low hb, Nat.le_trans hb h.low⟩
/-- neither the cubes nor the inputs lie there -/
def OffE (S : Nat → Prop) (L : List Kv) : Prop := ∀ x ∈ L, (∀ g, x.c.val.ownBlock = some g → ¬ S g) ∧ ∀ g, x.i.val.ownBlock = some g → ¬ S g
theorem Rw.frE {base : Nat} {w w' : World} {v : Value} {L : List Kv} {l : List Kc} {S : Nat → Prop} (h : Rw base w v L l) (hf : Fr S w w') (hv : ∀ g, v.ownBlock = some g → ¬ S g) (hE : OffE S L) : Rw base w' v L l :=
  ⟨hf.own h.own hv, h.all.1, fun j hj => ⟨(h.all.2 j hj).d, hf.own (h.all.2 j hj).c (hE _ (kvAt_mem hj)).1, hf.own (h.all.2 j hj).i (hE _ (kvAt_mem hj)).2⟩⟩
theorem StL.frE {b p : Nat} {w w' : World} {V : Value} {L : List Kv} {l : List Kc} {S : Nat → Prop} (h : StL b w p V L l) (hf : Fr S w w') (hp : ¬ S p) (hv : ∀ g, V.ownBlock = some g → ¬ S g) (hE : OffE S L) : StL b w' p V L l :=
  have hr := (show Rw b w V L l from ⟨h.row, h.all⟩).frE hf hv hE
  ⟨hf.blk h.cell hp, hr.own, hr.all, h.low⟩
/-- all that is kept lies below -/
theorem AllO.lt {n : Nat} {w : World} {L : List Kv} {l : List Kc} (h : AllO n w L l) {x : Kv} (hx : x ∈ L) : (∀ g, x.c.val.ownBlock = some g → g < w.heap.size) ∧ ∀ g, x.i.val.ownBlock = some g → g < w.heap.size := by
  obtain ⟨j, hj, rfl⟩ := mem_kvAt hx
  exact ⟨fun g hg => ((h.2 j hj).c.lt g hg).2, fun g hg => ((h.2 j hj).i.lt g hg).2⟩
/-- what is known between the rounds -/
structure Pl (w0 : World) (k : Nat) (l : List Kc) (p : Nat) (V : Value) (Lr : List Kv) (vw : Sl) (Lw : List Kv) (ls : List Kc) (W : World) : Prop where
  st : StL w0.heap.size W p V Lr ls
  rw : Rw w0.heap.size W vw.val Lw ls
  ne : ∀ g, vw.val.ownBlock = some g → V.ownBlock ≠ some g
  bel : Below w0.heap.size w0 W
  eq : ls = addAll (l.take k)
  alls : AllS k ls
theorem rd_ofK {w : World} {base n : Nat} {s : Sl} {L : List Kv} (h : w.ownsRow base 66 3 s.val n (encK L)) : RdK w s.A s.n L := by
  obtain ⟨A, c, hv, _, _, hr⟩ := RdK.of_own h
  injection hv with e1 e2 e3
  rw [e1, e2]; exact hr
end Go.Proofs.Ytcjoohaagdihlaa.Kept
