/- What a store's Add needs besides: rows that are struck, rows of one's own, an append that tells where its row lies. -/
import Derived.Test.YtcjoohaagdihlaaStore10
namespace Go.Lt
open Go.RowKit
set_option linter.unusedVariables false
set_option linter.unusedSimpArgs false
/-- append of a whole slice, as a step of a region that draws its order: where the row lies is told -/
theorem step_append_at {P : Program} {w : World} {base e bytes n m c size : Nat} {z v : Value} {ad : Addr} {xs news : List Value} {ops : Array Oper} {o : Oper} {a : Act} {K : Act → World → Prop} {Q : Exit → Act → World → Prop} {E : Prop} (hgd : o.guard = none) (s x : Operand) (t : TypeId)
    (ho : o.op = .call { callee := .builtin .append, args := #[s, x], argTypes := #[t, t] })
    (ht : P.underlying t = some (.slice e)) (hi : (P.info? e).map (fun i => (i.zero, i.size, i.bytes)) = some (some z, size, bytes)) (hzs : z.cells.size = size) (hsz : 0 < size)
    (hs : a.eval s = v) (hx : a.eval x = .slice (some ad) m c) (hown : w.ownsRow base e size v n xs) (hbase : base ≤ w.heap.size) (hl : news.length = m * size) (hnews : ∀ j u, news[j]? = some u → w.cell? (ad.add j) = some u) (h1 : ∀ u ∈ news, u.oneCell' = true) (h63 : n + m ≤ maxLen) (hby : (n + m) * bytes ≤ 140737488355328)
    (h : ∀ v' w', w'.ownsRow base e size v' (n + m) (xs ++ news) → w.grownBy w' v.ownBlock → (v'.ownBlock = v.ownBlock ∨ v'.ownBlock = some w.heap.size) → K (a.put o.dst v') w') :
    if Region.wanted o (yielded ops a.tmps) = true then Oper.wp P o a w K Q else E := by
  have hw : Region.wanted o (yielded ops a.tmps) = true := by simp [Region.wanted, hgd]
  rw [if_pos hw]
  obtain ⟨i, hi0, hz, hs1, hs2⟩ := info_parts hi
  obtain ⟨v', w', hrun, h2, h3, _, h5⟩ := run_append_own_at (P := P) w base t o.type e i z size bytes ht hi0 hz hs1 hs2 hzs hsz v n xs hown ad m c news hl hnews h1 h63 hby hbase
  unfold Oper.wp execOp
  simp only [ho, resolve, invoke, builtin, Sem.run_bind, Sem.run_pure, Result.andThen_ok, List.map_toArray, List.map_cons, List.map_nil, hs, hx, hrun]
  exact h v' w' h2 h3 h5
end Go.Lt
namespace Go.Proofs.Ytcjoohaagdihlaa.Kept
open Go.RowKit Go.Shelf Go.Lt Go.Proofs.Ytcjoohaagdihlaa.Lit Go.Proofs.Ytcjoohaagdihlaa.CubeHas Go.Proofs.Ytcjoohaagdihlaa.Cube
set_option linter.unusedVariables false
set_option linter.unusedSimpArgs false

theorem filt_range (l : List Kc) (f : Kc → Bool) : l.filter f = ((List.range l.length).filter fun q => f (kcAt l q)).map (kcAt l) := by
  have h : (List.range l.length).map (kcAt l) = l := by
    refine List.ext_getElem (by simp) (fun i h1 h2 => ?_)
    simp [kcAt, List.getD, h2]
  have e := List.filter_map (p := f) (f := kcAt l) (l := List.range l.length)
  rw [h] at e
  exact e
theorem AllO.pick {n : Nat} {w : World} {L : List Kv} {l : List Kc} (h : AllO n w L l) (is : List Nat) (hi : ∀ i ∈ is, i < L.length) : AllO n w (is.map (kvAt L)) (is.map (kcAt l)) := by
  refine ⟨by simp, fun j hj => ?_⟩
  have hj : j < is.length := by simpa using hj
  have e1 : kvAt (is.map (kvAt L)) j = kvAt L is[j] := by
    rw [show kvAt (is.map (kvAt L)) j = (is.map (kvAt L)).getD j zKv from rfl, List.getD_eq_getElem?_getD, List.getElem?_map, List.getElem?_eq_getElem hj]; rfl
  have e2 : kcAt (is.map (kcAt l)) j = kcAt l is[j] := by
    rw [show kcAt (is.map (kcAt l)) j = (is.map (kcAt l)).getD j zKc from rfl, List.getD_eq_getElem?_getD, List.getElem?_map, List.getElem?_eq_getElem hj]; rfl
  rw [e1, e2]
  exact h.2 _ (hi _ (List.getElem_mem _))
theorem AllO.keep {n : Nat} {w : World} {L : List Kv} {l : List Kc} (h : AllO n w L l) (dep : Int) (c : List Int) : AllO n w (Kept.kept (fun j => strikes dep c (kcAt l j)) L L.length) (l.filter fun k => !strikes dep c k) := by
  rw [filt_range, ← h.1]
  exact h.pick _ (fun i hi => List.mem_range.1 (List.mem_filter.1 hi).1)
/-- a row of one type is not the block of another type's row -/
theorem own_ne {w : World} {b1 b2 e1 e2 s1 s2 n1 n2 : Nat} {v1 v2 : Value} {x1 x2 : List Value} (h1 : w.ownsRow b1 e1 s1 v1 n1 x1) (h2 : w.ownsRow b2 e2 s2 v2 n2 x2) (hne : e1 ≠ e2) : ∀ g, v1.ownBlock = some g → ¬ v2.ownBlock = some g := fun g hg he => by
  obtain ⟨c1, k1⟩ := own_blk h1 hg
  obtain ⟨c2, k2⟩ := own_blk h2 he
  unfold Blk at k1 k2
  rw [k1] at k2
  injection k2 with k2
  injection k2 with _ k2
  exact hne k2
theorem KvO.fr {n b m : Nat} {w w' : World} {x : Kv} {k : Kc} {v : Value} {xs : List Value} (h : KvO n w x k) (hv : w.ownsRow b 66 3 v m xs) (hf : Fr (fun k => v.ownBlock = some k) w w') : KvO n w' x k :=
  ⟨h.d, hf.own h.c (own_ne h.c hv (by decide)), hf.own h.i (own_ne h.i hv (by decide))⟩
theorem AllO.fr {n b m : Nat} {w w' : World} {L : List Kv} {l : List Kc} {v : Value} {xs : List Value} (h : AllO n w L l) (hv : w.ownsRow b 66 3 v m xs) (hf : Fr (fun k => v.ownBlock = some k) w w') : AllO n w' L l := ⟨h.1, fun j hj => (h.2 j hj).fr hv hf⟩
/-- a row of one's own that holds just these -/
structure Rw (base : Nat) (w : World) (v : Value) (L : List Kv) (l : List Kc) : Prop where
  own : w.ownsRow base 66 3 v L.length (encK L)
  all : AllO base w L l
theorem Rw.step {base : Nat} {w w' : World} {v : Value} {L : List Kv} {l : List Kc} (h : Rw base w v L l) (hb : Below w.heap.size w w') : Rw base w' v L l := ⟨own_keep h.own hb, h.all.step hb⟩
theorem Rw.far {base g : Nat} {w : World} {v u : Value} {L : List Kv} {l : List Kc} {t : TypeId} {cs : Array Value} (h : Rw base w v L l) (hb : Blk w g t cs) (h1 : 66 ≠ t) (h2 : 3 ≠ t) (h3 : 4 ≠ t) : Rw base (w.setCell ⟨g, 0, none⟩ u) v L l :=
  ⟨own_off h.own (grownBy_setCell' w g u) (fun g' e => by cases e; exact ⟨t, cs, hb, h1⟩), h.all.kept (grownBy_setCell' w g u) (fun g' e => by cases e; exact ⟨t, cs, hb, h2, h3⟩)⟩
theorem blk_ne {w : World} {g base e size n : Nat} {t : TypeId} {cs : Array Value} {v : Value} {xs : List Value} (h : w.ownsRow base e size v n xs) (hb : Blk w g t cs) (hne : e ≠ t) : ¬ v.ownBlock = some g := fun he => own_blk_ne h hb hne he.symm
theorem KvO.low {n m : Nat} {w : World} {x : Kv} {k : Kc} (h : KvO n w x k) (hm : m ≤ n) : KvO m w x k := ⟨h.d, own_low h.c hm, own_low h.i hm⟩
theorem KvO.far {n g : Nat} {w : World} {x : Kv} {k : Kc} {u : Value} {t : TypeId} {cs : Array Value} (h : KvO n w x k) (hb : Blk w g t cs) (h2 : 3 ≠ t) (h3 : 4 ≠ t) : KvO n (w.setCell ⟨g, 0, none⟩ u) x k := h.kept (grownBy_setCell' w g u) (fun g' e => by cases e; exact ⟨t, cs, hb, h2, h3⟩)
end Go.Proofs.Ytcjoohaagdihlaa.Kept
