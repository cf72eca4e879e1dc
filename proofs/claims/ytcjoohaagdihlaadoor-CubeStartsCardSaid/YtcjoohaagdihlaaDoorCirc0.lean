/- Rows of structs of three numbers read as lists; what is known of a good circuit. No program in sight. -/
import Derived.Test.YtcjoohaagdihlaaDoorMem3
namespace Go.Proofs.YtcjoohaagdihlaaDoor.Circ
open Go.RowKit Go.Lt
set_option linter.unusedVariables false
set_option linter.unusedSimpArgs false

theorem addr_off (ad : Addr) (n j : Nat) (hj : 0 < j) : (⟨(ad.add n).block, (ad.add n).off + j, none⟩ : Addr) = ad.add (n + j) := by
  unfold Addr.add
  rw [if_neg (show ¬ n + j = 0 by omega)]
  split
  · rename_i h; subst h; simp
  · simp [Nat.add_assoc]
/-- a struct of three numbers -/
structure T3 where
  a : Int
  b : Int
  c : Int
def enc3 (l : List T3) : List Value := l.flatMap fun x => [.int .i64 x.a, .int .i64 x.b, .int .i64 x.c]
theorem enc3_len (l : List T3) : (enc3 l).length = l.length * 3 := flat_len _ 3 (fun _ => rfl) l
theorem enc3_app (a b : List T3) : enc3 (a ++ b) = enc3 a ++ enc3 b := by unfold enc3; rw [List.flatMap_append]
theorem enc3_one {l : List T3} : ∀ u ∈ enc3 l, u.oneCell' = true := by
  intro u hu
  obtain ⟨x, _, hx⟩ := List.mem_flatMap.1 hu
  simp at hx
  rcases hx with rfl | rfl | rfl <;> rfl
/-- a slice of such structs reads as a list -/
def RdT (w : World) (A : Option Addr) (n : Nat) (l : List T3) : Prop :=
  l.length = n ∧ ∀ k, k < n → ∃ ad x, A = some ad ∧ ad.block < w.heap.size ∧ l[k]? = some x ∧ w.cell? (ad.add (k * 3)) = some (.int .i64 x.a) ∧ w.cell? (ad.add (k * 3 + 1)) = some (.int .i64 x.b) ∧ w.cell? (ad.add (k * 3 + 2)) = some (.int .i64 x.c)
theorem RdT.nil (w : World) (A : Option Addr) : RdT w A 0 [] := ⟨rfl, fun _ h => absurd h (Nat.not_lt_zero _)⟩
theorem RdT.below {w w' : World} {A : Option Addr} {n B : Nat} {l : List T3} (h : RdT w A n l) (hb : Below B w w') (hB : w.heap.size ≤ B) : RdT w' A n l :=
  ⟨h.1, fun k hk => by
    obtain ⟨ad, x, h1, h2, h3, h4, h5, h6⟩ := h.2 k hk
    have hh : ad.block < B := Nat.lt_of_lt_of_le h2 hB
    exact ⟨ad, x, h1, Nat.lt_of_lt_of_le h2 hb.size, h3, (hb.cell (by rw [add_block]; exact hh)).trans h4, (hb.cell (by rw [add_block]; exact hh)).trans h5, (hb.cell (by rw [add_block]; exact hh)).trans h6⟩⟩
theorem RdT.get {w : World} {A : Option Addr} {n k : Nat} {l : List T3} (h : RdT w A n l) (hk : k < n) :
    ∃ ad x, A = some ad ∧ ad.block < w.heap.size ∧ l[k]? = some x ∧ w.cell? (ad.add (k * 3)) = some (.int .i64 x.a) ∧ w.cell? ⟨(ad.add (k * 3)).block, (ad.add (k * 3)).off + 1, none⟩ = some (.int .i64 x.b) ∧ w.cell? ⟨(ad.add (k * 3)).block, (ad.add (k * 3)).off + 2, none⟩ = some (.int .i64 x.c) := by
  obtain ⟨ad, x, h1, h2, h3, h4, h5, h6⟩ := h.2 k hk
  exact ⟨ad, x, h1, h2, h3, h4, by rw [addr_off _ _ _ (by omega)]; exact h5, by rw [addr_off _ _ _ (by omega)]; exact h6⟩
theorem RdT.rdS {w : World} {A : Option Addr} {n : Nat} {l : List T3} (h : RdT w A n l) : RdS w A n 3 (enc3 l) := by
  refine ⟨by rw [enc3_len, h.1], ?_⟩
  rcases Nat.eq_zero_or_pos n with h0 | h0
  · exact .inl h0
  · obtain ⟨ad, _, h1, h2, _⟩ := h.2 0 h0
    refine .inr ⟨ad, h1, h2, fun k u hk => ?_⟩
    have hlt : k < l.length * 3 := by have := (List.getElem?_eq_some_iff.1 hk).1; rwa [enc3_len] at this
    have hd : k / 3 < n := by rw [← h.1]; omega
    obtain ⟨ad', x, h1', _, hx, c0, c1, c2⟩ := h.2 (k / 3) hd
    rw [h1] at h1'
    injection h1' with h1'
    subst h1'
    have e : k = k / 3 * 3 + k % 3 := by omega
    have hm : k % 3 < 3 := Nat.mod_lt _ (by omega)
    unfold enc3 at hk
    rw [flat_get _ 3 (fun _ => rfl) (by omega), hx] at hk
    simp only [Option.bind_some] at hk
    rcases (show k % 3 = 0 ∨ k % 3 = 1 ∨ k % 3 = 2 by omega) with hz | hz | hz
    all_goals
      rw [hz] at hk e
      injection hk with hk
      subst hk
      rw [e]
      first | exact c0 | exact c1 | exact c2
theorem RdT.of_own {w : World} {base n : Nat} {e : TypeId} {v : Value} {l : List T3} (h : w.ownsRow base e 3 v n (enc3 l)) : ∃ A c, v = .slice A n c ∧ n ≤ c ∧ c ≤ maxLen ∧ RdT w A n l := by
  have hl : l.length = n := by have := h.1; rw [enc3_len] at this; omega
  obtain ⟨_, h2⟩ := h
  rcases h2 with ⟨rfl, rfl⟩ | ⟨g, cap, cur, rfl, hbg, hg, hnc, hcm, hcs, htake⟩
  · exact ⟨none, 0, rfl, Nat.le_refl _, Nat.zero_le _, hl, fun k hk => absurd hk (Nat.not_lt_zero _)⟩
  · refine ⟨some ⟨g, 0, none⟩, cap, rfl, hnc, hcm, hl, fun k hk => ?_⟩
    have hx : l[k]? = some (l[k]'(by omega)) := List.getElem?_eq_getElem _
    have hcell := World.ownsRow.cells (w := w) (v := .slice (some ⟨g, 0, none⟩) n cap) ⟨by rw [enc3_len, hl], .inr ⟨g, cap, cur, rfl, hbg, hg, hnc, hcm, hcs, htake⟩⟩ rfl
    have hq : ∀ j, j < 3 → (enc3 l)[k * 3 + j]? = [Value.int .i64 (l[k]'(by omega)).a, .int .i64 (l[k]'(by omega)).b, .int .i64 (l[k]'(by omega)).c][j]? := by
      intro j hj
      unfold enc3
      rw [flat_get _ 3 (fun _ => rfl) (by omega), show (k * 3 + j) / 3 = k by omega, show (k * 3 + j) % 3 = j by omega, hx]
      rfl
    exact ⟨_, _, rfl, (Array.getElem?_eq_some_iff.1 hg).1, hx, hcell _ _ ((hq 0 (by omega)).trans rfl), hcell _ _ ((hq 1 (by omega)).trans rfl), hcell _ _ ((hq 2 (by omega)).trans rfl)⟩

/-- a circuit's parts that matter: its greatest variable, inputs, latches (literal, next, reset), outs, bads, cons, gates (literal, a, b) -/
structure Ci where
  max : Int
  ins : List Int
  lat : List T3
  outs : List Int
  bads : List Int
  cons : List Int
  gat : List T3
def ownL (c : Ci) : List Int := c.ins ++ c.lat.map T3.a ++ c.gat.map T3.a
def usedL (c : Ci) : List Int := c.outs ++ c.bads ++ c.cons ++ c.lat.map T3.b ++ c.gat.flatMap fun g => [g.b, g.c]
/-- what a circuit that is good is at least -/
structure GoodC (c : Ci) : Prop where
  max : 0 ≤ c.max
  own : ∀ x ∈ ownL c, 2 ≤ x ∧ x ≤ 2 * c.max
  used : ∀ x ∈ usedL c, 0 ≤ x ∧ x ≤ 2 * c.max + 1
  res : ∀ l ∈ c.lat, l.c = 0 ∨ l.c = 1 ∨ l.c = l.a
theorem GoodC.inp {c : Ci} (h : GoodC c) {k : Nat} {x : Int} (hx : c.ins[k]? = some x) : 2 ≤ x ∧ x ≤ 2 * c.max :=
  h.own x (by unfold ownL; simp [List.mem_of_getElem? hx])
theorem GoodC.latl {c : Ci} (h : GoodC c) {k : Nat} {x : T3} (hx : c.lat[k]? = some x) : 2 ≤ x.a ∧ x.a ≤ 2 * c.max :=
  h.own x.a (by unfold ownL; simp only [List.mem_append, List.mem_map]; exact .inl (.inr ⟨x, List.mem_of_getElem? hx, rfl⟩))
theorem GoodC.gatl {c : Ci} (h : GoodC c) {k : Nat} {x : T3} (hx : c.gat[k]? = some x) : 2 ≤ x.a ∧ x.a ≤ 2 * c.max :=
  h.own x.a (by unfold ownL; simp only [List.mem_append, List.mem_map]; exact .inr ⟨x, List.mem_of_getElem? hx, rfl⟩)
theorem GoodC.gatu {c : Ci} (h : GoodC c) {k : Nat} {x : T3} (hx : c.gat[k]? = some x) : (0 ≤ x.b ∧ x.b ≤ 2 * c.max + 1) ∧ 0 ≤ x.c ∧ x.c ≤ 2 * c.max + 1 := by
  have hm : ∀ y, y = x.b ∨ y = x.c → y ∈ usedL c := fun y hy => by
    unfold usedL
    rw [List.mem_append]
    refine .inr (List.mem_flatMap.2 ⟨x, List.mem_of_getElem? hx, ?_⟩)
    simpa using hy
  exact ⟨h.used _ (hm _ (.inl rfl)), h.used _ (hm _ (.inr rfl))⟩
theorem GoodC.resets {c : Ci} (h : GoodC c) : ∀ r ∈ c.lat.map T3.c, 0 ≤ r := by
  intro r hr
  obtain ⟨x, hx, rfl⟩ := List.mem_map.1 hr
  rcases h.res x hx with h0 | h0 | h0
  · omega
  · omega
  · obtain ⟨k, hk⟩ := List.getElem?_of_mem hx
    have := (h.latl hk).1
    omega
end Go.Proofs.YtcjoohaagdihlaaDoor.Circ
