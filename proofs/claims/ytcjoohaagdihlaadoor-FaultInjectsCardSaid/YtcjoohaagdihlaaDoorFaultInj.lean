/- What a fault changes in a net and its outs: the plain words, and that a fault and its last name change the outs in the same way. -/
import Derived.Test.YtcjoohaagdihlaaDoorFault9
namespace Go.Proofs.YtcjoohaagdihlaaDoor.Fault
open Go.RowKit Go.Lt Go.Proofs.YtcjoohaagdihlaaDoor.Lit Go.Instr
set_option linter.unusedVariables false
set_option linter.unusedSimpArgs false

def atB (o : Bool) : Int := if o then 1 else 0
def stuckL (y : Int) (f : Ft) : Int := if y / 2 = f.v then (if y % 2 = 1 then atB (!f.o) else atB f.o) else y
/-- the node at a place, with a good fault -/
def injNd (f : Ft) (i : Nat) (x : Nd) : Nd :=
  if f.p = 0 then (if 0 ≤ x.A then ⟨stuckL x.A f, stuckL x.B f⟩ else x)
  else if f.v = (i : Int) + 1 then (if f.p = 1 then ⟨atB f.o, x.B⟩ else if f.p = 2 then ⟨x.A, atB f.o⟩ else x) else x
def injN (l : List Nd) (f : Ft) : List Nd := if goodF l f then l.mapIdx (injNd f) else l
def injO (l : List Nd) (outs : List Int) (f : Ft) : List Int := if goodF l f = true ∧ f.p = 0 then outs.map fun y => stuckL y f else outs
def ofL (vals : List Bool) (y : Int) : Bool := ((vals[(y / 2).toNat]?).getD false) != decide (y % 2 = 1)
def stepV (ins : List Bool) (s : List Bool × Nat) (x : Nd) : List Bool × Nat :=
  if x.A < 0 then (s.1 ++ [(ins[s.2]?).getD false], s.2 + 1) else (s.1 ++ [ofL s.1 x.A && ofL s.1 x.B], s.2)
def runV (ins : List Bool) (l : List Nd) : List Bool × Nat := l.foldl (stepV ins) ([false], 0)
def valsN (l : List Nd) (ins : List Bool) : List Bool := (runV ins l).1
def outsN (l : List Nd) (outs : List Int) (f : Ft) (ins : List Bool) : List Bool := (injO l outs f).map (ofL (valsN (injN l f) ins))

theorem runV_snoc (ins : List Bool) (l : List Nd) (x : Nd) : runV ins (l ++ [x]) = stepV ins (runV ins l) x := by
  unfold runV; rw [List.foldl_append]; rfl
theorem stepV_len (ins : List Bool) (s : List Bool × Nat) (x : Nd) : (stepV ins s x).1.length = s.1.length + 1 := by
  unfold stepV; split <;> simp
theorem runV_len (ins : List Bool) (l : List Nd) : (runV ins l).1.length = l.length + 1 := by
  suffices h : ∀ k, (runV ins (l.take k)).1.length = (l.take k).length + 1 by
    have := h l.length
    rwa [List.take_length] at this
  intro k
  induction k with
  | zero => simp [runV]
  | succ k ih =>
    by_cases hk : k < l.length
    · rw [List.take_succ_eq_append_getElem hk, runV_snoc, stepV_len, ih]; simp; try omega
    · rw [List.take_of_length_le (by omega)]; rwa [List.take_of_length_le (by omega)] at ih
theorem injN_take (l : List Nd) (f : Ft) (k : Nat) (x : Nd) (h : l[k]? = some x) : (l.mapIdx (injNd f)).take (k + 1) = (l.mapIdx (injNd f)).take k ++ [injNd f k x] := by
  rw [List.take_add_one, List.getElem?_mapIdx, h]; rfl
theorem goodF_of {l : List Nd} {f : Ft} (h : goodF l f = true) : 1 ≤ f.v ∧ f.v ≤ l.length ∧ (f.p = 0 ∨ ((f.p = 1 ∨ f.p = 2) ∧ ∀ (k : Nat) (x : Nd), (k : Int) + 1 = f.v → l[k]? = some x → 0 ≤ x.A)) := by
  unfold goodF at h
  obtain ⟨h1, h2, h3⟩ := of_decide_eq_true h
  refine ⟨h1, h2, ?_⟩
  rcases h3 with h3 | ⟨h3, h4⟩
  · exact .inl h3
  · refine .inr ⟨h3, fun k x hk hx => ?_⟩
    rw [show (f.v - 1).toNat = k by omega, hx] at h4
    exact h4

/-- two tables that differ at one variable alone, of which the one has No there -/
structure Near (v : Int) (n : Nat) (s t : List Bool) : Prop where
  ls : s.length = n + 1
  lt : t.length = n + 1
  same : ∀ k : Nat, (k : Int) ≠ v → s[k]? = t[k]?
  no : v ≤ n → s[v.toNat]? = some false
  zero : t[0]? = some false
theorem near_of {v : Int} {n : Nat} {s t : List Bool} (h : Near v n s t) (hv : 1 ≤ v) (y : Int) (hy0 : 0 ≤ y) (hy : y / 2 ≤ n) : ofL s y = ofL t (stuckL y ⟨v, 0, false⟩) := by
  unfold stuckL
  by_cases hyv : y / 2 = v
  · rw [if_pos hyv]
    have hs : s[(y / 2).toNat]? = some false := by rw [hyv]; exact h.no (by omega)
    by_cases h2 : y % 2 = 1
    · rw [if_pos h2]
      unfold ofL
      rw [hs]
      simp [atB, h.zero, h2]
    · rw [if_neg h2]
      unfold ofL
      rw [hs]
      simp [atB, h.zero, h2]
  · rw [if_neg hyv]
    unfold ofL
    rw [h.same _ (by omega)]
theorem near_snoc {v : Int} {n : Nat} {s t : List Bool} {a b : Bool} (h : Near v n s t) (hv : 1 ≤ v) (hab : v ≠ (n : Int) + 1 → a = b) (ha : v = (n : Int) + 1 → a = false) : Near v (n + 1) (s ++ [a]) (t ++ [b]) := by
  refine ⟨by simp [h.ls], by simp [h.lt], ?_, ?_, ?_⟩
  · intro k hk
    by_cases hkn : k < n + 1
    · rw [List.getElem?_append_left (by rw [h.ls]; exact hkn), List.getElem?_append_left (by rw [h.lt]; exact hkn)]
      exact h.same k hk
    · rw [List.getElem?_append_right (by rw [h.ls]; omega), List.getElem?_append_right (by rw [h.lt]; omega), h.ls, h.lt]
      by_cases hk1 : k = n + 1
      · subst hk1
        rw [hab (by omega)]
      · rw [List.getElem?_eq_none (by simp; omega), List.getElem?_eq_none (by simp; omega)]
  · intro hvn
    by_cases hv1 : v = (n : Int) + 1
    · rw [List.getElem?_append_right (by rw [h.ls]; omega), h.ls, show v.toNat - (n + 1) = 0 by omega, ha hv1]; rfl
    · rw [List.getElem?_append_left (by rw [h.ls]; omega)]
      exact h.no (by omega)
  · rw [List.getElem?_append_left (by rw [h.lt]; omega)]
    exact h.zero
theorem runV_near {l : List Nd} (hg : GoodNet l) (ins : List Bool) {v p : Int} (hf : goodF l ⟨v, p, false⟩ = true) (hp : 0 < p) : ∀ k, k ≤ l.length →
    Near v k (runV ins ((l.mapIdx (injNd ⟨v, p, false⟩)).take k)).1 (runV ins ((l.mapIdx (injNd ⟨v, 0, false⟩)).take k)).1 ∧ (runV ins ((l.mapIdx (injNd ⟨v, p, false⟩)).take k)).2 = (runV ins ((l.mapIdx (injNd ⟨v, 0, false⟩)).take k)).2 := by
  obtain ⟨h1, h2, h3⟩ := goodF_of hf
  simp only at h1 h2 h3
  intro k
  induction k with
  | zero =>
    intro _
    refine ⟨⟨rfl, rfl, fun _ _ => rfl, fun h => by omega, rfl⟩, rfl⟩
  | succ k ih =>
    intro hk
    obtain ⟨ih1, ih2⟩ := ih (by omega)
    have hx : l[k]? = some l[k] := List.getElem?_eq_getElem (by omega)
    generalize l[k] = x at hx
    rw [injN_take _ _ _ _ hx, injN_take _ _ _ _ hx, runV_snoc, runV_snoc]
    generalize runV ins ((l.mapIdx (injNd ⟨v, p, false⟩)).take k) = s at ih1 ih2
    generalize runV ins ((l.mapIdx (injNd ⟨v, 0, false⟩)).take k) = t at ih1 ih2
    obtain ⟨h3, h4⟩ := h3.resolve_left (by omega)
    have ht : injNd ⟨v, 0, false⟩ k x = if 0 ≤ x.A then ⟨stuckL x.A ⟨v, 0, false⟩, stuckL x.B ⟨v, 0, false⟩⟩ else x := by unfold injNd; rw [if_pos rfl]
    by_cases hA : 0 ≤ x.A
    · obtain ⟨g1, g2, g3⟩ := hg k x hx hA
      have hsA : 0 ≤ stuckL x.A ⟨v, 0, false⟩ := by unfold stuckL atB; repeat' split <;> omega
      rw [ht, if_pos hA]
      have et : stepV ins t ⟨stuckL x.A ⟨v, 0, false⟩, stuckL x.B ⟨v, 0, false⟩⟩ = (t.1 ++ [ofL s.1 x.A && ofL s.1 x.B], t.2) := by
        unfold stepV
        rw [if_neg (by simp only; omega), ← near_of ih1 h1 x.A hA (by omega), ← near_of ih1 h1 x.B g2 (by omega)]
      rw [et]
      by_cases hvk : v = (k : Int) + 1
      · have hs : injNd ⟨v, p, false⟩ k x = if p = 1 then ⟨0, x.B⟩ else ⟨x.A, 0⟩ := by
          unfold injNd
          rw [if_neg (by simp only; omega), if_pos hvk]
          simp only [atB]
          rcases h3 with rfl | rfl <;> simp
        have h0 : s.1[0]? = some false := by rw [ih1.same 0 (by omega)]; exact ih1.zero
        have hz : ofL s.1 0 = false := by unfold ofL; simp [h0]
        have es : stepV ins s (injNd ⟨v, p, false⟩ k x) = (s.1 ++ [false], s.2) := by
          rw [hs]
          rcases h3 with rfl | rfl
          · rw [if_pos rfl]
            unfold stepV
            simp [hz]
          · rw [if_neg (by decide)]
            unfold stepV
            rw [if_neg (by simp only; omega)]
            simp [hz]
        rw [es]
        exact ⟨near_snoc ih1 h1 (fun h => absurd hvk h) (fun _ => rfl), ih2⟩
      · have hs : injNd ⟨v, p, false⟩ k x = x := by
          unfold injNd
          rw [if_neg (by simp only; omega), if_neg (by simpa using hvk)]
        rw [hs]
        have es : stepV ins s x = (s.1 ++ [ofL s.1 x.A && ofL s.1 x.B], s.2) := by unfold stepV; rw [if_neg (by omega)]
        rw [es]
        exact ⟨near_snoc ih1 h1 (fun _ => rfl) (fun h => absurd h hvk), ih2⟩
    · have hvk : v ≠ (k : Int) + 1 := fun h => hA (h4 k x h.symm hx)
      have hs : injNd ⟨v, p, false⟩ k x = x := by
        unfold injNd
        rw [if_neg (by simp only; omega), if_neg (by simpa using hvk)]
      rw [hs, ht, if_neg hA]
      have es : ∀ r : List Bool × Nat, stepV ins r x = (r.1 ++ [(ins[r.2]?).getD false], r.2 + 1) := by intro r; unfold stepV; rw [if_pos (by omega)]
      rw [es, es, ih2]
      exact ⟨near_snoc ih1 h1 (fun _ => rfl) (fun h => absurd h hvk), rfl⟩
/-- a gate's pin that is stuck at No is as its line that is stuck at No -/
theorem same_pin {l : List Nd} {outs : List Int} (hg : GoodNet l) (ho : GoodOuts l outs) (ins : List Bool) {v p : Int} (hf : goodF l ⟨v, p, false⟩ = true) (hp : 0 < p) :
    goodF l ⟨v, 0, false⟩ = true ∧ outsN l outs ⟨v, p, false⟩ ins = outsN l outs ⟨v, 0, false⟩ ins := by
  obtain ⟨h1, h2, h3⟩ := goodF_of hf
  have hf2 := goodF_zero (l := l) (f := ⟨v, 0, false⟩) h1 h2 rfl
  refine ⟨hf2, ?_⟩
  have hN := (runV_near hg ins hf hp l.length (Nat.le_refl _)).1
  rw [List.take_of_length_le (by simp), List.take_of_length_le (by simp)] at hN
  have o1 : injO l outs ⟨v, p, false⟩ = outs := by
    unfold injO
    rw [if_neg]
    rintro ⟨_, h⟩
    simp only at h
    omega
  have o2 : injO l outs ⟨v, 0, false⟩ = outs.map fun y => stuckL y ⟨v, 0, false⟩ := by unfold injO; rw [if_pos ⟨hf2, rfl⟩]
  have n1 : injN l ⟨v, p, false⟩ = l.mapIdx (injNd ⟨v, p, false⟩) := by unfold injN; rw [if_pos hf]
  have n2 : injN l ⟨v, 0, false⟩ = l.mapIdx (injNd ⟨v, 0, false⟩) := by unfold injN; rw [if_pos hf2]
  unfold outsN valsN
  rw [o1, o2, n1, n2, List.map_map]
  refine List.map_congr_left fun y hy => ?_
  obtain ⟨y0, y1⟩ := ho y hy
  exact near_of hN h1 y y0 (by omega)
theorem occs_mem {l : List Nd} {k : Nat} {x : Nd} (h : l[k]? = some x) {o : Oc} (ho : o ∈ occNode k x) : o ∈ occs l l.length := by
  have hk := List.getElem?_eq_some_iff.1 h
  unfold occs
  rw [List.mem_flatMap]
  refine ⟨k, List.mem_range.2 hk.1, ?_⟩
  rwa [List.getD_eq_getElem?_getD, h]
theorem mem_occs {l : List Nd} {o : Oc} (ho : o ∈ occs l l.length) : ∃ (k : Nat) (x : Nd), l[k]? = some x ∧ 0 ≤ x.A ∧ (o = ⟨x.A / 2, ⟨(k : Int) + 1, 1, false⟩, x.A⟩ ∨ o = ⟨x.B / 2, ⟨(k : Int) + 1, 2, false⟩, x.B⟩) := by
  unfold occs at ho
  rw [List.mem_flatMap] at ho
  obtain ⟨i, hi, ho⟩ := ho
  rw [List.mem_range] at hi
  have hx : l[i]? = some (l.getD i ⟨0, 0⟩) := by simp [List.getD_eq_getElem?_getD, hi]
  generalize l.getD i ⟨0, 0⟩ = x at hx ho
  unfold occNode at ho
  split at ho
  · simp at ho
  · refine ⟨i, x, hx, by omega, ?_⟩
    simpa using ho
theorem one_only {os : List Oc} {v : Int} (h : countO os v = 1) : ∃ u, lastO os v = some u ∧ ∀ o ∈ os, o.k = v → o = u := by
  unfold countO at h
  obtain ⟨u, hu⟩ := List.length_eq_one_iff.1 h
  refine ⟨u, by unfold lastO; rw [hu]; rfl, fun o ho hk => ?_⟩
  have : o ∈ os.filter fun o => decide (o.k = v) := List.mem_filter.2 ⟨ho, by simpa using hk⟩
  rw [hu] at this
  simpa using this
theorem atB_odd (o : Bool) (y : Int) : (if y % 2 = 1 then atB (!o) else atB o) = atB (o != decide (y % 2 = 1)) := by
  split
  · next h => simp [h]
  · next h => simp [h]
/-- a line that is used once is as the pin that uses it -/
theorem same_use {l : List Nd} {outs : List Int} (ins : List Bool) {v : Int} {o : Bool} {u : Oc} (hf : goodF l ⟨v, 0, o⟩ = true) (hu : usedN (occs l l.length) outs v = 1) (hl : lastO (occs l l.length) v = some u) :
    goodF l ⟨u.f.v, u.f.p, o != decide (u.lit % 2 = 1)⟩ = true ∧ outsN l outs ⟨v, 0, o⟩ ins = outsN l outs ⟨u.f.v, u.f.p, o != decide (u.lit % 2 = 1)⟩ ins := by
  have hc : countO (occs l l.length) v = 1 := by unfold usedN at hu; omega
  have hco : cntOut outs v = 0 := by unfold usedN at hu; omega
  obtain ⟨u', hu', hall⟩ := one_only hc
  rw [hl] at hu'
  injection hu' with hu'
  subst hu'
  obtain ⟨hum, huk⟩ := lastO_mem hl
  obtain ⟨j, z, hz, hzA, hcase⟩ := mem_occs hum
  have hjl := (List.getElem?_eq_some_iff.1 hz).1
  have hf2 : goodF l ⟨u.f.v, u.f.p, o != decide (u.lit % 2 = 1)⟩ = true := by
    rw [goodF_pin (k := j) (x := z) (by rcases hcase with rfl | rfl <;> (simp only; omega)) hz (by rcases hcase with rfl | rfl <;> simp)]
    simpa using hzA
  refine ⟨hf2, ?_⟩
  have hp0 : ¬ u.f.p = 0 := by rcases hcase with rfl | rfl <;> simp
  have hO : injO l outs ⟨v, 0, o⟩ = injO l outs ⟨u.f.v, u.f.p, o != decide (u.lit % 2 = 1)⟩ := by
    unfold injO
    rw [if_pos ⟨hf, rfl⟩, if_neg (fun h => hp0 h.2)]
    have : ∀ y ∈ outs, stuckL y ⟨v, 0, o⟩ = id y := by
      intro y hy
      unfold stuckL
      rw [if_neg]
      · rfl
      · intro hyv
        have : y ∈ outs.filter fun x => decide (x / 2 = v) := List.mem_filter.2 ⟨hy, by simpa using hyv⟩
        unfold cntOut at hco
        rw [List.eq_nil_of_length_eq_zero hco] at this
        simp at this
    rw [List.map_congr_left this, List.map_id]
  have hN : injN l ⟨v, 0, o⟩ = injN l ⟨u.f.v, u.f.p, o != decide (u.lit % 2 = 1)⟩ := by
    unfold injN
    rw [if_pos hf, if_pos hf2]
    refine List.ext_getElem? fun k => ?_
    rw [List.getElem?_mapIdx, List.getElem?_mapIdx]
    cases hx : l[k]? with
    | none => rfl
    | some x =>
      simp only [Option.map_some]
      congr 1
      unfold injNd
      rw [if_pos rfl, if_neg hp0]
      by_cases hA : 0 ≤ x.A
      · rw [if_pos hA]
        have hn : occNode k x = [⟨x.A / 2, ⟨(k : Int) + 1, 1, false⟩, x.A⟩, ⟨x.B / 2, ⟨(k : Int) + 1, 2, false⟩, x.B⟩] := by unfold occNode; rw [if_neg (by omega)]
        have ha : x.A / 2 = v → u = ⟨x.A / 2, ⟨(k : Int) + 1, 1, false⟩, x.A⟩ := fun h => (hall _ (occs_mem hx (by rw [hn]; simp)) h).symm
        have hb : x.B / 2 = v → u = ⟨x.B / 2, ⟨(k : Int) + 1, 2, false⟩, x.B⟩ := fun h => (hall _ (occs_mem hx (by rw [hn]; simp)) h).symm
        unfold stuckL
        simp only
        by_cases hva : x.A / 2 = v
        · have hu1 := ha hva
          have hvb : ¬ x.B / 2 = v := by
            intro h
            have := hb h
            rw [hu1] at this
            injection this with _ h2 _
            injection h2 with _ h3 _
            omega
          rw [if_pos hva, if_neg hvb, atB_odd, hu1]
          simp
        · rw [if_neg hva]
          by_cases hvb : x.B / 2 = v
          · have hu1 := hb hvb
            rw [if_pos hvb, atB_odd, hu1]
            simp
          · rw [if_neg hvb]
            rw [if_neg]
            intro hv
            try simp only at hv
            have hkj : k = j := by rcases hcase with rfl | rfl <;> ((try simp only at hv); omega)
            subst hkj
            rw [hz] at hx
            injection hx with hx
            subst hx
            rcases hcase with rfl | rfl
            · exact hva huk
            · exact hvb huk
      · rw [if_neg hA, if_neg]
        intro hv
        try simp only at hv
        have hkj : k = j := by rcases hcase with rfl | rfl <;> ((try simp only at hv); omega)
        subst hkj
        rw [hz] at hx
        injection hx with hx
        subst hx
        exact hA hzA
  unfold outsN
  rw [hO, hN]
theorem same_name {l : List Nd} {outs : List Int} (hg : GoodNet l) (ho : GoodOuts l outs) (ins : List Bool) {f : Ft} (hf : goodF l f = true) (h : (nameF (occs l l.length) outs f).2 = true) :
    goodF l (nameF (occs l l.length) outs f).1 = true ∧ outsN l outs f ins = outsN l outs (nameF (occs l l.length) outs f).1 ins := by
  obtain ⟨v, p, o⟩ := f
  unfold nameF at h ⊢
  simp only at h ⊢
  by_cases h1 : 0 < p ∧ o = false
  · rw [if_pos h1]
    obtain ⟨hp, rfl⟩ := h1
    exact same_pin hg ho ins hf hp
  · rw [if_neg h1] at h ⊢
    by_cases h2 : p = 0 ∧ usedN (occs l l.length) outs v = 1
    · rw [if_pos h2] at h ⊢
      obtain ⟨rfl, hu⟩ := h2
      cases hl : lastO (occs l l.length) v with
      | none => rw [hl] at h; simp at h
      | some u => exact same_use ins hf hu hl
    · rw [if_neg h2] at h
      simp at h
/-- a good fault's last name is good, and changes the outs in the same way -/
theorem same_last {l : List Nd} {outs : List Int} (hg : GoodNet l) (ho : GoodOuts l outs) (ins : List Bool) : ∀ (N : Nat) (f : Ft), rank l.length f < N → goodF l f = true →
    goodF l (lastF l.length (occs l l.length) outs f) = true ∧ outsN l outs f ins = outsN l outs (lastF l.length (occs l l.length) outs f) ins := by
  intro N
  induction N with
  | zero => intro f h; exact absurd h (Nat.not_lt_zero _)
  | succ N ih =>
    intro f hr hf
    cases h : (nameF (occs l l.length) outs f).2 with
    | false => rw [lastF_end (occs_later hg) outs f h]; exact ⟨hf, rfl⟩
    | true =>
      obtain ⟨h1, h2⟩ := same_name hg ho ins hf h
      have := name_falls (occs_later hg) outs f h
      obtain ⟨h3, h4⟩ := ih _ (by omega) h1
      rw [lastF_step (occs_later hg) outs f h]
      exact ⟨h3, h2.trans h4⟩
theorem coll_one {l : List Nd} {outs : List Int} {f : Ft} (hf : goodF l f = true) : collF l.length (occs l l.length) outs ([f].filter (goodF l)) = [lastF l.length (occs l l.length) outs f] := by
  rw [List.filter_cons_of_pos hf]; rfl
theorem atB_le (o : Bool) : 0 ≤ atB o ∧ atB o ≤ 1 := by unfold atB; split <;> omega
theorem stuckL_le {y m : Int} (f : Ft) (h0 : 0 ≤ y) (h1 : y ≤ m) (hm : 1 ≤ m) : 0 ≤ stuckL y f ∧ stuckL y f ≤ m := by
  have a := atB_le f.o
  have b := atB_le (!f.o)
  unfold stuckL
  repeat' split <;> omega
/-- a good net with a fault is good -/
theorem injN_good {l : List Nd} (hg : GoodNet l) (f : Ft) : GoodNet (injN l f) := by
  unfold injN
  split
  · next hf =>
    obtain ⟨_, _, h3⟩ := goodF_of hf
    intro i y hy hA
    rw [List.getElem?_mapIdx] at hy
    cases hx : l[i]? with
    | none => rw [hx] at hy; cases hy
    | some x =>
      rw [hx] at hy
      have hy : injNd f i x = y := Option.some.inj hy
      subst hy
      have ha := atB_le f.o
      unfold injNd at hA ⊢
      by_cases hp : f.p = 0
      · rw [if_pos hp] at hA ⊢
        by_cases hxA : 0 ≤ x.A
        · rw [if_pos hxA] at hA ⊢
          obtain ⟨g1, g2, g3⟩ := hg i x hx hxA
          have s1 := stuckL_le f hxA g1 (by omega)
          have s2 := stuckL_le f g2 g3 (by omega)
          exact ⟨s1.2, s2.1, s2.2⟩
        · rw [if_neg hxA] at hA
          exact absurd hA hxA
      · rw [if_neg hp] at hA ⊢
        by_cases hv : f.v = (i : Int) + 1
        · rw [if_pos hv] at hA ⊢
          obtain ⟨h4, h5⟩ := h3.resolve_left hp
          have hxA := h5 i x hv.symm hx
          obtain ⟨g1, g2, g3⟩ := hg i x hx hxA
          rcases h4 with h4 | h4
          · rw [if_pos h4] at hA ⊢
            simp only at *
            omega
          · rw [if_neg (by omega), if_pos h4] at hA ⊢
            simp only at *
            omega
        · rw [if_neg hv] at hA ⊢
          exact hg i x hx hA
  · exact hg
theorem injN_len (l : List Nd) (f : Ft) : (injN l f).length = l.length := by unfold injN; split <;> simp
theorem injO_len (l : List Nd) (outs : List Int) (f : Ft) : (injO l outs f).length = outs.length := by unfold injO; split <;> simp
theorem injO_good {l : List Nd} {outs : List Int} (ho : GoodOuts l outs) (f : Ft) : GoodOuts l (injO l outs f) := by
  unfold injO
  split
  · intro y hy
    obtain ⟨x, hx, rfl⟩ := List.mem_map.1 hy
    obtain ⟨h0, h1⟩ := ho x hx
    exact stuckL_le f h0 h1 (by omega)
  · exact ho
end Go.Proofs.YtcjoohaagdihlaaDoor.Fault
