/- Texts behind a row, one behind the other: RegSlots, Learn1, Learn2. -/
import Derived.Test.YtcjoohaagdihlaaWS2
section
/- A region that draws its order, by one invariant over what lies in the slots that it writes. No program in sight. -/
namespace Go.Lt
open Go.RowKit
set_option linter.unusedVariables false
set_option linter.unusedSimpArgs false

/-- another operation's fact, as it was -/
theorem kp {i j : Nat} {D : Nat → Prop} {F : Prop} (f : D j → F) (hne : j ≠ i := by decide) : j = i ∨ D j → F := fun h => h.elim (fun e => absurd e hne) f
/-- none yet -/
theorem nt0 {n j : Nat} {F : Prop} (hne : ¬ n ≤ j := by decide) : n ≤ j → F := fun h => absurd h hne
section
variable {P : Program} {ops : Array Oper} {Q : Exit → Act → World → Prop}
/-- the slots behind an operation -/
def updG (g : Nat → Value) (dst : Option Tmp) (v : Value) : Nat → Value :=
  match dst with
  | some d => fun i => if i = d then v else g i
  | none => g
/-- the slots that an act has -/
structure SlotsAre (n : Nat) (az : Act) (g : Nat → Value) : Prop where
  size : az.tmps.size = n
  get : ∀ i, az.tmps.getD i undef = g i
/-- one operation, on slots -/
def slotOp (P : Program) (ops : Array Oper) (Q : Exit → Act → World → Prop) (n i : Nat) (g : Nat → Value) (wz : World) (K : (Nat → Value) → World → Prop) : Prop :=
  ∀ o, ops[i]? = some o → ∀ (az : Act), SlotsAre n az g → ∀ K' : Act → World → Prop, (∀ v w', K (updG g o.dst v) w' → K' (az.put o.dst v) w') →
    if Region.wanted o (yielded ops az.tmps) = true then Oper.wp P o az wz K' Q else K' (az.put o.dst undef) wz
theorem SlotsAre.eval {n i : Nat} {az : Act} {g : Nat → Value} (h : SlotsAre n az g) {v : Value} (hv : g i = v) : az.eval (.tmp i) = v := (h.get i).trans hv
theorem slot_step {n i : Nat} {o : Oper} {g : Nat → Value} {wz : World} {K : (Nat → Value) → World → Prop} (ho : ops[i]? = some o) (hgd : o.guard = none)
    (h : ∀ (az : Act), SlotsAre n az g → ∀ K' : Act → World → Prop, (∀ v w', K (updG g o.dst v) w' → K' (az.put o.dst v) w') → Oper.wp P o az wz K' Q) : slotOp P ops Q n i g wz K := by
  intro o' ho' az hs K' hK
  rw [ho] at ho'
  injection ho' with ho'
  subst ho'
  rw [if_pos (by simp [Region.wanted, hgd])]
  exact h az hs K' hK
theorem yielded_is {n j d : Nat} {b : Bool} {az : Act} {g : Nat → Value} (hs : SlotsAre n az g) (hd : ((ops[j]?).bind (·.dst)) = some d) (hn : d < n) (hg : g d = .bool b) : yielded ops az.tmps j = some b := by
  unfold yielded
  have h1 := hs.get d
  rw [hg] at h1
  have h2 : az.tmps[d]? = some (.bool b) := by
    have hlt : d < az.tmps.size := by rw [hs.size]; exact hn
    rw [Array.getElem?_eq_getElem hlt]
    simp [Array.getD, hlt] at h1
    rw [h1]
  have h3 : ((ops[j]?.bind fun x => x.dst).bind fun x => az.tmps[x]?) = some (.bool b) := by rw [hd]; exact h2
  rw [h3]
/-- a guarded operation that comes up -/
theorem slot_step_yes {n i j d : Nat} {b : Bool} {o : Oper} {g : Nat → Value} {wz : World} {K : (Nat → Value) → World → Prop} (ho : ops[i]? = some o) (hgd : o.guard = some (j, b)) (hd : ((ops[j]?).bind (·.dst)) = some d) (hn : d < n) (hg : g d = .bool b)
    (h : ∀ (az : Act), SlotsAre n az g → ∀ K' : Act → World → Prop, (∀ v w', K (updG g o.dst v) w' → K' (az.put o.dst v) w') → Oper.wp P o az wz K' Q) : slotOp P ops Q n i g wz K := by
  intro o' ho' az hs K' hK
  rw [ho] at ho'
  injection ho' with ho'
  subst ho'
  rw [if_pos (by simp [Region.wanted, hgd, yielded_is hs hd hn hg])]
  exact h az hs K' hK
/-- a guarded operation that is left out -/
theorem slot_step_no {n i j d : Nat} {b : Bool} {o : Oper} {g : Nat → Value} {wz : World} {K : (Nat → Value) → World → Prop} (ho : ops[i]? = some o) (hgd : o.guard = some (j, b)) (hd : ((ops[j]?).bind (·.dst)) = some d) (hn : d < n) (hg : g d = .bool (!b))
    (h : K (updG g o.dst undef) wz) : slotOp P ops Q n i g wz K := by
  intro o' ho' az hs K' hK
  rw [ho] at ho'
  injection ho' with ho'
  subst ho'
  rw [if_neg (by simp [Region.wanted, hgd, yielded_is hs hd hn hg])]
  exact hK _ _ h
/-- .. whose guard was itself left out -/
theorem slot_step_nou {n i j d : Nat} {b : Bool} {o : Oper} {g : Nat → Value} {wz : World} {K : (Nat → Value) → World → Prop} (ho : ops[i]? = some o) (hgd : o.guard = some (j, b)) (hd : ((ops[j]?).bind (·.dst)) = some d) (hn : d < n) (hg : g d = undef)
    (h : K (updG g o.dst undef) wz) : slotOp P ops Q n i g wz K := by
  intro o' ho' az hs K' hK
  rw [ho] at ho'
  injection ho' with ho'
  subst ho'
  have hy : yielded ops az.tmps j = none := by
    unfold yielded
    have h1 := hs.get d
    rw [hg] at h1
    have h2 : az.tmps[d]? = some undef := by
      have hlt : d < az.tmps.size := by rw [hs.size]; exact hn
      rw [Array.getElem?_eq_getElem hlt]
      simp [Array.getD, hlt] at h1
      rw [h1]
    have h3 : ((ops[j]?.bind fun x => x.dst).bind fun x => az.tmps[x]?) = some undef := by rw [hd]; exact h2
    rw [h3]
    rfl
  rw [if_neg (by simp [Region.wanted, hgd, hy])]
  exact hK _ _ h
theorem getD_set {t : Array Value} {d i : Nat} {v : Value} (h : d < t.size) : (t.setIfInBounds d v).getD i undef = if i = d then v else t.getD i undef := by
  by_cases hi : i = d
  · subst hi; simp [Array.getD, h]
  · rw [if_neg hi]
    by_cases hl : i < t.size
    · simp [Array.getD, hl, Array.getElem_setIfInBounds, Ne.symm hi]
    · simp [Array.getD, hl]
theorem slots_put {n : Nat} {az : Act} {g : Nat → Value} (hs : SlotsAre n az g) {dst : Option Tmp} (hd : ∀ d, dst = some d → d < n) (v : Value) : SlotsAre n (az.put dst v) (updG g dst v) := by
  cases dst with
  | none => exact hs
  | some d =>
    refine ⟨by simp [Act.put, hs.size], fun i => ?_⟩
    show (az.tmps.setIfInBounds d v).getD i undef = if i = d then v else g i
    rw [getD_set (by rw [hs.size]; exact hd d rfl), hs.get]
def slotsB (ops : Array Oper) (S : List Nat) (n : Nat) : Bool := S.all (fun s => decide (s < n)) && ops.toList.all fun o => match o.dst with | none => true | some d => S.contains d
def setAll (t : Array Value) (S : List Nat) (g : Nat → Value) : Array Value := S.foldl (fun t s => t.setIfInBounds s (g s)) t
theorem setAll_size (S : List Nat) (g : Nat → Value) : ∀ t : Array Value, (setAll t S g).size = t.size := by
  induction S with
  | nil => intro t; rfl
  | cons s S ih => intro t; unfold setAll at ih ⊢; rw [List.foldl_cons, ih]; simp
theorem setAll_get (S : List Nat) (g : Nat → Value) : ∀ (t : Array Value) (i : Nat), (∀ s ∈ S, s < t.size) → (setAll t S g).getD i undef = if i ∈ S then g i else t.getD i undef := by
  induction S with
  | nil => intro t i _; simp [setAll]
  | cons s S ih =>
    intro t i h
    have h1 : setAll t (s :: S) g = setAll (t.setIfInBounds s (g s)) S g := rfl
    rw [h1, ih _ i (fun x hx => by simpa using h x (List.mem_cons_of_mem _ hx)), getD_set (h s List.mem_cons_self)]
    by_cases hi : i ∈ S
    · simp [hi]
    · by_cases he : i = s
      · subst he; simp [hi]
      · simp [hi, he]
theorem array_ext_getD {a b : Array Value} (hs : a.size = b.size) (h : ∀ i, a.getD i undef = b.getD i undef) : a = b := by
  apply Array.ext hs
  intro i h1 h2
  have := h i
  simpa [Array.getD, h1, h2] using this
/-- the law -/
theorem wp_region_slots {id : Nat} {a : Act} {w : World} (S : List Nat) (J : (Nat → Prop) → (Nat → Value) → World → Prop) (hm : P.follows .mixedOrders = true)
    (hwf : (ops.toList.zipIdx.all fun p => p.1.after.all fun e => !Region.binds .any e || decide (e.on < p.2)) = true)
    (n : Nat) (hn : a.tmps.size = n) (hS : slotsB ops S n = true)
    (h0 : J (fun j => ops.size ≤ j) (fun i => a.tmps.getD i undef) w.drew)
    (hstep : ∀ D g wz i, i < ops.size → ¬ D i → (∀ j, depsB ops i j = true → D j) → J D g wz → slotOp P ops Q n i g wz (fun g' w' => J (fun j => j = i ∨ D j) g' w'))
    (hdone : ∀ D g w', (∀ j, D j) → J D g w' → Q .normal ⟨setAll a.tmps S g, a.defers⟩ w') : (Code.region id ops true).wp P Q a w := by
  unfold slotsB at hS
  rw [Bool.and_eq_true, List.all_eq_true, List.all_eq_true] at hS
  obtain ⟨hS1, hS2⟩ := hS
  have hSn : ∀ s ∈ S, s < n := fun s hs => by simpa using hS1 s hs
  have hdst : ∀ (i : Nat) (o : Oper), ops[i]? = some o → ∀ d, o.dst = some d → d ∈ S := fun i o ho d hd => by
    have h1 := hS2 o (Array.mem_toList_iff.2 (Array.mem_of_getElem? ho))
    rw [hd] at h1
    simpa using h1
  refine wp_region_inv3 (fun D az wz => ∃ g, SlotsAre n az g ∧ az.defers = a.defers ∧ (∀ i, i ∉ S → g i = a.tmps.getD i undef) ∧ J D g wz) hm hwf ⟨_, ⟨hn, fun _ => rfl⟩, rfl, fun _ _ => rfl, h0⟩ ?_ ?_
  · rintro D az wz i hi hni hd ⟨g, hs, hdf, hoth, hJ⟩
    have ho : ops[i]? = some ops[i] := Array.getElem?_eq_getElem hi
    refine wpOp_step ho (fun K' hK => hstep D g wz i hi hni hd hJ _ ho az hs K' (fun v w' hJ' => hK _ _ ⟨updG g ops[i].dst v, slots_put hs (fun d hd => hSn d (hdst i _ ho d hd)) v, ?_, ?_, hJ'⟩))
    · cases hdd : ops[i].dst <;> exact hdf
    · intro q hq
      cases hdd : ops[i].dst with
      | none => exact hoth q hq
      | some d =>
        have hm : d ∈ S := hdst i _ ho d hdd
        show (if q = d then v else g q) = _
        rw [if_neg (fun e : q = d => hq (by rw [e]; exact hm))]
        exact hoth q hq
  · rintro D az wz hD ⟨g, hs, hdf, hoth, hJ⟩
    have he : az = ⟨setAll a.tmps S g, a.defers⟩ := by
      obtain ⟨t, df⟩ := az
      have h1 : t = setAll a.tmps S g := array_ext_getD (by rw [setAll_size, hn]; exact hs.size) (fun i => by
        rw [setAll_get S g _ i (fun s h => by rw [hn]; exact hSn s h)]
        have h2 := hs.get i
        by_cases hi : i ∈ S
        · rw [if_pos hi]; exact h2
        · rw [if_neg hi, ← hoth i hi]; exact h2)
      have h2 : df = a.defers := hdf
      rw [h1, h2]
    rw [he]
    exact hdone D g wz hD hJ
end
section
variable {P : Program} {w : World} {base e bytes m c size g : Nat} {z : Value} {A : Option Addr} {news : List Value}
/-- append of a whole slice onto a literal that holds nothing, as one operation: all that lies stays -/
theorem oper_append_lit {o : Oper} {a : Act} {K : Act → World → Prop} {Q : Exit → Act → World → Prop} (s x : Operand) (t : TypeId)
    (ho : o.op = .call { callee := .builtin .append, args := #[s, x], argTypes := #[t, t] })
    (ht : P.underlying t = some (.slice e)) (hi : (P.info? e).map (fun i => (i.zero, i.size, i.bytes)) = some (some z, size, bytes)) (hzs : z.cells.size = size) (hsz : 0 < size)
    (hs : a.eval s = .slice (some ⟨g, 0, none⟩) 0 0) (hx : a.eval x = .slice A m c) (hg : Blk w g e #[]) (hbg : base ≤ g) (hr : RdS w A m size news) (h1 : ∀ u ∈ news, u.oneCell' = true) (h63 : m ≤ maxLen) (hby : m * bytes ≤ 140737488355328)
    (h : ∀ v' w', w'.ownsRow base e size v' m news → Below w.heap.size w w' → K (a.put o.dst v') w') : Oper.wp P o a w K Q := by
  obtain ⟨v', w', hrun, h2, h3⟩ := run_append_lit (c := c) t o.type ht hi hzs hsz hg hbg hr h1 h63 hby
  unfold Oper.wp execOp
  simp only [ho, resolve, invoke, builtin, Sem.run_bind, Sem.run_pure, Result.andThen_ok, List.map_toArray, List.map_cons, List.map_nil, hs, hx, hrun]
  exact h v' w' h2 h3
end
end Go.Lt
end

section
/- The document's place and zero of steps. -/
namespace Go.Proofs.Ytcjoohaagdihlaa.Learn
open Go.RowKit Go.Lt Go.Proofs.Ytcjoohaagdihlaa.Lit Go.Proofs.Ytcjoohaagdihlaa.Sorted
open Go.Proofs.Ytcjoohaagdihlaa.Kept (Sl Sl.val addr_off)
set_option linter.unusedVariables false
set_option linter.unusedSimpArgs false

theorem tdiv_is (x : Int) (h : 0 ≤ x) : x.tdiv 2 = x / 2 := Int.tdiv_eq_ediv_of_nonneg h
set_option maxRecDepth 8000 in
set_option maxHeartbeats 1000000 in
theorem ref_place (A : Option Addr) (n c : Nat) (l : List St) (x : Int) (w : World) (hn : n ≤ 1000) (hr : RdT w A n l) (hl : ∀ s ∈ l, 2 ≤ s.lit ∧ s.lit ≤ 33554433) (hx : 0 ≤ x ∧ x ≤ 33554433) :
    Calls Try.prog 89 #[.slice A n c, .int .i64 x] w fun e w' => e = .returned (.int .i64 (placeZ (placeO l x))) ∧ w = w' := by
  have hnI : (n : Int) ≤ 1000 := by omega
  have hll := hide hr.1
  obtain ⟨hx0, hx1⟩ := hx
  have hxd := tdiv_is x hx0
  have hxw : IntKind.i64.wrap (x / 2) = x / 2 := IntWalk.i64_in _ (by omega)
  obtain ⟨X2, hX2⟩ : ∃ X2, x / 2 = X2 := ⟨_, rfl⟩
  have hHX := hide hX2
  rw [hX2] at hxd hxw
  clear hX2 hn
  replace hl := hide hl
  go_enter Try.func89, Try.ntmps89
  go_wp2
  go_loop [5] (fun i => ∃ k : Nat, k ≤ n ∧ i = .int .i64 k ∧ Hid (placeO (l.take k) x = none)) (fun i => n - (intOf i).toNat)
  case atStart => exact ⟨0, Nat.zero_le _, rfl, rfl⟩
  case round =>
    obtain ⟨k, hk, rfl, hno⟩ := hrel
    have hkI : (k : Int) ≤ 1000 := by omega
    by_cases hlt : k < n
    · obtain ⟨ad, s, z, rfl, hB, hs, c0, c1, c2, hw⟩ := hr.get hlt
      obtain ⟨hs0, hs1⟩ := hl.out s (List.mem_of_getElem? hs)
      have hsd := tdiv_is s.lit (by omega)
      have hsw : IntKind.i64.wrap (s.lit / 2) = s.lit / 2 := IntWalk.i64_in _ (by omega)
      by_cases he : s.lit / 2 = X2
      · have hF := hide (find_step hs hno.out (he.trans hHX.out.symm))
        have hq : (s.lit / 2 == X2) = true := by simp [he]
        rw [he] at hsd hsw hq
        clear hs c1 c2 hw hs0 hs1 he
        go_wp2
        go_ret
        exact ⟨ret_int (by rw [hF.out]; rfl), rfl⟩
      · have hN := hide (find_next hs hno.out (fun h => he (h.trans hHX.out)))
        have hq : (s.lit / 2 == X2) = false := by simp [he]
        obtain ⟨S2, hS2⟩ : ∃ S2, s.lit / 2 = S2 := ⟨_, rfl⟩
        rw [hS2] at hsd hsw hq he
        clear hs c1 c2 hw hs0 hs1 hS2
        go_wp2
        go_round
        case rel => exact ⟨k + 1, hlt, by go_num, hN⟩
        case measure => simp [intOf]; omega
    · have hkn : n = k := by omega
      subst hkn
      have hF := hide (show placeZ (placeO l x) = -1 by rw [← List.take_length (l := l), hll.out, hno.out]; rfl)
      go_wp2
      go_ret
      exact ⟨ret_int hF.out.symm, rfl⟩
set_option maxRecDepth 8000 in
set_option maxHeartbeats 1000000 in
theorem ref_zero (A : Option Addr) (n c : Nat) (l : List St) (x : Int) (w : World) (hn : n ≤ 1000) (hr : RdT w A n l) :
    Calls Try.prog 96 #[.slice A n c, .int .i64 x] w fun e w' => e = .returned (.bool (zeroB l x)) ∧ Dr w w' := by
  have hnI : (n : Int) ≤ 1000 := by omega
  have hll := hide hr.1
  clear hn
  by_cases hx0 : x = 0
  · have hF := hide (show zeroB l x = true by unfold zeroB; rw [decide_eq_true hx0]; rfl)
    go_enter Try.func96, Try.ntmps96
    go_wp2
    go_ret
    exact ⟨ret_bool hF.out.symm, Dr.refl _⟩
  · have hq0 : (x == 0) = false := by simp [hx0]
    have hX := hide hx0
    go_enter Try.func96, Try.ntmps96
    go_wp2
    go_loopw [5] (fun i wr => ∃ k : Nat, k ≤ n ∧ i = .int .i64 k ∧ Dr w wr ∧ Hid (∀ j : Nat, j < k → ∀ s, l[j]? = some s → litGood x = true → s.lit ≠ litNot x)) (fun i _ => n - (intOf i).toNat)
    case atStart => exact ⟨0, Nat.zero_le _, rfl, Dr.refl _, fun j hj => absurd hj (Nat.not_lt_zero _)⟩
    case round =>
      obtain ⟨k, hk, rfl, hd, hno⟩ := hrel
      have hkI : (k : Int) ≤ 1000 := by omega
      by_cases hlt : k < n
      · obtain ⟨ad, s, z, rfl, hB, hs, c0, c1, c2, hw⟩ := hr.get hlt
        have c0 := (hd.cell _).trans c0
        have hstep := hide (fun (h : litGood x = true → s.lit ≠ litNot x) => (show ∀ j : Nat, j < k + 1 → ∀ s, l[j]? = some s → litGood x = true → s.lit ≠ litNot x from fun j hj y hy hg => by
          by_cases h1 : j = k
          · subst h1; rw [hs] at hy; injection hy with hy; rw [← hy]; exact h hg
          · exact hno.out j (by omega) y hy hg))
        have hhit := hide (fun hg h => zero_hit (x := x) hs hg h)
        have HG := hide (fun m => ref_Good x (wr.drewN m))
        have HN := hide (fun m => ref_Not x (wr.drewN m))
        clear hs c1 c2 hw
        obtain ⟨b, hg⟩ : ∃ b, litGood x = b := ⟨_, rfl⟩
        cases b with
        | false =>
          have hst := hide (hstep.out (fun h => by rw [hg] at h; cases h))
          rw [hg] at HG
          clear hstep hhit hg
          go_wp2
          go_quiet ((go_at_call 33; exact quiet_eq (HG.out _)))
          go_wp2
          go_roundw
          case rel => exact ⟨k + 1, hlt, by go_num, hd.more _, hst⟩
          case measure => simp [intOf]; omega
        | true =>
          rw [hg] at HG
          by_cases he : s.lit = litNot x
          · have hF := hide (hhit.out hg he)
            have hq : (s.lit == litNot x) = true := by simp [he]
            obtain ⟨L, hL⟩ : ∃ L, litNot x = L := ⟨_, rfl⟩
            rw [hL] at HN hq
            clear hstep hhit hg he hL
            go_wp2
            go_quiet ((first | (go_at_call 33; exact quiet_eq (HG.out _)) | (go_at_call 34; exact quiet_eq (HN.out _))))
            go_wp2
            go_ret
            exact ⟨ret_bool hF.out.symm, hd.more _⟩
          · have hst := hide (hstep.out (fun _ => he))
            have hq : (s.lit == litNot x) = false := by simp [he]
            obtain ⟨L, hL⟩ : ∃ L, litNot x = L := ⟨_, rfl⟩
            rw [hL] at HN hq he
            clear hstep hhit hg hL
            go_wp2
            go_quiet ((first | (go_at_call 33; exact quiet_eq (HG.out _)) | (go_at_call 34; exact quiet_eq (HN.out _))))
            go_wp2
            go_roundw
            case rel => exact ⟨k + 1, hlt, by go_num, hd.more _, hst⟩
            case measure => simp [intOf]; omega
      · have hkn : n = k := by omega
        subst hkn
        have hF := hide (zero_miss (x := x) hX.out (fun j hj => hno.out j (by have := hll.out; omega)))
        go_wp2
        go_ret
        exact ⟨ret_bool hF.out.symm, hd⟩
end Go.Proofs.Ytcjoohaagdihlaa.Learn
end

section
/- The document's Good of steps. -/
namespace Go.Proofs.Ytcjoohaagdihlaa.Learn
open Go.RowKit Go.Lt Go.Proofs.Ytcjoohaagdihlaa.Lit Go.Proofs.Ytcjoohaagdihlaa.Sorted
open Go.Proofs.Ytcjoohaagdihlaa.Kept (Sl Sl.val addr_off)
set_option linter.unusedVariables false
set_option linter.unusedSimpArgs false

theorem bad_step {l : List St} {bad : List Int} {k : Nat} (hk : k < l.length) (h : ¬ OkStep (l.take k) (lvl l k) (stAt l k)) : goodB l bad = false := goodB_no fun hg => h (hg.1 k hk)
theorem bad_bad {l : List St} {bad : List Int} {x : Int} (hx : x ∈ bad) (h : zeroB l x = false) : goodB l bad = false := goodB_no fun hg => by have := hg.2 x hx; rw [h] at this; cases this
theorem good_yes {l : List St} {bad : List Int} (h : OkTo l l.length) (hb : ∀ k : Nat, k < bad.length → ∀ x, bad[k]? = some x → zeroB l x = true) : goodB l bad = true := goodB_yes ⟨h, fun x hx => by
  obtain ⟨k, hk⟩ := List.getElem?_of_mem hx
  exact hb k (List.getElem?_eq_some_iff.1 hk).1 x hk⟩
theorem has_isR {A : Option Addr} {n c : Nat} {l : List Int} {x : Int} {b : Bool} (h : hasB l x = b) (hn : n ≤ 1000000) (W : World) (hr : Rd W A n (ivs l)) :
    Calls Try.prog 95 #[.slice A n c, .int .i64 x] W fun e w' => e = .returned (.bool b) ∧ W = w' := by
  subst h; exact ref_Has A n c l x W hn hr
theorem zero_is {A : Option Addr} {n c : Nat} {l : List St} {x : Int} {b : Bool} (h : zeroB l x = b) (hn : n ≤ 1000) (W : World) (hr : RdT W A n l) :
    Calls Try.prog 96 #[.slice A n c, .int .i64 x] W fun e w' => e = .returned (.bool b) ∧ Dr W w' := by
  subst h; exact ref_zero A n c l x W hn hr
set_option maxRecDepth 8000 in
set_option maxHeartbeats 4000000 in
theorem ref_GoodS (A : Option Addr) (n c : Nat) (l : List St) (B : Option Addr) (m cb : Nat) (bad : List Int) (w : World) (hn : n ≤ 1000) (hnc : n ≤ c) (hr : RdT w A n l) (hw : ∀ s ∈ l, s.why.length ≤ 1000) (hm : m ≤ 1000) (hrb : Rd w B m (ivs bad)) :
    Calls Try.prog 31 #[.slice A n c, .slice B m cb] w fun e w' => e = .returned (.bool (goodB l bad)) ∧ Below w.heap.size w w' := by
  have hnI : (n : Int) ≤ 1000 := by omega
  have hmI : (m : Int) ≤ 1000 := by omega
  have hll := hide hr.1
  have hbl := hide hrb.len
  replace hw := hide hw
  go_enter Try.func31, Try.ntmps31
  go_wp2
  go_loopw [5, 6] (fun v i wr => ∃ k : Nat, k ≤ n ∧ i = .int .i64 k ∧ v = .int .i64 (lvl l k) ∧ Hid (OkTo l k) ∧ Hid (Below w.heap.size w wr)) (fun _ i _ => n - (intOf i).toNat)
  case atStart => exact ⟨0, Nat.zero_le _, rfl, rfl, (fun i hi => absurd hi (Nat.not_lt_zero _)), Below.refl _ _⟩
  case round =>
    obtain ⟨k, hk, rfl, rfl, hok, hb⟩ := hrel
    have hkI : (k : Int) ≤ 1000 := by omega
    by_cases hlt : k < n
    · have hltI : (k : Int) < n := by omega
      obtain ⟨ad, s, z, rfl, hB, hs, c0, c1, c2, hwy⟩ := hr.get hlt
      have c0 := keepCell hb.out c0
      have c1 := keepCell hb.out c1
      have c2 := keepCell hb.out c2
      have hkl : k < l.length := by rw [hll.out]; exact hlt
      have hst := stAt_is hs
      have hbad := hide (fun h => bad_step (bad := bad) hkl h)
      have hnext := hide (fun h => OkTo.succ hok.out h)
      have hlev := hide (show lvl l (k + 1) = s.lev by show (stAt l k).lev = _; rw [hst])
      rw [hst] at hbad hnext
      have hwl : z.n ≤ 1000 := by have := hw.out s (List.mem_of_getElem? hs); have h2 := hwy.len; omega
      have hlits := hide (hok.out.lits (Nat.le_of_lt hkl))
      have hrk : RdT w (some ad) k (l.take k) := hr.take_ (Nat.le_of_lt hlt)
      obtain ⟨pre, hpre⟩ : ∃ pre, l.take k = pre := ⟨_, rfl⟩
      rw [hpre] at hbad hnext hlits hrk
      obtain ⟨LV, hLV⟩ : ∃ LV, lvl l k = LV := ⟨_, rfl⟩
      rw [hLV] at hbad hnext ⊢
      obtain ⟨lt, lv, wy⟩ := s
      simp only at c0 c1 hwy hlev
      have hbs := (Below.refl wr.heap.size wr).alloc (Nat.le_refl _) (.cells #[.int .i64 lt, .int .i64 lv, z.val] 51)
      have bX := Blk.new wr 51 #[.int .i64 lt, .int .i64 lv, z.val]
      obtain ⟨W1, hW1⟩ : ∃ W1, wr.alloc (.cells #[.int .i64 lt, .int .i64 lv, z.val] 51) = W1 := ⟨_, rfl⟩
      rw [hW1] at hbs bX
      have hb1 := hide (hb.out.trans (hbs.mono hb.out.size))
      have b0 : W1.cell? ⟨wr.heap.size, 0, none⟩ = some (.int .i64 lt) := bX.cell 0
      have b1 : W1.cell? ⟨wr.heap.size, 1, none⟩ = some (.int .i64 lv) := bX.cell 1
      have b2 : W1.cell? ⟨wr.heap.size, 2, none⟩ = some z.val := bX.cell 2
      have hwz : z.n = 0 ↔ wy = [] := by rw [← hwy.len]; exact List.length_eq_zero_iff
      replace hwz := hide hwz
      have HG := hide (fun q => ref_Good lt (W1.drewN q))
      clear hs hst hpre hLV bX hbs hkl
      by_cases h1 : lt < 2
      · have hF := hide (hbad.out (fun h => by have := h.two; simp only at this; omega))
        have d1 : decide (lt < 2) = true := decide_eq_true h1
        clear hbad hnext hlits HG
        go_wp2
        go_quiet (fail)
        go_wp2
        go_ret
        exact ⟨ret_bool hF.out.symm, hb1.out.trans ((((Dr.refl W1).more _).below W1.heap.size).mono hb1.out.size)⟩
      · have d1 : decide (lt < 2) = false := decide_eq_false h1
        by_cases h2 : lt ≤ 33554433
        · have hP := hide (fun q => ref_place (some ad) k c pre lt (W1.drewN q) (by omega) ((hrk.below hb1.out (Nat.le_refl _)).dr ((Dr.refl W1).more q)) hlits.out ⟨by omega, h2⟩)
          have hg : litGood lt = true := good_iff.2 ⟨by omega, h2⟩
          rw [hg] at HG
          replace h2 := hide h2
          clear hg
          obtain ⟨po, hpo⟩ : ∃ po, placeO pre lt = po := ⟨_, rfl⟩
          rw [hpo] at hP
          rcases po with _ | j
          · rw [show placeZ none = -1 from rfl] at hP
            by_cases h4 : lv < LV
            · have hF := hide (hbad.out (fun h => by have := h.up; simp only at this; omega))
              have d4 : decide (lv < LV) = true := decide_eq_true h4
              clear hbad hnext hlits hpo
              go_wp2
              go_quiet ((first | (go_at_call 33; exact quiet_eq (HG.out _)) | (go_at_call 89; exact quiet_eq (hP.out _))))
              go_wp2
              go_ret
              exact ⟨ret_bool hF.out.symm, hb1.out.trans ((((Dr.refl W1).more _).below W1.heap.size).mono hb1.out.size)⟩
            · have d4 : decide (lv < LV) = false := decide_eq_false h4
              have hnew := hide hpo
              clear hpo
              go_wp2
              go_quiet ((first | (go_at_call 33; exact quiet_eq (HG.out _)) | (go_at_call 89; exact quiet_eq (hP.out _))))
              clear hP HG
              obtain ⟨wo, hwo⟩ : ∃ wo, wo = wr := ⟨_, rfl⟩
              subst hwo
              obtain ⟨zA, zn, zc⟩ := z
              simp only at hwz hwl hwy
              simp only [Sl.val] at b2
              have hlz := hide hwy.len
              by_cases hw0 : zn = 0
              · subst hw0
                by_cases hlv : LV < lv
                · have hwe : wy = [] := hwz.out.1 rfl
                  have hO := hide (hnext.out ⟨by show 2 ≤ lt; omega, h2.out, hnew.out, by show LV ≤ lv; omega, ⟨fun _ => hlv, fun _ => hwe⟩, fun h => absurd hwe h, fun y hy => by rw [hwe] at hy; cases hy⟩)
                  have hbW := hide (fun q => hb1.out.trans ((((Dr.refl W1).more q).below W1.heap.size).mono hb1.out.size))
                  clear hwe hwz hnew hbad hnext hwy hlz
                  go_wp2
                  go_loopw [8] (fun i wr => ∃ q : Nat, q ≤ 0 ∧ i = .int .i64 q ∧ Dr W1 wr) (fun i _ => 0 - (intOf i).toNat)
                  case atStart => exact ⟨0, Nat.zero_le _, rfl, (Dr.refl _).more _⟩
                  case round =>
                    obtain ⟨q, hq, rfl, hd⟩ := hrel
                    obtain rfl : q = 0 := by omega
                    have b1 := (hd.cell _).trans b1
                    have b2 := (hd.cell _).trans b2
                    go_wp2
                    go_roundw
                    case rel => exact ⟨k + 1, hlt, by go_num, by rw [hlev.out], hO, hide (hb1.out.trans ((hd.below W1.heap.size).mono hb1.out.size))⟩
                    case measure => simp [intOf]; omega
                · have hF := hide (hbad.out (fun h => hlv (h.tried.1 (hwz.out.1 rfl))))
                  clear hwz hnew hbad hnext hwy hlz
                  go_wp2
                  go_ret
                  exact ⟨ret_bool hF.out.symm, hb1.out.trans ((((Dr.refl W1).more _).below W1.heap.size).mono hb1.out.size)⟩
              · have hw0' : ¬ (zn : Int) = 0 := by omega
                have hw0p : 0 < zn := by omega
                have hz1 : ((zn : Int) == 0) = false := beq_eq_false_iff_ne.2 hw0'
                have hz2 : (zn == 0) = false := beq_eq_false_iff_ne.2 hw0
                have hzI : (zn : Int) ≤ 1000 := by omega
                by_cases hlv : LV < lv
                · have hF := hide (hbad.out (fun h => hw0 (hwz.out.2 (h.tried.2 hlv))))
                  clear hwz hnew hbad hnext hwy hlz
                  go_wp2
                  go_ret
                  exact ⟨ret_bool hF.out.symm, hb1.out.trans ((((Dr.refl W1).more _).below W1.heap.size).mono hb1.out.size)⟩
                · have hne : wy ≠ [] := fun h => hw0 (hwz.out.2 h)
                  obtain ⟨hb2, hhb⟩ : ∃ hb2, hasB wy lt = hb2 := ⟨_, rfl⟩
                  have HH := hide (fun q => has_isR (c := zc) hhb (show zn ≤ 1000000 by omega) (W1.drewN q) ((hwy.below hb1.out (Nat.le_refl _)).below (((Dr.refl W1).more q).below W1.heap.size) (Nat.le_refl _)))
                  cases hb2 with
                  | false =>
                    have hF := hide (hbad.out (fun h => by have := has_iff.2 (h.has hne); simp only at this; rw [hhb] at this; cases this))
                    clear hwz hnew hbad hnext hwy hlz hhb hne
                    go_wp2_with fail
                    refine (HH.out _).mono ?_
                    rintro e w2 ⟨rfl, rfl⟩
                    go_wp2
                    go_ret
                    exact ⟨ret_bool hF.out.symm, hb1.out.trans ((((Dr.refl W1).more _).below W1.heap.size).mono hb1.out.size)⟩
                  | true =>
                    have hO := hide (fun (hy : ∀ j : Nat, j < zn → ∀ y, wy[j]? = some y → whyB pre ⟨lt, lv, wy⟩ y = true) => hnext.out ⟨by show 2 ≤ lt; omega, h2.out, hnew.out, by show LV ≤ lv; omega, ⟨fun h => absurd h hne, fun h => absurd h hlv⟩, fun _ => has_iff.1 hhb, fun y hm => by
                      have hm : y ∈ wy := hm
                      obtain ⟨j, hj⟩ := List.getElem?_of_mem hm
                      exact hy j (by have := (List.getElem?_eq_some_iff.1 hj).1; have := hlz.out; omega) y hj⟩)
                    have hwb := hide (fun (y : Int) (hm : y ∈ wy) (h : whyB pre ⟨lt, lv, wy⟩ y = false) => hbad.out (fun hk => by have := hk.why y hm; rw [h] at this; cases this))
                    clear hwz hnew hbad hnext hhb hne
                    go_wp2_with fail
                    refine (HH.out _).mono ?_
                    rintro e w2 ⟨rfl, rfl⟩
                    clear HH
                    go_wp2
                    go_loopw [8] (fun i wr => ∃ q : Nat, q ≤ zn ∧ i = .int .i64 q ∧ Dr W1 wr ∧ Hid (∀ j : Nat, j < q → ∀ y, wy[j]? = some y → whyB pre ⟨lt, lv, wy⟩ y = true)) (fun i _ => zn - (intOf i).toNat)
                    case atStart => exact ⟨0, Nat.zero_le _, rfl, (Dr.refl _).more _, fun j hj => absurd hj (Nat.not_lt_zero _)⟩
                    case round =>
                      obtain ⟨q, hq, rfl, hd, hno⟩ := hrel
                      have hqI : (q : Int) ≤ 1000 := by omega
                      have b0 := (hd.cell _).trans b0
                      have b1 := (hd.cell _).trans b1
                      have b2 := (hd.cell _).trans b2
                      by_cases hltq : q < zn
                      · obtain ⟨ay, y, rfl, hBy, hy, cy⟩ := (Dr.rd hd (hwy.below hb1.out (Nat.le_refl _))).get hltq
                        have hstep := hide (fun (h : whyB pre ⟨lt, lv, wy⟩ y = true) => (show ∀ j : Nat, j < q + 1 → ∀ y, wy[j]? = some y → whyB pre ⟨lt, lv, wy⟩ y = true from fun j hj u hu => by
                          by_cases h1 : j = q
                          · subst h1; rw [hy] at hu; injection hu with hu; rw [← hu]; exact h
                          · exact hno.out j (by omega) u hu))
                        have hbd := hide (fun h => hwb.out y (List.mem_of_getElem? hy) h)
                        clear hy
                        by_cases hyl : y = lt
                        · have hst := hide (hstep.out (by unfold whyB; rw [decide_eq_true (show y = (⟨lt, lv, wy⟩ : St).lit from hyl)]; rfl))
                          have hf1 : (y == lt) = true := by simp [hyl]
                          have hf2 : (y != lt) = false := by simp [hyl]
                          clear hstep hbd hyl
                          go_wp2
                          go_quiet (fail)
                          go_wp2
                          go_roundw
                          case rel => exact ⟨q + 1, hltq, by go_num, hd.more _, hst⟩
                          case measure => simp [intOf]; omega
                        · have hf1 : (y == lt) = false := by simp [hyl]
                          have hf2 : (y != lt) = true := by simp [hyl]
                          obtain ⟨zb, hzb⟩ : ∃ zb, zeroB pre y = zb := ⟨_, rfl⟩
                          have HZ := hide (fun m => zero_is (c := c) hzb (show k ≤ 1000 by omega) (wr.drewN m) ((hrk.below hb1.out (Nat.le_refl _)).dr (hd.more m)))
                          have hwv : whyB pre ⟨lt, lv, wy⟩ y = zb := by unfold whyB; rw [hzb, decide_eq_false (show ¬ y = (⟨lt, lv, wy⟩ : St).lit from hyl)]; rfl
                          cases zb with
                          | true =>
                            have hst := hide (hstep.out hwv)
                            clear hstep hbd hwv hzb
                            go_wp2
                            go_quiet ((go_at_call 96; exact quiet_dr (HZ.out _)))
                            go_wp2
                            go_roundw
                            case rel => exact ⟨q + 1, hltq, by go_num, hd.more _, hst⟩
                            case measure => simp [intOf]; omega
                          | false =>
                            have hF := hide (hbd.out hwv)
                            clear hstep hbd hwv hzb
                            go_wp2
                            go_quiet ((go_at_call 96; exact quiet_dr (HZ.out _)))
                            go_wp2
                            go_ret
                            exact ⟨ret_bool hF.out.symm, hb1.out.trans (((hd.more _).below W1.heap.size).mono hb1.out.size)⟩
                      · have hqz : q = zn := by omega
                        subst hqz
                        have hOk := hide (hO.out hno.out)
                        clear hO hno hwb
                        go_wp2
                        go_roundw
                        case rel => exact ⟨k + 1, hlt, by go_num, by rw [hlev.out], hOk, hide (hb1.out.trans ((hd.below W1.heap.size).mono hb1.out.size))⟩
                        case measure => simp [intOf]; omega
          · have hF := hide (hbad.out (fun h => by have := h.new; simp only at this; rw [hpo] at this; cases this))
            rw [show placeZ (some j) = (j : Int) from rfl] at hP
            have d3 : decide (0 ≤ (j : Int)) = true := by rw [decide_eq_true_iff]; omega
            clear hbad hnext hlits hpo
            go_wp2
            go_quiet ((first | (go_at_call 33; exact quiet_eq (HG.out _)) | (go_at_call 89; exact quiet_eq (hP.out _))))
            go_wp2
            go_ret
            exact ⟨ret_bool hF.out.symm, hb1.out.trans ((((Dr.refl W1).more _).below W1.heap.size).mono hb1.out.size)⟩
        · have hF := hide (hbad.out (fun h => by have := h.good; simp only at this; omega))
          have hg : litGood lt = false := bad_iff.2 (by omega)
          rw [hg] at HG
          clear hbad hnext hlits h2 hg
          go_wp2
          go_quiet ((go_at_call 33; exact quiet_eq (HG.out _)))
          go_wp2
          go_ret
          exact ⟨ret_bool hF.out.symm, hb1.out.trans ((((Dr.refl W1).more _).below W1.heap.size).mono hb1.out.size)⟩
    · have hkn : n = k := by omega
      subst hkn
      obtain ⟨wo, hwo⟩ : ∃ wo, wo = wr := ⟨_, rfl⟩
      subst hwo
      have hY := hide (fun hb => good_yes (bad := bad) (l := l) (by rw [hll.out]; exact hok.out) hb)
      have hN := hide (fun x hx h => bad_bad (l := l) (bad := bad) (x := x) hx h)
      clear hok
      go_wp2
      go_loopw [9] (fun i wr => ∃ q : Nat, q ≤ m ∧ i = .int .i64 q ∧ Dr wo wr ∧ Hid (∀ j : Nat, j < q → ∀ y, bad[j]? = some y → zeroB l y = true)) (fun i _ => m - (intOf i).toNat)
      case atStart => exact ⟨0, Nat.zero_le _, rfl, Dr.refl _, fun j hj => absurd hj (Nat.not_lt_zero _)⟩
      case round =>
        obtain ⟨q, hq, rfl, hd, hno⟩ := hrel
        have hqI : (q : Int) ≤ 1000 := by omega
        by_cases hltq : q < m
        · obtain ⟨ay, y, rfl, hBy, hy, cy⟩ := (Dr.rd hd (hrb.below hb.out (Nat.le_refl _))).get hltq
          have hstep := hide (fun (h : zeroB l y = true) => (show ∀ j : Nat, j < q + 1 → ∀ y, bad[j]? = some y → zeroB l y = true from fun j hj u hu => by
            by_cases h1 : j = q
            · subst h1; rw [hy] at hu; injection hu with hu; rw [← hu]; exact h
            · exact hno.out j (by omega) u hu))
          have hbd := hide (fun h => hN.out y (List.mem_of_getElem? hy) h)
          obtain ⟨zb, hzb⟩ : ∃ zb, zeroB l y = zb := ⟨_, rfl⟩
          have HZ := hide (zero_is (c := c) hzb (show n ≤ 1000 by omega) wr ((hr.below hb.out (Nat.le_refl _)).dr hd))
          cases zb with
          | true =>
            have hst := hide (hstep.out hzb)
            clear hstep hbd hzb hy
            go_wp2_with fail
            refine HZ.out.mono ?_
            rintro e w2 ⟨rfl, hd2⟩
            go_wp2
            go_roundw
            case rel => exact ⟨q + 1, hltq, by go_num, hd.trans hd2, hst⟩
            case measure => simp [intOf]; omega
          | false =>
            have hF := hide (hbd.out hzb)
            clear hstep hbd hzb hy
            go_wp2_with fail
            refine HZ.out.mono ?_
            rintro e w2 ⟨rfl, hd2⟩
            go_wp2
            go_ret
            exact ⟨ret_bool hF.out.symm, hb.out.trans ((hd.trans hd2).below _)⟩
        · have hqm : q = m := by omega
          subst hqm
          have hF := hide (hY.out (fun j hj => hno.out j (by have := hbl.out; omega)))
          clear hY hN hno
          go_wp2
          go_ret
          exact ⟨ret_bool hF.out.symm, hb.out.trans (hd.below _)⟩
end Go.Proofs.Ytcjoohaagdihlaa.Learn
end
