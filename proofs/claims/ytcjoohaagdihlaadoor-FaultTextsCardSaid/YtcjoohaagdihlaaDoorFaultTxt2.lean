/- Contracts on the document's text of a fault, and on both that read one. -/
import Derived.Test.YtcjoohaagdihlaaDoorFaultTxt1
import Derived.Test.YtcjoohaagdihlaaDoorNat2
import Derived.Test.YtcjoohaagdihlaaDoorCutShelf
namespace Go.Proofs.YtcjoohaagdihlaaDoor.Fault
open Go.RowKit Go.Lt Go.Proofs.YtcjoohaagdihlaaDoor.Lit Go.Proofs.YtcjoohaagdihlaaDoor.Dec Go.Instr
set_option linter.unusedVariables false
set_option linter.unusedSimpArgs false

theorem ref_TextF (f : Ft) (h0 : -9223372036854775808 ≤ f.v) (h1 : f.v ≤ 9223372036854775807) (h2 : -9223372036854775808 ≤ f.p) (h3 : f.p ≤ 9223372036854775807) (w : World) :
    Calls Tryd.prog 75 #[.agg #[.int .i64 f.v, .int .i64 f.p, .bool f.o]] w fun e w' => e = .returned (.string ⟨(textF f).toArray⟩) ∧ Below w.heap.size w w' := by
  obtain ⟨a, ha⟩ : ∃ a, Lib.itoa f.v = a := ⟨_, rfl⟩
  obtain ⟨b, hb⟩ : ∃ b, Lib.itoa f.p = b := ⟨_, rfl⟩
  have la : a.length ≤ 30 := by rw [← ha]; exact itoa_short h0 h1
  have lb : b.length ≤ 30 := by rw [← hb]; exact itoa_short h2 h3
  have T1 := hide (fun h => text_pin ha hb h)
  have T2 := hide (fun h => text_nopin ha h)
  have HV := hide (fun W => rdec_to ha h0 h1 W)
  have HP := hide (fun W => rdec_to hb h2 h3 W)
  have HO := hide (fun W => rdec_to (one_itoa f.o) (atB_bd f.o).1 (atB_bd f.o).2 W)
  have HC := hide (fun W => ref_at f.o W)
  have lo : (bOne f.o).length ≤ 1 := by cases f.o <;> decide
  obtain ⟨v, p, o⟩ := f
  simp only at *
  obtain ⟨bo, hbo⟩ : ∃ bo, bOne o = bo := ⟨_, rfl⟩
  rw [hbo] at *
  obtain ⟨ao, hao⟩ : ∃ ao, atB o = ao := ⟨_, rfl⟩
  rw [hao] at HO HC
  clear ha hb h0 h1 h2 h3 hbo hao
  have hb0 := (Below.refl w.heap.size w).alloc (Nat.le_refl _) (.cells #[.int .i64 v, .int .i64 p, .bool o] 54)
  by_cases hz : p = 0
  · have hT := hide (T2.out hz)
    subst hz
    clear T1 T2 HP lb
    go_enter Tryd.func75, Tryd.ntmps75
    go_wp2_with fail
    refine (HV.out _).mono ?_
    rintro e w1 ⟨rfl, hb1⟩
    have hB := hide (hb0.trans (hb1.mono hb0.size))
    have hblk := hide ((Blk.new w 54 #[.int .i64 v, .int .i64 0, .bool o]).below hb1 (by simp))
    have c1 : w1.cell? ⟨w.heap.size, 1, none⟩ = some (.int .i64 0) := hblk.out.cell 1
    have c2 : w1.cell? ⟨w.heap.size, 2, none⟩ = some (.bool o) := hblk.out.cell 2
    clear hb1
    go_wp2_with fail
    refine (HC.out _).mono ?_
    rintro e w2 ⟨rfl, rfl⟩
    go_wp2_with fail
    refine (HO.out _).mono ?_
    rintro e w3 ⟨rfl, hb3⟩
    have hB3 := hide (hB.out.trans (hb3.mono hB.out.size))
    clear hb3
    go_wp2
    go_ret
    exact ⟨ret_str (by rw [hT.out]; simp [cat2]), hB3.out⟩
  · have hT := hide (T1.out hz)
    clear T1 T2
    go_enter Tryd.func75, Tryd.ntmps75
    go_wp2_with fail
    refine (HV.out _).mono ?_
    rintro e w1 ⟨rfl, hb1⟩
    have hB := hide (hb0.trans (hb1.mono hb0.size))
    have hblk := hide ((Blk.new w 54 #[.int .i64 v, .int .i64 p, .bool o]).below hb1 (by simp))
    have c1 : w1.cell? ⟨w.heap.size, 1, none⟩ = some (.int .i64 p) := hblk.out.cell 1
    clear hb1
    go_wp2_with fail
    refine (HP.out _).mono ?_
    rintro e w2 ⟨rfl, hb2⟩
    have hB2 := hide (hB.out.trans (hb2.mono hB.out.size))
    have hblk2 := hide (hblk.out.below hb2 hblk.out.lt)
    have c2 : w2.cell? ⟨w.heap.size, 2, none⟩ = some (.bool o) := hblk2.out.cell 2
    clear hb2 c1
    go_wp2_with fail
    refine (HC.out _).mono ?_
    rintro e w3 ⟨rfl, rfl⟩
    go_wp2_with fail
    refine (HO.out _).mono ?_
    rintro e w3 ⟨rfl, hb3⟩
    have hB3 := hide (hB2.out.trans (hb3.mono hB2.out.size))
    clear hb3
    go_wp2
    go_ret
    exact ⟨ret_str (by rw [hT.out]; simp [cat2]), hB3.out⟩

/-- the cell of the search's bound holds some number -/
def MaxL (w : World) : Prop := ∃ m, w.cell? ⟨2, 0, none⟩ = some (.int .i64 m)
theorem MaxL.below {w w' : World} (h : MaxL w) (hb : Below w.heap.size w w') : MaxL w' := by
  obtain ⟨m, hm⟩ := h
  have hlt := World.block_lt_of_cell? w _ hm
  exact ⟨m, (hb.cell hlt).trans hm⟩
theorem cutB_le (l : List UInt8) (c : UInt8) : (cutB l c).1.length ≤ l.length ∧ (cutB l c).2.length ≤ l.length := by
  unfold cutB
  refine ⟨(List.takeWhile_prefix _).length_le, ?_⟩
  simp only [List.length_drop]
  have := (List.dropWhile_suffix (l := l) (fun x => x != c)).length_le
  omega
theorem size_mk (a : List UInt8) : (⟨a.toArray⟩ : ByteArray).size = a.length := by simp [ByteArray.size]
theorem cut_to {s : ByteArray} {c : UInt8} {a b : ByteArray} {B : Bool} (ha : a = ⟨(cutB s.data.toList c).1.toArray⟩) (hb : b = ⟨(cutB s.data.toList c).2.toArray⟩) (hB : (Lib.cut s.data.toList [c]).2.2 = B) (hs : s.size < 4294967281) (w : World) (hx : MaxL w) :
    Calls Tryd.prog 122 #[.string s, .string ⟨#[c]⟩] w fun e w' => e = .returned (.tuple #[.string a, .string b, .bool B]) ∧ Dr w w' := by
  subst ha hb hB
  obtain ⟨m, hm⟩ := hx
  refine (Tryd.strings_Cut s ⟨#[c]⟩ m w hs hm).mono ?_
  rintro e w' ⟨rfl, n, rfl⟩
  obtain ⟨h1, h2⟩ := cut_one s.data.toList c
  have e1 : (⟨#[c]⟩ : ByteArray).data.toList = [c] := rfl
  rw [e1, h1, h2]
  exact ⟨rfl, n, rfl⟩
theorem nat_to {s : ByteArray} {a b c : Nat} (h : natR s.data.toList = (a, b, c)) (hs : s.size ≤ 1000000) (w : World) :
    Calls Tryd.prog 118 #[.string s, .int .i64 0] w fun e w' => e = .returned (.tuple #[.int .i64 (a : Int), .int .i64 (b : Int), .int .i64 (c : Int)]) ∧ Below w.heap.size w w' :=
  (octet_Nat s w hs).mono fun e w' ⟨h1, h2⟩ => ⟨by rw [h1, h], h2⟩
theorem rnat_to {s : ByteArray} {a b c : Nat} (h : natR s.data.toList = (a, b, c)) (hs : s.size ≤ 1000000) (w : World) :
    Calls Tryd.prog 119 #[.string s, .int .i64 0] w fun e w' => e = .returned (.tuple #[.int .i64 (a : Int), .int .i64 (b : Int), .int .i64 (c : Int)]) ∧ Below w.heap.size w w' :=
  (ref_Nat s w hs).mono fun e w' ⟨h1, h2⟩ => ⟨by rw [h1, h], h2⟩
def Bd (f : Ft) : Prop := -9223372036854775808 ≤ f.v ∧ f.v ≤ 9223372036854775807 ∧ -9223372036854775808 ≤ f.p ∧ f.p ≤ 9223372036854775807
theorem ftextX {f : Ft} {X : ByteArray} (h : X = ⟨(textF f).toArray⟩) (hd : Bd f) (w : World) (hp : Pows w) :
    Calls Tryd.prog 74 #[.agg #[.int .i64 f.v, .int .i64 f.p, .bool f.o]] w fun e w' => e = .returned (.string X) ∧ Below w.heap.size w w' := by subst h; exact fault_Text f hd.1 hd.2.1 hd.2.2.1 hd.2.2.2 w hp
theorem rtextF {f : Ft} {X : ByteArray} (h : X = ⟨(textF f).toArray⟩) (hd : Bd f) (w : World) :
    Calls Tryd.prog 75 #[.agg #[.int .i64 f.v, .int .i64 f.p, .bool f.o]] w fun e w' => e = .returned (.string X) ∧ Below w.heap.size w w' := by subst h; exact ref_TextF f hd.1 hd.2.1 hd.2.2.1 hd.2.2.2 w
def FReadIs (s : ByteArray) (w : World) (e : Ending) (w' : World) : Prop :=
  ∃ x : Ft × Int, e = .returned (.tuple #[.agg #[.int .i64 x.1.v, .int .i64 x.1.p, .bool x.1.o], .int .i64 x.2]) ∧ ReadS s.data.toList x ∧ Below w.heap.size w w'
theorem mk_list (s : ByteArray) : (⟨s.data.toList.toArray⟩ : ByteArray) = s := by obtain ⟨⟨l⟩⟩ := s; rfl
theorem byte_eq {X : ByteArray} {l : List UInt8} : (X.toList == l) = decide (X.data.toList = l) := by
  rw [ByteArray.toList_eq, Bool.eq_iff_iff, decide_eq_true_iff, beq_iff_eq]
theorem byte_ne {X : ByteArray} {l : List UInt8} : (X.toList != l) = !decide (X.data.toList = l) := by
  show (!(X.toList == l)) = _
  rw [byte_eq]

set_option maxRecDepth 4000 in
set_option maxHeartbeats 4000000 in
theorem fault_Read (s : ByteArray) (w : World) (hs : s.size ≤ 1000) (hp : Pows w) (hx : MaxL w) : Calls Tryd.prog 72 #[.string s] w (FReadIs s w) := by
  have hsl : s.data.toList.length ≤ 1000 := by rw [size_list]; exact hs
  obtain ⟨Lb, hLb⟩ : ∃ Lb : ByteArray, Lb = ⟨(cutB s.data.toList 47).1.toArray⟩ := ⟨_, rfl⟩
  obtain ⟨Ab, hAb⟩ : ∃ Ab : ByteArray, Ab = ⟨(cutB s.data.toList 47).2.toArray⟩ := ⟨_, rfl⟩
  have hLl : Lb.data.toList = (cutB s.data.toList 47).1 := by rw [hLb]
  have hAl : Ab.data.toList = (cutB s.data.toList 47).2 := by rw [hAb]
  obtain ⟨Nb, hNb⟩ : ∃ Nb : ByteArray, Nb = ⟨(cutB Lb.data.toList 46).1.toArray⟩ := ⟨_, rfl⟩
  obtain ⟨Pb, hPb⟩ : ∃ Pb : ByteArray, Pb = ⟨(cutB Lb.data.toList 46).2.toArray⟩ := ⟨_, rfl⟩
  have hNl : Nb.data.toList = (cutB (cutB s.data.toList 47).1 46).1 := by rw [hNb, hLl]
  have hPl : Pb.data.toList = (cutB (cutB s.data.toList 47).1 46).2 := by rw [hPb, hLl]
  have hL1 : Lb.data.toList.length ≤ 1000 := by rw [hLl]; have := (cutB_le s.data.toList 47).1; omega
  have hN1 : Nb.size ≤ 1000 := by rw [← size_list, hNb]; have := (cutB_le Lb.data.toList 46).1; simp only; omega
  have hP1 : Pb.size ≤ 1000 := by rw [← size_list, hPb]; have := (cutB_le Lb.data.toList 46).2; simp only; omega
  obtain ⟨B1, hB1⟩ : ∃ B1, (Lib.cut s.data.toList [47]).2.2 = B1 := ⟨_, rfl⟩
  obtain ⟨B2, hB2⟩ : ∃ B2, (Lib.cut Lb.data.toList [46]).2.2 = B2 := ⟨_, rfl⟩
  obtain ⟨V, E1, e1, hn1⟩ : ∃ V E1 e1, natR Nb.data.toList = (V, E1, e1) := ⟨_, _, _, rfl⟩
  obtain ⟨V2, E2, e2, hn2⟩ : ∃ V2 E2 e2, natR Pb.data.toList = (V2, E2, e2) := ⟨_, _, _, rfl⟩
  have hV : V < 1000000000 := by have := (natR_lt Nb.data.toList).1; rw [hn1] at this; exact this
  have hV2 : V2 < 1000000000 := by have := (natR_lt Pb.data.toList).1; rw [hn2] at this; exact this
  have he1 : e1 ≤ 5 := by have := (natR_lt Nb.data.toList).2.2; rw [hn1] at this; exact this
  obtain ⟨One, hOne⟩ : ∃ One, (Ab.toList == [49]) = One := ⟨_, rfl⟩
  obtain ⟨Q, hQ⟩ : ∃ Q, Pb.toList.isEmpty = Q := ⟨_, rfl⟩
  obtain ⟨P, hP⟩ : ∃ P : Int, (if Q = true then 0 else (V2 : Int)) = P := ⟨_, rfl⟩
  have hOne' : One = decide (Ab.data.toList = [49]) := by rw [← hOne, byte_eq]
  have hQ' : Q = decide (Pb.data.toList = []) := by rw [← hQ, ByteArray.toList_eq]; cases Pb.data.toList <;> rfl
  have hgf : guessF s.data.toList = ⟨(V : Int), P, One⟩ := by
    unfold guessF
    rw [← hNl, ← hPl, ← hAl, hn1, hn2, ← hP, hOne', hQ']
    by_cases h : Pb.data.toList = []
    · rw [if_pos h, if_pos (by simp [h])]
    · rw [if_neg h, if_neg (by simp [h])]
  have hP0 : 0 ≤ P ∧ P < 1000000000 := by rw [← hP]; split <;> omega
  obtain ⟨X, hX⟩ : ∃ X : ByteArray, X = ⟨(textF ⟨(V : Int), P, One⟩).toArray⟩ := ⟨_, rfl⟩
  have hXl : X.data.toList = textF ⟨(V : Int), P, One⟩ := by rw [hX]
  obtain ⟨D, hD⟩ : ∃ D, (X.toList == s.toList) = D := ⟨_, rfl⟩
  have hD' : D = decide (textF ⟨(V : Int), P, One⟩ = s.data.toList) := by rw [← hD, byte_eq, hXl, ByteArray.toList_eq]
  have R1 := hide (show e1 ≠ 0 → ReadS s.data.toList (zF, 2) from fun h => read_err1 (by rw [← hNl, hn1]; exact h))
  have R2 := hide (show 2 < P ∨ D = false → ReadS s.data.toList (zF, 2) from fun h => read_err2 (by
    rw [hgf]
    rcases h with h | h
    · exact .inl h
    · refine .inr ?_
      rw [hD'] at h
      simpa using h))
  have R3 := hide (show P ≤ 2 → D = true → ReadS s.data.toList (⟨(V : Int), P, One⟩, 0) from fun h1 h2 => by
    have := read_ok (s := s.data.toList) (by rw [hgf]; exact h1) (by
      rw [hgf]
      rw [hD'] at h2
      simpa using h2)
    rwa [hgf] at this)
  have C1 := hide (fun W hW => cut_to (c := 47) hLb hAb hB1 (by omega) W hW)
  have C2 := hide (fun W hW => cut_to (c := 46) hNb hPb hB2 (by rw [← size_list]; omega) W hW)
  have N1 := hide (fun W => nat_to hn1 (by omega) W)
  have N2 := hide (fun W => nat_to hn2 (by omega) W)
  have T1 := hide (fun W hW => ftextX (f := ⟨(V : Int), P, One⟩) hX ⟨by simp only; omega, by simp only; omega, by simp only; omega, by simp only; omega⟩ W hW)
  clear hV hV2 hP0 hOne' hQ' hD' hLb hAb hLl hAl hNb hPb hNl hPl hL1 hN1 hP1 hB1 hB2 hn1 hn2 hgf hX hXl hsl hs
  have ba := (Below.refl w.heap.size w).alloc (Nat.le_refl _) (.cells #[.int .i64 0, .int .i64 0, .bool false] 54)
  go_enter Tryd.func72, Tryd.ntmps72
  go_wp2_with fail
  refine (C1.out _ (hx.below ba)).mono ?_
  rintro e w1 ⟨rfl, m1, rfl⟩
  go_wp2_with fail
  refine (C2.out _ (hx.below (ba.trans (Dr.below ⟨m1, rfl⟩ _)))).mono ?_
  rintro e w1 ⟨rfl, m2, rfl⟩
  have q0 : Blk ((w.alloc (.cells #[.int .i64 0, .int .i64 0, .bool false] 54)).drewN (m1 + m2)) w.heap.size 54 #[.int .i64 0, .int .i64 0, .bool false] := Blk.new w _ _
  have q1 := q0.alloc (.cells #[.int .i64 0, .int .i64 0, .bool One] 54)
  have q2 := Blk.new ((w.alloc (.cells #[.int .i64 0, .int .i64 0, .bool false] 54)).drewN (m1 + m2)) 54 #[.int .i64 0, .int .i64 0, .bool One]
  have bb := (ba.trans (Dr.below ⟨m1 + m2, rfl⟩ _)).alloc (by simp) (.cells #[.int .i64 0, .int .i64 0, .bool One] 54)
  go_wp2_with fail
  refine (N1.out _).mono ?_
  rintro e w3 ⟨rfl, hb3⟩
  have hr := hide (q1.below hb3 q1.lt)
  have ht := hide (show Blk w3 (w.heap.size + 1) 54 #[.int .i64 0, .int .i64 0, .bool One] by have := q2.below hb3 q2.lt; simpa using this)
  have hB := hide (bb.trans (hb3.mono bb.size))
  clear hb3 q0 q1 q2 bb ba C1 C2 N1
  have k0 : w3.cell? ⟨w.heap.size, 0, none⟩ = some (.int .i64 0) := hr.out.cell 0
  have k1 : w3.cell? ⟨w.heap.size, 1, none⟩ = some (.int .i64 0) := hr.out.cell 1
  have k2 : w3.cell? ⟨w.heap.size, 2, none⟩ = some (.bool false) := hr.out.cell 2
  have y0 := hr.out.frozen 0
  have y1 := hr.out.frozen 1
  have y2 := hr.out.frozen 2
  have t0 : w3.cell? ⟨w.heap.size + 1, 0, none⟩ = some (.int .i64 0) := ht.out.cell 0
  have t1 : w3.cell? ⟨w.heap.size + 1, 1, none⟩ = some (.int .i64 0) := ht.out.cell 1
  have t2 : w3.cell? ⟨w.heap.size + 1, 2, none⟩ = some (.bool One) := ht.out.cell 2
  have u0 := ht.out.frozen 0
  have u1 := ht.out.frozen 1
  by_cases he : e1 = 0
  · subst he
    cases Q
    · have hPz : P = (V2 : Int) := by rw [← hP]; simp
      subst hPz
      have hr4 := hr.out.far (p := ⟨w.heap.size + 1, 0, none⟩) (by simp) (.int .i64 (V : Int))
      have ht4 := ht.out.set_ 0 (.int .i64 (V : Int))
      have HBW := hB.out.setCell (p := ⟨w.heap.size + 1, 0, none⟩) (by simp) (.int .i64 (V : Int))
      go_wp2_with fail
      refine (N2.out _).mono ?_
      rintro e w4 ⟨rfl, hb4⟩
      have hr4 := hide (hr4.below hb4 hr4.lt)
      have ht4 := hide (ht4.below hb4 ht4.lt)
      have hB := hide (HBW.trans (hb4.mono HBW.size))
      clear hb4 HBW k0 k1 k2 y0 y1 y2 t0 t1 t2 u0 u1
      have k0 : w4.cell? ⟨w.heap.size, 0, none⟩ = some (.int .i64 0) := hr4.out.cell 0
      have k1 : w4.cell? ⟨w.heap.size, 1, none⟩ = some (.int .i64 0) := hr4.out.cell 1
      have k2 : w4.cell? ⟨w.heap.size, 2, none⟩ = some (.bool false) := hr4.out.cell 2
      have y0 := hr4.out.frozen 0
      have y1 := hr4.out.frozen 1
      have y2 := hr4.out.frozen 2
      have t0 : w4.cell? ⟨w.heap.size + 1, 0, none⟩ = some (.int .i64 (V : Int)) := ht4.out.cell 0
      have t1 : w4.cell? ⟨w.heap.size + 1, 1, none⟩ = some (.int .i64 0) := ht4.out.cell 1
      have t2 : w4.cell? ⟨w.heap.size + 1, 2, none⟩ = some (.bool One) := ht4.out.cell 2
      have u0 := ht4.out.frozen 0
      have u1 := ht4.out.frozen 1
      have hr4 := hide (hr4.out.far (p := ⟨w.heap.size + 1, 1, none⟩) (by simp) (.int .i64 (V2 : Int)))
      have ht4 := hide (ht4.out.set_ 1 (.int .i64 (V2 : Int)))
      have HBW := hide (hB.out.setCell (p := ⟨w.heap.size + 1, 1, none⟩) (by simp) (.int .i64 (V2 : Int)))
      by_cases h2 : 2 < (V2 : Int)
      · have d1 : decide (2 < (V2 : Int)) = true := by rw [decide_eq_true_iff]; exact h2
        have hR := hide (R2.out (.inl h2))
        go_wp2
        refine bodyPost_ret (v := .tuple #[.agg #[.int .i64 0, .int .i64 0, .bool false], .int .i64 2]) (by simp [results, Tryd.results72, go_sem, k0, k1, k2]) rfl ?_
        refine ⟨(zF, 2), rfl, hR.out, ?_⟩
        repeat first | exact hB.out | refine Below.setCell ?_ (by first | (simp; done) | (simp; omega)) _
      · have d1 : decide (2 < (V2 : Int)) = false := by rw [decide_eq_false_iff_not]; exact h2
        have hp2 := hide (show (V2 : Int) ≤ 2 by omega)
        clear h2
        go_wp2_with fail
        refine (T1.out _ (hp.below HBW.out)).mono ?_
        rintro e w5 ⟨rfl, hb5⟩
        have hr5 := hr4.out.below hb5 hr4.out.lt
        have ht5 := ht4.out.below hb5 ht4.out.lt
        have hB5 := hide (HBW.out.trans (hb5.mono HBW.out.size))
        clear hb5 k0 k1 k2 y0 y1 y2 t0 t1 t2
        have k0 : w5.cell? ⟨w.heap.size, 0, none⟩ = some (.int .i64 0) := hr5.cell 0
        have k1 : w5.cell? ⟨w.heap.size, 1, none⟩ = some (.int .i64 0) := hr5.cell 1
        have k2 : w5.cell? ⟨w.heap.size, 2, none⟩ = some (.bool false) := hr5.cell 2
        have y0 := hr5.frozen 0
        have y1 := hr5.frozen 1
        have y2 := hr5.frozen 2
        have t0 : w5.cell? ⟨w.heap.size + 1, 0, none⟩ = some (.int .i64 (V : Int)) := ht5.cell 0
        have t1 : w5.cell? ⟨w.heap.size + 1, 1, none⟩ = some (.int .i64 (V2 : Int)) := ht5.cell 1
        have t2 : w5.cell? ⟨w.heap.size + 1, 2, none⟩ = some (.bool One) := ht5.cell 2
        cases D
        · have hR := hide (R2.out (.inr rfl))
          go_wp2
          refine bodyPost_ret (v := .tuple #[.agg #[.int .i64 0, .int .i64 0, .bool false], .int .i64 2]) (by simp [results, Tryd.results72, go_sem, k0, k1, k2]) rfl ?_
          refine ⟨(zF, 2), rfl, hR.out, ?_⟩
          repeat first | exact hB5.out | refine Below.setCell ?_ (by first | (simp; done) | (simp; omega)) _
        · have hR := hide (R3.out hp2.out rfl)
          go_wp2
          refine bodyPost_ret (v := .tuple #[.agg #[.int .i64 (V : Int), .int .i64 (V2 : Int), .bool One], .int .i64 0]) (by simp [results, Tryd.results72, go_sem, k0, k1, k2]) rfl ?_
          refine ⟨(⟨(V : Int), (V2 : Int), One⟩, 0), rfl, hR.out, ?_⟩
          repeat first | exact hB5.out | refine Below.setCell ?_ (by first | (simp; done) | (simp; omega)) _
    · have hPz : P = 0 := by rw [← hP]; simp
      subst hPz
      have hr4 := hide (hr.out.far (p := ⟨w.heap.size + 1, 0, none⟩) (by simp) (.int .i64 (V : Int)))
      have ht4 := hide (ht.out.set_ 0 (.int .i64 (V : Int)))
      have HBW := hide (hB.out.setCell (p := ⟨w.heap.size + 1, 0, none⟩) (by simp) (.int .i64 (V : Int)))
      have h2 : ¬ (2 : Int) < 0 := by omega
      have hp2 := hide (show (0 : Int) ≤ 2 by omega)
      clear h2
      go_wp2_with fail
      refine (T1.out _ (hp.below HBW.out)).mono ?_
      rintro e w5 ⟨rfl, hb5⟩
      have hr5 := hr4.out.below hb5 hr4.out.lt
      have ht5 := ht4.out.below hb5 ht4.out.lt
      have hB5 := hide (HBW.out.trans (hb5.mono HBW.out.size))
      clear hb5 k0 k1 k2 y0 y1 y2 t0 t1 t2
      have k0 : w5.cell? ⟨w.heap.size, 0, none⟩ = some (.int .i64 0) := hr5.cell 0
      have k1 : w5.cell? ⟨w.heap.size, 1, none⟩ = some (.int .i64 0) := hr5.cell 1
      have k2 : w5.cell? ⟨w.heap.size, 2, none⟩ = some (.bool false) := hr5.cell 2
      have y0 := hr5.frozen 0
      have y1 := hr5.frozen 1
      have y2 := hr5.frozen 2
      have t0 : w5.cell? ⟨w.heap.size + 1, 0, none⟩ = some (.int .i64 (V : Int)) := ht5.cell 0
      have t1 : w5.cell? ⟨w.heap.size + 1, 1, none⟩ = some (.int .i64 (0 : Int)) := ht5.cell 1
      have t2 : w5.cell? ⟨w.heap.size + 1, 2, none⟩ = some (.bool One) := ht5.cell 2
      cases D
      · have hR := hide (R2.out (.inr rfl))
        go_wp2
        refine bodyPost_ret (v := .tuple #[.agg #[.int .i64 0, .int .i64 0, .bool false], .int .i64 2]) (by simp [results, Tryd.results72, go_sem, k0, k1, k2]) rfl ?_
        refine ⟨(zF, 2), rfl, hR.out, ?_⟩
        repeat first | exact hB5.out | refine Below.setCell ?_ (by first | (simp; done) | (simp; omega)) _
      · have hR := hide (R3.out hp2.out rfl)
        go_wp2
        refine bodyPost_ret (v := .tuple #[.agg #[.int .i64 (V : Int), .int .i64 (0 : Int), .bool One], .int .i64 0]) (by simp [results, Tryd.results72, go_sem, k0, k1, k2]) rfl ?_
        refine ⟨(⟨(V : Int), (0 : Int), One⟩, 0), rfl, hR.out, ?_⟩
        repeat first | exact hB5.out | refine Below.setCell ?_ (by first | (simp; done) | (simp; omega)) _
  · have d0 : ((e1 : Int) != 0) = true := by simp; omega
    have hR := hide (R1.out he)
    go_wp2
    refine bodyPost_ret (v := .tuple #[.agg #[.int .i64 0, .int .i64 0, .bool false], .int .i64 2]) (by simp [results, Tryd.results72, go_sem, k0, k1, k2]) rfl ?_
    refine ⟨(zF, 2), rfl, hR.out, ?_⟩
    repeat first | exact hB.out | refine Below.setCell ?_ (by first | (simp; done) | (simp; omega)) _

set_option maxRecDepth 4000 in
set_option maxHeartbeats 4000000 in
theorem ref_ReadF (s : ByteArray) (w : World) (hs : s.size ≤ 1000) : Calls Tryd.prog 73 #[.string s] w (FReadIs s w) := by
  obtain ⟨V, E1, e1, hn1⟩ : ∃ V E1 e1, natR s.data.toList = (V, E1, e1) := ⟨_, _, _, rfl⟩
  have hV : V < 1000000000 := by have := (natR_lt s.data.toList).1; rw [hn1] at this; exact this
  have hE : E1 ≤ 9 := by have := (natR_lt s.data.toList).2.1; rw [hn1] at this; exact this
  have he1 : e1 ≤ 5 := by have := (natR_lt s.data.toList).2.2; rw [hn1] at this; exact this
  have hEp := hide (show e1 = 0 → 0 < E1 from fun h => by
    have h0 : (natR s.data.toList).2.2 = 0 := by rw [hn1]; exact h
    have h1 : (natR s.data.toList).2.1 = E1 := by rw [hn1]
    unfold natR at h0 h1
    split at h0
    · cases h0
    split at h0
    · cases h0
    split at h0
    · cases h0
    · rename_i a b c
      rw [if_neg a, if_neg b, if_neg c] at h1
      simp only at h1
      have : dlen s.data.toList ≠ 0 := fun h => b (.inl h)
      omega)
  have N1 := hide (fun W => rnat_to hn1 (by omega) W)
  have HA := hide (show (∀ k, k < 6 → e1 = 0 → textF (tryF V k) ≠ s.data.toList) → ReadS s.data.toList (zF, 2) from fun h => try_all (by rw [hn1]; exact h))
  have HT := hide (fun k (hk : k < 6) (X : ByteArray) (hX : X = ⟨(textF (tryF V k)).toArray⟩) W => rtextF (f := tryF V k) hX ⟨by unfold tryF; simp only; omega, by unfold tryF; simp only; omega, by unfold tryF; simp only; omega, by unfold tryF; simp only; omega⟩ W)
  have hEI : (E1 : Int) ≤ 9 := by omega
  have hVh := hide hV
  clear hn1 hs hV hE
  have ba := (Below.refl w.heap.size w).alloc (Nat.le_refl _) (.cells #[.int .i64 0, .int .i64 0, .bool false] 54)
  have q0 := Blk.new w 54 #[.int .i64 0, .int .i64 0, .bool false]
  go_enter Tryd.func73, Tryd.ntmps73
  go_wp2_with fail
  refine (N1.out _).mono ?_
  rintro e w1 ⟨rfl, hb1⟩
  have hr := hide (q0.below hb1 q0.lt)
  have hB := hide (ba.trans (hb1.mono ba.size))
  clear hb1 q0 ba N1
  go_wp2
  go_loopw [7] (fun i wr => ∃ k : Nat, k ≤ 6 ∧ i = .int .i64 k ∧ Blk wr w.heap.size 54 #[.int .i64 0, .int .i64 0, .bool false] ∧ Below w.heap.size w wr ∧ Hid (∀ j, j < k → e1 = 0 → textF (tryF V j) ≠ s.data.toList)) (fun i _ => 6 - (intOf i).toNat)
  case atStart => exact ⟨0, Nat.zero_le _, rfl, hr.out, hB.out, hide fun j h => absurd h (Nat.not_lt_zero _)⟩
  case round =>
    clear hr hB
    obtain ⟨k, hk, rfl, hr, hb, hall⟩ := hrel
    have hkI : (k : Int) ≤ 6 := by omega
    have k0 : wr.cell? ⟨w.heap.size, 0, none⟩ = some (.int .i64 0) := hr.cell 0
    have k1 : wr.cell? ⟨w.heap.size, 1, none⟩ = some (.int .i64 0) := hr.cell 1
    have k2 : wr.cell? ⟨w.heap.size, 2, none⟩ = some (.bool false) := hr.cell 2
    have y0 := hr.frozen 0
    have y1 := hr.frozen 1
    have y2 := hr.frozen 2
    by_cases hlt : k < 6
    · by_cases he : e1 = 0
      · have hE0 : 0 < E1 := hEp.out he
        have d3 : decide (0 < (E1 : Int)) = true := by rw [decide_eq_true_iff]; omega
        have d0 : ((e1 : Int) == 0) = true := by simp [he]
        have he' := hide he
        clear he
        obtain ⟨P, hP⟩ : ∃ P : Int, (k : Int) / 2 = P := ⟨_, rfl⟩
        obtain ⟨O, hO⟩ : ∃ O : Bool, ((k : Int) % 2 == 1) = O := ⟨_, rfl⟩
        have hft := hide (show tryF V k = ⟨(V : Int), P, O⟩ by
          unfold tryF; rw [← hP, ← hO]
          congr 1
          rw [Bool.eq_iff_iff, decide_eq_true_iff, beq_iff_eq]; omega)
        obtain ⟨X, hX⟩ : ∃ X : ByteArray, X = ⟨(textF (tryF V k)).toArray⟩ := ⟨_, rfl⟩
        have hT := hide (HT.out k hlt X hX)
        rw [hft.out] at hT
        obtain ⟨D, hD⟩ : ∃ D, (X.toList == s.toList) = D := ⟨_, rfl⟩
        have hDn := hide (show D = false → ∀ j, j < k + 1 → e1 = 0 → textF (tryF V j) ≠ s.data.toList from fun h j hj h0 => by
          by_cases hjk : j = k
          · subst hjk
            rw [← hD, byte_eq, hX, ByteArray.toList_eq] at h
            simpa using h
          · exact hall.out j (by omega) he'.out)
        have hDy := hide (show D = true → ReadS s.data.toList (⟨(V : Int), P, O⟩, 0) from fun h => by
          rw [← hD, byte_eq, hX, ByteArray.toList_eq] at h
          have h2 : textF (tryF V k) = s.data.toList := by simpa using h
          have := text_back (try_ok hVh.out hlt)
          rw [h2, hft.out] at this
          exact this)
        have bb := (Below.refl wr.heap.size wr).alloc (Nat.le_refl _) (.cells #[.int .i64 (V : Int), .int .i64 P, .bool O] 54)
        have q2 := Blk.new wr 54 #[.int .i64 (V : Int), .int .i64 P, .bool O]
        clear hX hall
        go_wp2_with fail
        refine (hT.out _).mono ?_
        rintro e w5 ⟨rfl, hb5⟩
        have hbk := hide (bb.trans (hb5.mono bb.size))
        have ht5 := hide (q2.below hb5 q2.lt)
        have hr5 := hide (hr.below hbk.out hr.lt)
        have hB5 := hide (hb.trans (hbk.out.mono hb.size))
        clear hb5 bb q2 hbk k0 k1 k2 y0 y1 y2
        have k0 : w5.cell? ⟨w.heap.size, 0, none⟩ = some (.int .i64 0) := hr5.out.cell 0
        have k1 : w5.cell? ⟨w.heap.size, 1, none⟩ = some (.int .i64 0) := hr5.out.cell 1
        have k2 : w5.cell? ⟨w.heap.size, 2, none⟩ = some (.bool false) := hr5.out.cell 2
        have y0 := hr5.out.frozen 0
        have y1 := hr5.out.frozen 1
        have y2 := hr5.out.frozen 2
        have t0 : w5.cell? ⟨wr.heap.size, 0, none⟩ = some (.int .i64 (V : Int)) := ht5.out.cell 0
        have t1 : w5.cell? ⟨wr.heap.size, 1, none⟩ = some (.int .i64 P) := ht5.out.cell 1
        have t2 : w5.cell? ⟨wr.heap.size, 2, none⟩ = some (.bool O) := ht5.out.cell 2
        cases D
        · have hn := hide (hDn.out rfl)
          go_wp2
          go_roundw
          case rel => exact ⟨k + 1, by omega, by go_num, hr5.out, hB5.out, hn⟩
          case measure => simp [intOf]; omega
        · have hR := hide (hDy.out rfl)
          go_wp2
          refine bodyPost_ret (v := .tuple #[.agg #[.int .i64 (V : Int), .int .i64 P, .bool O], .int .i64 0]) (by simp [results, Tryd.results73, go_sem, k0, k1, k2]) rfl ?_
          refine ⟨(⟨(V : Int), P, O⟩, 0), rfl, hR.out, ?_⟩
          repeat first | exact hB5.out | refine Below.setCell ?_ (by first | (simp; done) | (simp; omega)) _
      · have d0 : ((e1 : Int) == 0) = false := by simp; omega
        have hR := hide (HA.out fun _ _ h => absurd h he)
        go_wp2
        refine bodyPost_ret (v := .tuple #[.agg #[.int .i64 0, .int .i64 0, .bool false], .int .i64 2]) (by simp [results, Tryd.results73, go_sem, k0, k1, k2]) rfl ?_
        refine ⟨(zF, 2), rfl, hR.out, ?_⟩
        repeat first | exact hb | refine Below.setCell ?_ (by first | (simp; done) | (simp; omega)) _
    · have hk6 : k = 6 := by omega
      subst hk6
      have hR := hide (HA.out fun j hj h => hall.out j hj h)
      go_wp2
      refine bodyPost_ret (v := .tuple #[.agg #[.int .i64 0, .int .i64 0, .bool false], .int .i64 2]) (by simp [results, Tryd.results73, go_sem, k0, k1, k2]) rfl ?_
      refine ⟨(zF, 2), rfl, hR.out, ?_⟩
      repeat first | exact hb | refine Below.setCell ?_ (by first | (simp; done) | (simp; omega)) _
end Go.Proofs.YtcjoohaagdihlaaDoor.Fault
