/- The law of CubeTells: the plain laws, and the walk. -/
import Derived.Test.YtcjoohaagdihlaaDoorJoin1
import Derived.Test.YtcjoohaagdihlaaDoorCube2
import Derived.Test.YtcjoohaagdihlaaDoorCubeText5
namespace Go.Proofs.YtcjoohaagdihlaaDoor.CubeTell
open Go.RowKit Go.Lt Go.Proofs.YtcjoohaagdihlaaDoor.Lit Go.Proofs.YtcjoohaagdihlaaDoor.CubeHas Go.Proofs.YtcjoohaagdihlaaDoor.Sorted Go.Proofs.YtcjoohaagdihlaaDoor.Cube Go.Proofs.YtcjoohaagdihlaaDoor.CubeText
set_option linter.unusedVariables false
set_option linter.unusedSimpArgs false

theorem cov_has {a b : List Int} {s : List Bool} (h1 : covB a b = true) (h2 : hasS b s = true) : hasS a s = true := by
  unfold covB at h1
  unfold hasS at h2 ⊢
  rw [List.all_eq_true] at *
  intro x hx
  exact h2 x (has_iff.1 (h1 x hx))
theorem norm_has {a b : List Int} {s : List Bool} (h : normB (a ++ b) = true) : hasS (normL (a ++ b)) s = (hasS a s && hasS b s) := by
  unfold normL
  rw [if_pos h]
  unfold hasS
  rw [Bool.eq_iff_iff, Bool.and_eq_true, List.all_eq_true, List.all_eq_true, List.all_eq_true]
  constructor
  · intro h
    exact ⟨fun x hx => h x (srt_mem.2 (List.mem_append.2 (.inl hx))), fun x hx => h x (srt_mem.2 (List.mem_append.2 (.inr hx)))⟩
  · rintro ⟨h1, h2⟩ x hx
    rcases List.mem_append.1 (srt_mem.1 hx) with h | h
    · exact h1 x h
    · exact h2 x h
theorem wfs_norm {a b : List Int} (ha : Wfs a) (hb : Wfs b) : Wfs (normL (a ++ b)) := by
  intro x hx
  unfold normL at hx
  split at hx
  · rcases List.mem_append.1 (srt_mem.1 hx) with h | h
    · exact ha x h
    · exact hb x h
  · cases hx
theorem ints_same (A B : Option Addr) (n m c d : Nat) (a : List Int) (w : World) (hn : n ≤ 1000000) (hra : Rd w A n (ivs a)) (hrb : Rd w B m (ivs a)) :
    Calls Tryd.prog 26 #[.slice A n c, .slice B m d] w fun e w' => e = .returned (.bool true) ∧ Dr w w' :=
  (ref_Ints A B n m c d a a w hn hra hrb).mono fun e w' ⟨he, hd⟩ => ⟨he.trans (by unfold sameI; simp), hd⟩
theorem hasS_is {A B : Option Addr} {n m cc cd : Nat} {c : List Int} {s : List Bool} {b : Bool} (h : hasS c s = b) (w : World) (hn : n ≤ 1000000) (hm : m ≤ 1000000) (hrc : Rd w A n (ivs c)) (hrs : Rd w B m (bvs s)) (hw : Wfs c) :
    Calls Tryd.prog 53 #[.slice A n cc, .slice B m cd] w fun e w' => e = .returned (.bool b) ∧ w = w' := by
  subst h; exact cube_Has A B n m cc cd c s w hn hm hrc hrs hw
theorem cov_is {A B : Option Addr} {n m ca cb : Nat} {a b : List Int} {d : Bool} (h : covB a b = d) (w : World) (hn : n ≤ 1000000) (hm : m ≤ 1000000) (hra : Rd w A n (ivs a)) (hrb : Rd w B m (ivs b)) :
    Calls Tryd.prog 54 #[.slice A n ca, .slice B m cb] w fun e w' => e = .returned (.bool d) ∧ w = w' := by
  subst h; exact cube_Covers A B n m ca cb a b w hn hm hra hrb

theorem tells_far (A B C : Option Addr) (n m k ca cb cs : Nat) (w : World) (hs : Signs w) (h : 60 < n ∨ 60 < m ∨ 60 < k) :
    Calls Tryd.prog 9 #[.slice A n ca, .slice B m cb, .slice C k cs] w fun e w' => e = .returned (.bool true) ∧ Below w.heap.size w w' := by
  by_cases h1 : 60 < n
  · clear h
    go_enter Tryd.func9, Tryd.ntmps9
    go_wp2_with (go_at_call 15; refine (lives _ hs).mono ?_; rintro e w1 ⟨rfl, hb1⟩)
    go_ret
    exact ⟨rfl, hb1⟩
  by_cases h2 : 60 < m
  · clear h
    go_enter Tryd.func9, Tryd.ntmps9
    go_wp2_with (go_at_call 15; refine (lives _ hs).mono ?_; rintro e w1 ⟨rfl, hb1⟩)
    go_ret
    exact ⟨rfl, hb1⟩
  · have h3 : 60 < k := by omega
    clear h
    go_enter Tryd.func9, Tryd.ntmps9
    go_wp2_with (go_at_call 15; refine (lives _ hs).mono ?_; rintro e w1 ⟨rfl, hb1⟩)
    go_ret
    exact ⟨rfl, hb1⟩

set_option maxHeartbeats 4000000 in
theorem tells (A B C : Option Addr) (n m k ca cb cs : Nat) (a b : List Int) (s : List Bool) (w : World) (hs : Signs w) (hra : Rd w A n (ivs a)) (hrb : Rd w B m (ivs b)) (hrs : Rd w C k (bvs s)) (hwa : Wfs a) (hwb : Wfs b)
    (hn : n ≤ 60) (hm : m ≤ 60) (hk : k ≤ 60) :
    Calls Tryd.prog 9 #[.slice A n ca, .slice B m cb, .slice C k cs] w fun e w' => e = .returned (.bool true) ∧ Below w.heap.size w w' := by
  have HL := hide hra.len
  have HM := hide hrb.len
  go_enter Tryd.func9, Tryd.ntmps9
  go_wp2_with (at_builtin; refine wpList_fresh rfl _ _ rfl (by rfl) (by rfl) hra (by omega) ?_; intro v1 w1 hown1 hb1)
  obtain ⟨A1, c1, rfl, _, _, hr1⟩ := Rd.of_own hown1
  clear hown1
  refine (normU _ _ _ a _ (by omega) hr1).mono ?_
  rintro e w2 ⟨A2, n2, c2, rfl, hn2, hr2, hb2⟩
  have hb := hb1.trans (hb2.mono hb1.size)
  clear hb1 hb2 hr1
  go_wp2_with fail
  refine (rnormU _ _ _ a _ (by omega) (hra.below hb (Nat.le_refl _))).mono ?_
  rintro e w3 ⟨A3, n3, c3, rfl, hn3, hr3, hb3⟩
  have hr2 := hr2.below hb3 (Nat.le_refl _)
  have hb := hb.trans (hb3.mono hb.size)
  clear hb3
  have hra3 := hra.below hb (Nat.le_refl _)
  have hrb3 := hrb.below hb (Nat.le_refl _)
  go_wp2_with (at_builtin; first | (refine wpList_fresh rfl _ _ rfl (by rfl) (by rfl) (hrb3.below hb5 (Nat.le_refl _)) (by omega) ?_; intro v6 w6 hown6 hb6) | (refine wpList_fresh rfl _ _ rfl (by rfl) (by rfl) hra3 (by omega) ?_; intro v5 w5 hown5 hb5))
  obtain ⟨A5, c5, rfl, _, _, hr5⟩ := Rd.of_own hown5
  obtain ⟨A6, c6, rfl, _, _, hr6⟩ := Rd.of_own hown6
  have hr5 := hr5.below hb6 (Nat.le_refl _)
  clear hown5 hown6 hra3 hrb3
  refine (cube_Join _ _ _ _ _ _ a b _ (by omega) (by omega) hr5 hr6).mono ?_
  rintro e w7 ⟨A7, n7, c7, rfl, hn7, hr7, hb7⟩
  have hbx := hb5.trans ((hb6.trans (hb7.mono hb6.size)).mono hb5.size)
  have hr2 := hr2.below hbx (Nat.le_refl _)
  have hr3 := hr3.below hbx (Nat.le_refl _)
  have hb := hb.trans (hbx.mono hb.size)
  clear hb5 hb6 hb7 hr5 hr6 hbx
  have hra7 := hra.below hb (Nat.le_refl _)
  have hrb7 := hrb.below hb (Nat.le_refl _)
  go_wp2_with (at_builtin; first | (refine wpList_more rfl _ _ rfl (by rfl) (by rfl) hown8 hb8 hb8.size (hrb7.below hb8 (Nat.le_refl _)) (by omega) ?_; intro v9 w9 hown9 hb9) | (refine wpList_fresh rfl _ _ rfl (by rfl) (by rfl) hra7 (by omega) ?_; intro v8 w8 hown8 hb8))
  obtain ⟨A9, c9, rfl, _, _, hr9⟩ := Rd.of_own hown9
  clear hown8 hown9 hb8 hra7 hrb7
  refine (rnormU _ _ _ (a ++ b) _ (by omega) hr9).mono ?_
  rintro e w10 ⟨A10, n10, c10, rfl, hn10, hr10, hb10⟩
  have hbx := hb9.trans (hb10.mono hb9.size)
  have hr2 := hr2.below hbx (Nat.le_refl _)
  have hr3 := hr3.below hbx (Nat.le_refl _)
  have hr7 := hr7.below hbx (Nat.le_refl _)
  have hb := hb.trans (hbx.mono hb.size)
  clear hb9 hb10 hr9 hbx
  have hnn7 : n7 ≤ 120 := by have := HL.out; have := HM.out; rw [List.length_append] at hn7; omega
  have hnn2 : n2 ≤ 120 := by have := HL.out; omega
  clear hn7 hn10 hn2 hn3
  obtain ⟨na, hna⟩ : ∃ na, normB a = na := ⟨_, rfl⟩
  obtain ⟨nj, hnj⟩ : ∃ nj, normB (a ++ b) = nj := ⟨_, rfl⟩
  rw [hna, hnj]
  have hnj := hide hnj
  clear hna
  go_wp2_with fail
  refine (ints_same _ _ _ _ _ _ (normL a) _ (by omega) hr2 hr3).mono ?_
  rintro e w11 ⟨rfl, hd11⟩
  have hbx := hd11.below w10.heap.size
  have hr7 := hr7.below hbx (Nat.le_refl _)
  have hr10 := hr10.below hbx (Nat.le_refl _)
  have hb := hb.trans (hbx.mono hb.size)
  clear hbx hd11 hr2 hr3
  go_wp2_with fail
  refine (ints_same _ _ _ _ _ _ (normL (a ++ b)) _ (by omega) hr7 hr10).mono ?_
  rintro e w12 ⟨rfl, hd12⟩
  have hbx := hd12.below w11.heap.size
  have hr7 := hr7.below hbx (Nat.le_refl _)
  have hb := hb.trans (hbx.mono hb.size)
  clear hbx hd12 hr10
  have hra12 := hra.below hb (Nat.le_refl _)
  have hrb12 := hrb.below hb (Nat.le_refl _)
  have hrs12 := hrs.below hb (Nat.le_refl _)
  obtain ⟨xa, hxa⟩ : ∃ xa, hasS a s = xa := ⟨_, rfl⟩
  have hxa := hide hxa
  obtain ⟨xc, hxc⟩ : ∃ xc, covB a b = xc := ⟨_, rfl⟩
  have hxc := hide hxc
  go_wp2_with fail
  refine (hasS_is hxa.out _ (by omega) (by omega) hra12 hrs12 hwa).mono ?_
  rintro e w13 ⟨rfl, rfl⟩
  go_wp2_with fail
  refine (ref_HasS _ _ _ _ _ _ a s _ (by omega) (by omega) hra12 hrs12 hwa).mono ?_
  rintro e w13 ⟨rfl, hd13⟩
  rw [hxa.out]
  have hbx := hd13.below w12.heap.size
  have hr7 := hr7.below hbx (Nat.le_refl _)
  have hb := hb.trans (hbx.mono hb.size)
  clear hbx hd13
  have hra13 := hra.below hb (Nat.le_refl _)
  have hrb13 := hrb.below hb (Nat.le_refl _)
  have hrs13 := hrs.below hb (Nat.le_refl _)
  clear hra12 hrb12 hrs12
  go_wp2_with fail
  refine (cov_is hxc.out _ (by omega) (by omega) hra13 hrb13).mono ?_
  rintro e w14 ⟨rfl, rfl⟩
  go_wp2_with fail
  refine (ref_Covers _ _ _ _ _ _ a b _ (by omega) (by omega) hra13 hrb13).mono ?_
  rintro e w14 ⟨rfl, rfl⟩
  rw [hxc.out]
  go_wp2_with fail
  refine (cube_Of _ _ _ s _ (by omega) hrs13).mono ?_
  rintro e w14 ⟨A14, rfl, hr14, hb14⟩
  have hr7 := hr7.below hb14 (Nat.le_refl _)
  have hb := hb.trans (hb14.mono hb.size)
  clear hb14 hra13 hrb13 hrs13
  go_wp2_with fail
  refine (ref_Of _ _ _ s _ (by omega) (hrs.below hb (Nat.le_refl _))).mono ?_
  rintro e w15 ⟨A15, c15, rfl, hr15, hb15⟩
  have hr7 := hr7.below hb15 (Nat.le_refl _)
  have hr14 := hr14.below hb15 (Nat.le_refl _)
  have hb := hb.trans (hb15.mono hb.size)
  clear hb15
  go_wp2_with fail
  refine (ints_same _ _ _ _ _ _ (ofN s k) _ (by omega) hr14 hr15).mono ?_
  rintro e w16 ⟨rfl, hd16⟩
  have hbx := hd16.below w15.heap.size
  have hr7 := hr7.below hbx (Nat.le_refl _)
  have hb := hb.trans (hbx.mono hb.size)
  clear hbx hd16 hr14 hr15
  have hra16 := hra.below hb (Nat.le_refl _)
  have hrb16 := hrb.below hb (Nat.le_refl _)
  have hrs16 := hrs.below hb (Nat.le_refl _)
  have hsg := hs.below hb
  have hb := hide hb
  have hwu := wfs_norm hwa hwb
  obtain ⟨xb, hxb⟩ : ∃ xb, hasS b s = xb := ⟨_, rfl⟩
  obtain ⟨xu, hxu⟩ : ∃ xu, hasS (normL (a ++ b)) s = xu := ⟨_, rfl⟩
  have hU := hide (show nj = true → xu = (xa && xb) from fun h => by rw [← hxa.out, ← hxb, ← hxu]; exact norm_has (hnj.out.trans h))
  have hK := hide (show xc = true → xb = true → xa = true from fun h1 h2 => hxa.out.symm.trans (cov_has (hxc.out.trans h1) (hxb.trans h2)))
  have HA := hide (hasS_is (cc := ca) (cd := cs) hxa.out w16 (by omega) (by omega) hra16 hrs16 hwa)
  have HB := hide (hasS_is (cc := cb) (cd := cs) hxb w16 (by omega) (by omega) hrb16 hrs16 hwb)
  have HC := hide (cov_is (ca := ca) (cb := cb) hxc.out w16 (by omega) (by omega) hra16 hrb16)
  have HU := hide (hasS_is (cc := c7) (cd := cs) hxu w16 (by omega) (by omega) hr7 hrs16 hwu)
  clear hxa hxb hxc hxu hnj hra16 hrb16 hrs16 hr7 hwu hwa hwb hra hrb hrs hn hm hk hnn2 hnn7 HL HM hs
  cases nj
  · clear HU hU
    cases xc <;> cases xb <;> cases xa <;> first | exact Bool.noConfusion (show false = true from hK.out rfl rfl) | skip
    all_goals
      clear hK
      go_wp2_with (first | (go_at_call 54; (with_reducible refine HC.out.mono ?_); rintro e w17 ⟨rfl, rfl⟩) | (go_at_call 53; first | ((with_reducible refine HA.out.mono ?_); rintro e w17 ⟨rfl, rfl⟩) | ((with_reducible refine HB.out.mono ?_); rintro e w17 ⟨rfl, rfl⟩)) | (go_at_call 15; refine (lives _ hsg).mono ?_; rintro e w18 ⟨rfl, hb18⟩))
      go_ret
      exact ⟨rfl, hb.out.trans (hb18.mono hb.out.size)⟩
  · cases xc <;> cases xb <;> cases xa <;> cases xu <;> first | exact Bool.noConfusion (show false = true from hK.out rfl rfl) | exact Bool.noConfusion (show true = false from hU.out rfl) | exact Bool.noConfusion (show false = true from hU.out rfl) | skip
    all_goals
      clear hK hU
      go_wp2_with (first | (go_at_call 54; (with_reducible refine HC.out.mono ?_); rintro e w17 ⟨rfl, rfl⟩) | (go_at_call 53; first | ((with_reducible refine HA.out.mono ?_); rintro e w17 ⟨rfl, rfl⟩) | ((with_reducible refine HB.out.mono ?_); rintro e w17 ⟨rfl, rfl⟩) | ((with_reducible refine HU.out.mono ?_); rintro e w17 ⟨rfl, rfl⟩)) | (go_at_call 15; refine (lives _ hsg).mono ?_; rintro e w18 ⟨rfl, hb18⟩))
      go_ret
      exact ⟨rfl, hb.out.trans (hb18.mono hb.out.size)⟩
end Go.Proofs.YtcjoohaagdihlaaDoor.CubeTell
