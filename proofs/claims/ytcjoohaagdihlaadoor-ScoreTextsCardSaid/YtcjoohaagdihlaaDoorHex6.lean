/- The law on scores' texts. -/
import Derived.Test.YtcjoohaagdihlaaDoorHex5
namespace Go.Proofs.YtcjoohaagdihlaaDoor.Hex
open Go.RowKit Go.Lt Go.Proofs.YtcjoohaagdihlaaDoor.Score Go.Proofs.YtcjoohaagdihlaaDoor.CubeText
set_option linter.unusedVariables false
set_option linter.unusedSimpArgs false

theorem byt_nb (s : ByteArray) : (⟨(byt (nb s)).toArray⟩ : ByteArray) = s := by
  obtain ⟨d⟩ := s
  congr 1
  apply Array.ext'
  unfold byt nb
  rw [List.toList_toArray, List.map_map]
  have : (UInt8.ofNat ∘ UInt8.toNat) = id := funext fun x => by simp
  rw [this, List.map_id]
theorem nb_byt (l : List Nat) (h : ∀ d ∈ l, d < 256) : nb ⟨(byt l).toArray⟩ = l := by
  unfold byt nb
  show ((l.map UInt8.ofNat).toArray.toList).map UInt8.toNat = l
  rw [List.toList_toArray, List.map_map]
  have e : l.map (UInt8.toNat ∘ UInt8.ofNat) = l.map id := List.map_congr_left fun d hd => UInt8.toNat_ofNat_of_lt' (h d hd)
  rw [e, List.map_id]
theorem rd_none {s : ByteArray} {w : World} (hs : s.size ≤ 1000) (h : readX (nb s) = none) : Calls Tryd.prog 43 #[.string s] w fun e w' => e = .returned (.tuple #[.float .f64 0, .int .i64 2]) ∧ w = w' :=
  (score_Read s w hs).mono fun e w' ⟨h1, h2⟩ => ⟨by unfold ReadIs at h1; rw [h] at h1; exact h1, h2⟩
theorem rd_some {s : ByteArray} {v : Nat} {w : World} (hs : s.size ≤ 1000) (h : readX (nb s) = some v) : Calls Tryd.prog 43 #[.string s] w fun e w' => e = .returned (.tuple #[.float .f64 v, .int .i64 0]) ∧ w = w' :=
  (score_Read s w hs).mono fun e w' ⟨h1, h2⟩ => ⟨by unfold ReadIs at h1; rw [h] at h1; exact h1, h2⟩
theorem rf_none {s : ByteArray} {w : World} (hs : s.size ≤ 1000) (h : readX (nb s) = none) : Calls Tryd.prog 44 #[.string s] w fun e w' => e = .returned (.tuple #[.int .u64 0, .int .i64 2]) ∧ Dr w w' :=
  (ref_Read s w hs).mono fun e w' ⟨h1, h2⟩ => ⟨by rw [h] at h1; exact h1, h2⟩
theorem rf_some {s : ByteArray} {v : Nat} {w : World} (hs : s.size ≤ 1000) (h : readX (nb s) = some v) : Calls Tryd.prog 44 #[.string s] w fun e w' => e = .returned (.tuple #[.int .u64 v, .int .i64 0]) ∧ Dr w w' :=
  (ref_Read s w hs).mono fun e w' ⟨h1, h2⟩ => ⟨by rw [h] at h1; exact h1, h2⟩
theorem textX_len (b : Nat) : (textX b).length = 16 := hexL_len 16 _
theorem text_string (b : Nat) : ∃ T : ByteArray, str (byt (textX b)) = .string T ∧ T.size ≤ 1000 ∧ (b < 18446744073709551616 → readX (nb T) = some (plainB b)) :=
  ⟨⟨(byt (textX b)).toArray⟩, rfl, by show (byt (textX b)).toArray.size ≤ 1000; simp [byt, textX_len], fun h => by rw [nb_byt (textX b) (hexL_lt 16 _)]; exact read_text h⟩
theorem text_back {s : ByteArray} {v : Nat} (h : readX (nb s) = some v) : str (byt (textX v)) = .string s := by
  rw [(text_read h).1]
  show Value.string ⟨(byt (nb s)).toArray⟩ = .string s
  rw [byt_nb]
set_option maxRecDepth 8000 in
set_option maxHeartbeats 2000000 in
theorem texts_short (b : Nat) (s : ByteArray) (w : World) (hb : b < 18446744073709551616) (htz : Tz w) (hs : s.size ≤ 100) (hm : s.size ≤ 9223372036854775807) :
    Calls Tryd.prog 8 #[.int .u64 b, .string s] w fun e w' => e = .returned (.bool true) ∧ Below w.heap.size w w' := by
  have htz := hide htz
  obtain ⟨T, hT, hTs, hTr⟩ := text_string b
  have HT := hide (fun W (h : Tz W) => score_Text b hb W h)
  have HF := hide (fun W => ref_Text b hb W)
  rw [hT] at HT HF
  have hTr := hide (hTr hb)
  have hTs := hide hTs
  obtain ⟨p, hp⟩ : ∃ p, plainB b = p := ⟨_, rfl⟩
  have hpp := hide (show plainB p = plainB b by rw [← hp]; exact plainB_idem b)
  rw [hp] at hTr
  clear hT hb hp
  have hI : ¬ (100 : Int) < s.size := by omega
  have hsz : s.size ≤ 1000 := by omega
  cases hR : readX (nb s) with
  | none =>
    have hR := hide hR
    have hsz := hide hsz
    go_enter Tryd.func8, Tryd.ntmps8
    go_wp2_with fail
    refine (rd_none (w := w) hsz.out hR.out).mono ?_
    rintro e w1 ⟨rfl, rfl⟩
    go_wp2_with fail
    refine (rf_none (w := w) hsz.out hR.out).mono ?_
    rintro e w2 ⟨rfl, hd2⟩
    have hb2 := hide (hd2.below w.heap.size)
    clear hd2
    go_wp2_with fail
    refine (Is23 0 0 w2 (hide rfl)).mono ?_
    rintro e w3 ⟨rfl, rfl⟩
    go_wp2_with fail
    refine (Of13 b _).mono ?_
    rintro e w3 ⟨rfl, rfl⟩
    go_wp2_with fail
    refine (HT.out w2 (htz.out.below hb2.out)).mono ?_
    rintro e w3 ⟨rfl, hb3⟩
    have hb3 := hide (hb2.out.trans (hb3.mono hb2.out.size))
    go_wp2_with fail
    refine (HF.out w3).mono ?_
    rintro e w4 ⟨rfl, rfl⟩
    go_wp2_with fail
    refine (Of13 b _).mono ?_
    rintro e w4 ⟨rfl, rfl⟩
    go_wp2_with fail
    refine (HT.out w3 (htz.out.below hb3.out)).mono ?_
    rintro e w4 ⟨rfl, hb4⟩
    have hb4 := hide (hb3.out.trans (hb4.mono hb3.out.size))
    go_wp2_with fail
    refine (rd_some (w := w4) hTs.out hTr.out).mono ?_
    rintro e w5 ⟨rfl, rfl⟩
    go_wp2_with fail
    refine (Is23 p b w4 (hide hpp.out)).mono ?_
    rintro e w5 ⟨rfl, rfl⟩
    go_wp2_with fail
    refine (lives20 w4).mono ?_
    rintro e w6 ⟨rfl, hd6⟩
    have hb6 := hide (hb4.out.trans (hd6.below w.heap.size))
    go_wp2
    go_ret
    exact ⟨rfl, hb6.out⟩
  | some v =>
    have HV := hide (fun W (h : Tz W) => score_Text v (text_read hR).2.1 W h)
    rw [text_back hR] at HV
    have hR := hide hR
    have hsz := hide hsz
    go_enter Tryd.func8, Tryd.ntmps8
    go_wp2_with fail
    refine (rd_some (w := w) hsz.out hR.out).mono ?_
    rintro e w1 ⟨rfl, rfl⟩
    go_wp2_with fail
    refine (rf_some (w := w) hsz.out hR.out).mono ?_
    rintro e w2 ⟨rfl, hd2⟩
    have hb2 := hide (hd2.below w.heap.size)
    clear hd2
    go_wp2_with fail
    refine (Is23 v v w2 (hide rfl)).mono ?_
    rintro e w3 ⟨rfl, rfl⟩
    go_wp2_with fail
    refine (Of13 b _).mono ?_
    rintro e w3 ⟨rfl, rfl⟩
    go_wp2_with fail
    refine (HT.out w2 (htz.out.below hb2.out)).mono ?_
    rintro e w3 ⟨rfl, hb3⟩
    have hb3 := hide (hb2.out.trans (hb3.mono hb2.out.size))
    go_wp2_with fail
    refine (HF.out w3).mono ?_
    rintro e w4 ⟨rfl, rfl⟩
    go_wp2_with fail
    refine (Of13 b _).mono ?_
    rintro e w4 ⟨rfl, rfl⟩
    go_wp2_with fail
    refine (HT.out w3 (htz.out.below hb3.out)).mono ?_
    rintro e w4 ⟨rfl, hb4⟩
    have hb4 := hide (hb3.out.trans (hb4.mono hb3.out.size))
    go_wp2_with fail
    refine (rd_some (w := w4) hTs.out hTr.out).mono ?_
    rintro e w5 ⟨rfl, rfl⟩
    go_wp2_with fail
    refine (Is23 p b w4 (hide hpp.out)).mono ?_
    rintro e w5 ⟨rfl, rfl⟩
    go_wp2_with fail
    refine (HV.out w4 (htz.out.below hb4.out)).mono ?_
    rintro e w5 ⟨rfl, hb5⟩
    have hb5 := hide (hb4.out.trans (hb5.mono hb4.out.size))
    go_wp2_with fail
    refine (lives20 w5).mono ?_
    rintro e w6 ⟨rfl, hd6⟩
    have hb6 := hide (hb5.out.trans (hd6.below w.heap.size))
    go_wp2
    go_ret
    exact ⟨rfl, hb6.out⟩
set_option maxRecDepth 8000 in
set_option maxHeartbeats 2000000 in
theorem texts_long (b : Nat) (s : ByteArray) (w : World) (hb : b < 18446744073709551616) (htz : Tz w) (hs : 100 < s.size) (hm : s.size ≤ 9223372036854775807) :
    Calls Tryd.prog 8 #[.int .u64 b, .string s] w fun e w' => e = .returned (.bool true) ∧ Below w.heap.size w w' := by
  have htz := hide htz
  obtain ⟨T, hT, hTs, hTr⟩ := text_string b
  have HT := hide (fun W (h : Tz W) => score_Text b hb W h)
  have HF := hide (fun W => ref_Text b hb W)
  rw [hT] at HT HF
  have hTr := hide (hTr hb)
  have hTs := hide hTs
  obtain ⟨p, hp⟩ : ∃ p, plainB b = p := ⟨_, rfl⟩
  have hpp := hide (show plainB p = plainB b by rw [← hp]; exact plainB_idem b)
  rw [hp] at hTr
  clear hT hb hp
  have hI : (100 : Int) < s.size := by omega
  obtain ⟨S, hS⟩ : ∃ S, s.extract 0 100 = S := ⟨_, rfl⟩
  have hsz : S.size ≤ 1000 := by rw [← hS, ByteArray.size_extract]; omega
  cases hR : readX (nb S) with
  | none =>
    have hR := hide hR
    have hsz := hide hsz
    go_enter Tryd.func8, Tryd.ntmps8
    go_wp2_with fail
    refine (rd_none (w := w) hsz.out hR.out).mono ?_
    rintro e w1 ⟨rfl, rfl⟩
    go_wp2_with fail
    refine (rf_none (w := w) hsz.out hR.out).mono ?_
    rintro e w2 ⟨rfl, hd2⟩
    have hb2 := hide (hd2.below w.heap.size)
    clear hd2
    go_wp2_with fail
    refine (Is23 0 0 w2 (hide rfl)).mono ?_
    rintro e w3 ⟨rfl, rfl⟩
    go_wp2_with fail
    refine (Of13 b _).mono ?_
    rintro e w3 ⟨rfl, rfl⟩
    go_wp2_with fail
    refine (HT.out w2 (htz.out.below hb2.out)).mono ?_
    rintro e w3 ⟨rfl, hb3⟩
    have hb3 := hide (hb2.out.trans (hb3.mono hb2.out.size))
    go_wp2_with fail
    refine (HF.out w3).mono ?_
    rintro e w4 ⟨rfl, rfl⟩
    go_wp2_with fail
    refine (Of13 b _).mono ?_
    rintro e w4 ⟨rfl, rfl⟩
    go_wp2_with fail
    refine (HT.out w3 (htz.out.below hb3.out)).mono ?_
    rintro e w4 ⟨rfl, hb4⟩
    have hb4 := hide (hb3.out.trans (hb4.mono hb3.out.size))
    go_wp2_with fail
    refine (rd_some (w := w4) hTs.out hTr.out).mono ?_
    rintro e w5 ⟨rfl, rfl⟩
    go_wp2_with fail
    refine (Is23 p b w4 (hide hpp.out)).mono ?_
    rintro e w5 ⟨rfl, rfl⟩
    go_wp2_with fail
    refine (lives20 w4).mono ?_
    rintro e w6 ⟨rfl, hd6⟩
    have hb6 := hide (hb4.out.trans (hd6.below w.heap.size))
    go_wp2
    go_ret
    exact ⟨rfl, hb6.out⟩
  | some v =>
    have HV := hide (fun W (h : Tz W) => score_Text v (text_read hR).2.1 W h)
    rw [text_back hR] at HV
    have hR := hide hR
    have hsz := hide hsz
    go_enter Tryd.func8, Tryd.ntmps8
    go_wp2_with fail
    refine (rd_some (w := w) hsz.out hR.out).mono ?_
    rintro e w1 ⟨rfl, rfl⟩
    go_wp2_with fail
    refine (rf_some (w := w) hsz.out hR.out).mono ?_
    rintro e w2 ⟨rfl, hd2⟩
    have hb2 := hide (hd2.below w.heap.size)
    clear hd2
    go_wp2_with fail
    refine (Is23 v v w2 (hide rfl)).mono ?_
    rintro e w3 ⟨rfl, rfl⟩
    go_wp2_with fail
    refine (Of13 b _).mono ?_
    rintro e w3 ⟨rfl, rfl⟩
    go_wp2_with fail
    refine (HT.out w2 (htz.out.below hb2.out)).mono ?_
    rintro e w3 ⟨rfl, hb3⟩
    have hb3 := hide (hb2.out.trans (hb3.mono hb2.out.size))
    go_wp2_with fail
    refine (HF.out w3).mono ?_
    rintro e w4 ⟨rfl, rfl⟩
    go_wp2_with fail
    refine (Of13 b _).mono ?_
    rintro e w4 ⟨rfl, rfl⟩
    go_wp2_with fail
    refine (HT.out w3 (htz.out.below hb3.out)).mono ?_
    rintro e w4 ⟨rfl, hb4⟩
    have hb4 := hide (hb3.out.trans (hb4.mono hb3.out.size))
    go_wp2_with fail
    refine (rd_some (w := w4) hTs.out hTr.out).mono ?_
    rintro e w5 ⟨rfl, rfl⟩
    go_wp2_with fail
    refine (Is23 p b w4 (hide hpp.out)).mono ?_
    rintro e w5 ⟨rfl, rfl⟩
    go_wp2_with fail
    refine (HV.out w4 (htz.out.below hb4.out)).mono ?_
    rintro e w5 ⟨rfl, hb5⟩
    have hb5 := hide (hb4.out.trans (hb5.mono hb4.out.size))
    go_wp2_with fail
    refine (lives20 w5).mono ?_
    rintro e w6 ⟨rfl, hd6⟩
    have hb6 := hide (hb5.out.trans (hd6.below w.heap.size))
    go_wp2
    go_ret
    exact ⟨rfl, hb6.out⟩
end Go.Proofs.YtcjoohaagdihlaaDoor.Hex
