/- What the law on the texts of faults leans on. -/
import Derived.Test.YtcjoohaagdihlaaDoorFaultTxt2
import Derived.Test.YtcjoohaagdihlaaDoorFaultLives
import Derived.Test.YtcjoohaagdihlaaDoorFaultSame1
import Derived.Deep.RegionHeld3
import Derived.Deep.RegionHeld
import Derived.Deep.RegionWith
namespace Go.Proofs.YtcjoohaagdihlaaDoor.Fault
open Go.RowKit Go.Lt Go.Proofs.YtcjoohaagdihlaaDoor.Lit Go.Proofs.YtcjoohaagdihlaaDoor.Dec Go.Instr
set_option linter.unusedVariables false
set_option linter.unusedSimpArgs false

theorem fread_to {s : ByteArray} {f : Ft} {k : Int} (h : ∀ x, ReadS s.data.toList x → x = (f, k)) (hs : s.size ≤ 1000) (w : World) (hp : Pows w) (hx : MaxL w) :
    Calls Tryd.prog 72 #[.string s] w fun e w' => e = .returned (.tuple #[.agg #[.int .i64 f.v, .int .i64 f.p, .bool f.o], .int .i64 k]) ∧ Below w.heap.size w w' :=
  (fault_Read s w hs hp hx).mono fun e w' ⟨x, h1, h2, h3⟩ => by have := h x h2; subst this; exact ⟨h1, h3⟩
theorem rread_to {s : ByteArray} {f : Ft} {k : Int} (h : ∀ x, ReadS s.data.toList x → x = (f, k)) (hs : s.size ≤ 1000) (w : World) :
    Calls Tryd.prog 73 #[.string s] w fun e w' => e = .returned (.tuple #[.agg #[.int .i64 f.v, .int .i64 f.p, .bool f.o], .int .i64 k]) ∧ Below w.heap.size w w' :=
  (ref_ReadF s w hs).mono fun e w' ⟨x, h1, h2, h3⟩ => by have := h x h2; subst this; exact ⟨h1, h3⟩
theorem readS_ex (s : List UInt8) : ∃ x, ReadS s x := by
  by_cases h : (guessF s).p ≤ 2 ∧ textF (guessF s) = s
  · exact ⟨_, read_ok h.1 h.2⟩
  · exact ⟨_, read_err2 (by
      by_cases h1 : (guessF s).p ≤ 2
      · exact .inr fun h2 => h ⟨h1, h2⟩
      · exact .inl (by omega))⟩
theorem bOne_len (o : Bool) : (bOne o).length = 1 := by cases o <;> rfl
theorem textF_len {f : Ft} (h : Bd f) : (textF f).length ≤ 100 := by
  unfold textF
  have h1 := itoa_short h.1 h.2.1
  have h2 := itoa_short h.2.2.1 h.2.2.2
  have h3 : (pinT f.p).length ≤ 31 := by unfold pinT; split <;> simp; omega
  simp only [List.length_append, List.length_cons, bOne_len]
  omega
theorem zF_bd : Bd zF := by unfold Bd zF; simp
theorem okF_bd {f : Ft} (h : OkF f) : Bd f := by unfold OkF at h; unfold Bd; omega
theorem readS_bd {s : List UInt8} {x : Ft × Int} (h : ReadS s x) : Bd x.1 := by
  rcases h with ⟨_, h, _⟩ | ⟨_, h, _⟩
  · exact okF_bd h
  · rw [h]; exact zF_bd
theorem via {G : Prop} (F : World → Prop) (P : World → Prop) (h1 : (∀ w5, F w5 → P w5) → G) (h2 : ∀ w5, F w5 → P w5) : G := h1 h2
/-- what is known between the steps: the boxes of the faults, the table, the bound -/
structure Bx (w : World) (f g : Ft) (b2 b3 : Nat) (W : World) : Prop where
  fb : Blk W w.heap.size 54 #[.int .i64 f.v, .int .i64 f.p, .bool f.o]
  gb : Blk W b2 54 #[.int .i64 g.v, .int .i64 g.p, .bool g.o]
  hb : Blk W b3 54 #[.int .i64 g.v, .int .i64 g.p, .bool g.o]
  bel : Below w.heap.size w W
  pw : Pows W
  mx : MaxL W
theorem Bx.step {w W W' : World} {f g : Ft} {b2 b3 : Nat} (h : Bx w f g b2 b3 W) (hb : Below W.heap.size W W') : Bx w f g b2 b3 W' :=
  ⟨h.fb.below hb h.fb.lt, h.gb.below hb h.gb.lt, h.hb.below hb h.hb.lt, h.bel.trans (hb.mono h.bel.size), h.pw.below hb, h.mx.below hb⟩

end Go.Proofs.YtcjoohaagdihlaaDoor.Fault
