/- Contracts for the law ScoreScales: a copy of scores, whether one is high, and the scores scaled. -/
import Derived.Test.YtcjoohaagdihlaaScore7
namespace Go.Proofs.Ytcjoohaagdihlaa.Score
open Go.RowKit Go.Lt
set_option linter.unusedVariables false

theorem oneCell_float (bs : List Nat) : ∀ u ∈ bs.map (Value.float .f64), u.oneCell' = true := by
  intro u hu
  obtain ⟨b, _, rfl⟩ := List.mem_map.1 hu
  rfl

theorem Clone79 (A : Option Addr) (n c : Nat) (bs : List Nat) (w : World) (hn : n ≤ 300) (hr : Rd w A n (bs.map (Value.float .f64))) :
    Calls Try.prog 79 #[.slice A n c] w fun e w' => ∃ v, e = .returned v ∧ w'.ownsRow w.heap.size 24 1 v n (bs.map (Value.float .f64)) ∧ Below w.heap.size w w' := by
  have hq := fun W => Go.Lib.run_eql_slice_nil (P := Try.prog) W 30 24 A n c 0 0 Try.underlying30
  rcases A with _ | ad
  · have hm := hr.none
    subst hm
    have hl := hr.len
    have hbs : bs = [] := List.eq_nil_of_length_eq_zero hl
    subst hbs
    clear hr
    go_enter Try.func79, Try.ntmps79
    go_wp2
    go_ret
    exact ⟨_, rfl, World.ownsRow_nil _ _ _ _, Below.refl _ _⟩
  · go_enter Try.func79, Try.ntmps79
    have hr' : ∀ o, Rd (w.alloc o) (some ad) n (bs.map (Value.float .f64)) := fun o => hr.below ((Below.refl w.heap.size w).alloc (Nat.le_refl _) o) (Nat.le_refl _)
    go_wp2_with (at_builtin; refine wpList_append_rd (w0 := w) (base := w.heap.size) rfl _ _ _ rfl Try.underlying30 info24 rfl rfl rfl (World.ownsRow_made w #[] 0 (Nat.le_refl _) (Nat.zero_le _) rfl) ((Below.refl _ _).alloc (Nat.le_refl _) _) (by simp) (hr' _) (oneCell_float _) (by unfold maxLen; omega) (by omega) ?_; intro v1 w1 hown1 hb1)
    go_ret
    rw [Nat.zero_add, List.nil_append] at hown1
    exact ⟨v1, rfl, hown1, hb1⟩

/-- whether a score is above the border -/
def hiB (b : Nat) : Bool := FloatKind.f64.format.order b 6103021453049119613 == some .gt

theorem Hi81 (b : Nat) (w : World) : Calls Try.prog 81 #[.float .f64 b] w fun e w' => e = .returned (.bool (hiB b)) ∧ w = w' := by
  have h : True → (FloatKind.f64.format.order b 6103021453049119613 == some .gt) = hiB b := fun _ => rfl
  go_enter Try.func81, Try.ntmps81
  go_wp2
  go_ret
  exact ⟨rfl, rfl⟩

theorem any_snoc {α : Type} (p : α → Bool) (l : List α) (k : Nat) (x : α) (h : l[k]? = some x) : (l.take (k + 1)).any p = ((l.take k).any p || p x) := by
  rw [List.take_add_one, h]; simp

def IdxOf (o : Bool) (w : World) (e : Ending) (w' : World) : Prop := ∃ i : Int, e = .returned (.int .i64 i) ∧ decide (0 ≤ i) = o ∧ w = w'

theorem Index122 (A : Option Addr) (n c : Nat) (bs : List Nat) (w : World) (hn : n ≤ 300) (hr : Rd w A n (bs.map (Value.float .f64))) :
    Calls Try.prog 122 #[.slice A n c, .func (.func 81) #[] #[]] w (IdxOf (bs.any hiB) w) := by
  have hl := hr.len
  have HA := hide (show (bs.take n).any hiB = bs.any hiB by rw [List.take_of_length_le (by omega)])
  have HP := hide (show ∀ k, k ≤ n → (bs.take k).any hiB = true → bs.any hiB = true from fun k _ h => by
    rw [List.any_eq_true] at h ⊢
    obtain ⟨x, hx, hp⟩ := h
    exact ⟨x, List.mem_of_mem_take hx, hp⟩)
  clear hl
  go_enter Try.func122, Try.ntmps122
  go_wp2
  go_loop [8] (fun i => ∃ k : Nat, k ≤ n ∧ i = .int .i64 k ∧ Hid ((bs.take k).any hiB = false)) (fun i => n - (intOf i).toNat)
  case atStart => exact ⟨0, Nat.zero_le _, rfl, rfl⟩
  case round =>
    obtain ⟨k, hk, rfl, hno⟩ := hrel
    by_cases hlt : k < n
    · obtain ⟨ad, x, rfl, hB, hx, hc⟩ := hr.get hlt
      have HS := hide (any_snoc hiB bs k x hx)
      clear hx
      by_cases hp : hiB x = true
      · go_wp2_with (go_at_call 81; refine (Hi81 _ _).mono ?_; rintro e w' ⟨rfl, rfl⟩)
        go_ret
        refine ⟨k, rfl, ?_, rfl⟩
        rw [HP.out (k + 1) hlt (by rw [HS.out, hp]; simp)]
        simp
      · have hp : hiB x = false := by simpa using hp
        go_wp2_with (go_at_call 81; refine (Hi81 _ _).mono ?_; rintro e w' ⟨rfl, rfl⟩)
        go_round
        case rel => exact ⟨k + 1, hlt, by go_num, by show _ = _; rw [HS.out, hno.out, hp]; rfl⟩
        case measure => simp [intOf]; omega
    · have hkn : k = n := by omega
      subst hkn
      go_wp2
      go_ret
      refine ⟨-1, rfl, ?_, rfl⟩
      rw [← HA.out, hno.out]
      rfl

theorem Contains80 (A : Option Addr) (n c : Nat) (bs : List Nat) (w : World) (hn : n ≤ 300) (hr : Rd w A n (bs.map (Value.float .f64))) :
    Calls Try.prog 80 #[.slice A n c, .func (.func 81) #[] #[]] w fun e w' => e = .returned (.bool (bs.any hiB)) ∧ w = w' := by
  go_enter Try.func80, Try.ntmps80
  go_wp2_with (go_at_call 122; refine (Index122 _ _ _ bs _ hn hr).mono ?_; rintro e w' ⟨i, rfl, hi, rfl⟩)
  go_ret
  exact ⟨rfl, rfl⟩
end Go.Proofs.Ytcjoohaagdihlaa.Score
