/- Contracts of the functions on scores, the sixth part: the example of the law is so. -/
import Derived.Test.YtcjoohaagdihlaaScore5
namespace Go.Proofs.Ytcjoohaagdihlaa.Score
open Go.RowKit Go.Lt
set_option linter.unusedVariables false

theorem Bump77 (w : World) : Calls Try.prog 77 #[.float .f64 9218868437227405312, .float .f64 18442240474082181120] w fun e w' => e = .returned (.float .f64 0) ∧ Dr w w' := by
  obtain ⟨r, hn, _, hr⟩ := run_nan (P := Try.prog) .add 24 9218868437227405312 18442240474082181120 (.inl rfl) (by kernel_rfl) w
  have oe := ord_eq r
  rw [hn] at oe
  clear hn
  go_enter Try.func77, Try.ntmps77
  go_wp2
  go_ret
  exact ⟨rfl, 1, rfl⟩

theorem Grow78a (w : World) : Calls Try.prog 78 #[.float .f64 4607182418800017408, .float .f64 4602678819172646912] w fun e w' => e = .returned (.float .f64 4611686018427387904) ∧ w = w' := by
  have h1 : True → (FloatKind.f64.format.order 4602678819172646912 0 == some .gt) = true := fun _ => by kernel_rfl
  have h2 : True → (FloatKind.f64.format.order 4602678819172646912 4607182418800017408 == some .lt) = true := fun _ => by kernel_rfl
  have h3 := fun w => run_float_arith (P := Try.prog) w .quo 24 .f64 4607182418800017408 4602678819172646912 4611686018427387904 (by kernel_rfl)
  have h4 : True → oddB 4611686018427387904 = false := fun _ => by kernel_rfl
  go_enter Try.func78, Try.ntmps78
  go_wp2_with (go_at_call 82; refine (Odd82 _ (show 4611686018427387904 < 18446744073709551616 by omega) _).mono ?_; rintro e w' ⟨rfl, rfl⟩)
  go_ret
  exact ⟨rfl, rfl⟩
theorem Grow78b (w : World) : Calls Try.prog 78 #[.float .f64 4607182418800017408, .float .f64 9221120237041090561] w fun e w' => e = .returned (.float .f64 4607182418800017408) ∧ w = w' := by
  have h1 : True → (FloatKind.f64.format.order 9221120237041090561 0 == some .gt) = false := fun _ => by kernel_rfl
  go_enter Try.func78, Try.ntmps78
  go_wp2
  go_ret
  exact ⟨rfl, rfl⟩
theorem Less16a (w : World) : Calls Try.prog 16 #[.float .f64 9221120237041090561, .float .f64 18442240474082181120] w fun e w' => e = .returned (.bool true) ∧ w = w' :=
  (Less16 9221120237041090561 18442240474082181120 (show _ < 2 ^ 64 by omega) (show _ < 2 ^ 64 by omega) w).mono fun e w' h => ⟨h.1.trans (ret_bool (by kernel_rfl)), h.2⟩
theorem Less16b (w : World) : Calls Try.prog 16 #[.float .f64 13830554455654793216, .float .f64 0] w fun e w' => e = .returned (.bool true) ∧ w = w' :=
  (Less16 13830554455654793216 0 (show _ < 2 ^ 64 by omega) (show _ < 2 ^ 64 by omega) w).mono fun e w' h => ⟨h.1.trans (ret_bool (by kernel_rfl)), h.2⟩
theorem Less16c (w : World) : Calls Try.prog 16 #[.float .f64 9223372036854775808, .float .f64 0] w fun e w' => e = .returned (.bool false) ∧ w = w' :=
  (Less16 9223372036854775808 0 (show _ < 2 ^ 64 by omega) (show _ < 2 ^ 64 by omega) w).mono fun e w' h => ⟨h.1.trans (ret_bool (by kernel_rfl)), h.2⟩

theorem lives20 (w : World) : Calls Try.prog 20 #[] w fun e w' => e = .returned (.bool true) ∧ Dr w w' := by
  have h1 : True → (FloatKind.f64.format.order 0 0 == some .eq) = true := fun _ => by kernel_rfl
  have h2 : True → (FloatKind.f64.format.order 4611686018427387904 4611686018427387904 == some .eq) = true := fun _ => by kernel_rfl
  have h3 : True → (FloatKind.f64.format.order 4607182418800017408 4607182418800017408 == some .eq) = true := fun _ => by kernel_rfl
  have h4 : ∀ W, (Op.unary .neg (.float .f64 9218868437227405312)).run Try.prog W = .ok (.float .f64 18442240474082181120) W := fun _ => by kernel_rfl
  go_enter Try.func20, Try.ntmps20
  go_wp2_with (first
    | (go_at_call 74; refine (Inf74 _).mono ?_; rintro e w' ⟨rfl, rfl⟩)
    | (go_at_call 75; refine (NaN75 _).mono ?_; rintro e w' ⟨rfl, rfl⟩)
    | (go_at_call 76; refine (Copy76 _).mono ?_; rintro e w' ⟨rfl, rfl⟩)
    | (go_at_call 77; refine (Bump77 _).mono ?_; rintro e w1 ⟨rfl, hd⟩)
    | (go_at_call 16; (with_reducible refine (Less16a _).mono ?_); rintro e w' ⟨rfl, rfl⟩)
    | (go_at_call 16; (with_reducible refine (Less16b _).mono ?_); rintro e w' ⟨rfl, rfl⟩)
    | (go_at_call 16; (with_reducible refine (Less16c _).mono ?_); rintro e w' ⟨rfl, rfl⟩)
    | (go_at_call 78; (with_reducible refine (Grow78a _).mono ?_); rintro e w' ⟨rfl, rfl⟩)
    | (go_at_call 78; (with_reducible refine (Grow78b _).mono ?_); rintro e w' ⟨rfl, rfl⟩))
  go_ret
  exact ⟨rfl, hd⟩
end Go.Proofs.Ytcjoohaagdihlaa.Score
