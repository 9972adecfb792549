/-
  The walks of the laws over single numbers: each returns true and writes nothing that was there. Conditions: the bits of a number are those of its kind.
-/
import Derived.Test.YtejoikigkipmaaaBase
import Derived.Below
namespace Go.Proofs.Ytejoikigkipmaaa
open Go.RowKit Go.Proofs.Ytejoikigkipmaaa.Fl

theorem FnExactConstants_walk (w : World) : Calls Try.prog 3 #[] w (Yes w) := by
  go_enter Try.func3, Try.ntmps3
  go_wp2_with fail
  all_goals (go_ret; exact ⟨rfl, Below.refl _ _⟩)
theorem FnExactIsFinite_walk (x : Nat) (w : World) (_hx : x < 4294967296) : Calls Try.prog 4 #[.float .f32 x] w (Yes w) := by
  go_enter Try.func4, Try.ntmps4
  go_wp2_with (first | (go_at_call 9; refine (specIsFinite_any _ _).mono ?_; rintro e w' ⟨rfl, n, rfl⟩) | (go_at_call 10; refine (implIsFinite_any _ _).mono ?_; rintro e w' ⟨rfl, n, rfl⟩))
  all_goals (go_ret; exact ⟨rfl, below_draws _ _⟩)
theorem FnExactIsSubnormal_walk (x : Nat) (w : World) (hx : x < 4294967296) : Calls Try.prog 6 #[.float .f32 x] w (Yes w) := by
  go_enter Try.func6, Try.ntmps6
  go_wp2_with (first | (go_at_call 14; refine (specIsSubnormal_any _ _ hx).mono ?_; rintro e w' ⟨rfl, n, rfl⟩) | (go_at_call 15; refine (implIsSubnormal_any _ _ hx).mono ?_; rintro e w' ⟨rfl, n, rfl⟩))
  all_goals (go_ret; exact ⟨rfl, below_draws _ _⟩)
theorem FnExactBitsOf_walk (x : Nat) (w : World) (hx : x < 4294967296) : Calls Try.prog 7 #[.float .f32 x] w (Yes w) := by
  go_enter Try.func7, Try.ntmps7
  go_wp2_with (first | (go_at_call 16; refine (specBitsOf_any _ _ hx).mono ?_; rintro e w' ⟨rfl, n, rfl⟩) | (go_at_call 17; refine (implBitsOf_any _ _ hx).mono ?_; rintro e w' ⟨rfl, n, rfl⟩))
  all_goals (go_ret; exact ⟨rfl, below_draws _ _⟩)
theorem FnExactSameNumber_walk (x y : Nat) (w : World) (hx : x < 4294967296) (hy : y < 4294967296) : Calls Try.prog 8 #[.float .f32 x, .float .f32 y] w (Yes w) := by
  go_enter Try.func8, Try.ntmps8
  go_wp2_with (first | (go_at_call 18; refine (specSameNumber_any _ _ _ hx hy).mono ?_; rintro e w' ⟨rfl, n, rfl⟩) | (go_at_call 19; refine (implSameNumber_any _ _ _ hx hy).mono ?_; rintro e w' ⟨rfl, n, rfl⟩))
  all_goals (go_ret; exact ⟨rfl, below_draws _ _⟩)
end Go.Proofs.Ytejoikigkipmaaa
