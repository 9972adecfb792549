/-
  What the small float functions of this seat come to: whether a number is finite, the bits of a number, and that the laws' own comparison says yes wherever both sides have one value. Conditions: where bits are told, they are the bits of a float32.
-/
import Derived.Test.YtekaacpdapghhaaRows
import Derived.Test.YtekaacpdapghhaaFl
import Derived.WalkSpells
namespace Go.Proofs.Ytekaacpdapghhaa
open Go.RowKit Go.Proofs.Ytekaacpdapghhaa.Fl


theorem same_nan (x y : Nat) (w : World) (hx : val .f64 x = none) (hy : val .f64 y = none) :
    Calls Try.prog 8 #[.float .f64 x, .float .f64 y] w (Ret (.bool true) w) := by
  have h1 := order_self_nan hx
  have h2 := order_self_nan hy
  go_enter Try.func8, Try.ntmps8
  go_wp2_with fail
  all_goals (go_ret; exact ⟨rfl, 0, rfl⟩)

set_option maxHeartbeats 400000 in
theorem same_num (x : Nat) (w : World) (hx : val .f64 x = some x) :
    Calls Try.prog 8 #[.float .f64 x, .float .f64 x] w (Ret (.bool true) w) := by
  have h1 := order_self hx
  by_cases h0 : FloatKind.f64.format.order x 0 = some .eq
  · have h0' : (FloatKind.f64.format.order x 0 == some .eq) = true := by rw [h0]; rfl
    go_enter Try.func8, Try.ntmps8
    go_wp2_with (refine wpList_ar _ rfl _ _ _ _ _ rfl _ _ _ rfl rfl rfl (by first | assumption | exact rfl) (by first | assumption | exact rfl) ?_; intro r n hr)
    go_ret
    exact ⟨ret_bool (same_gt (by assumption) (by assumption)), _, rfl⟩
  · have h0' : (FloatKind.f64.format.order x 0 == some .eq) = false := by simpa using h0
    clear h0
    go_enter Try.func8, Try.ntmps8
    go_wp2_with fail
    all_goals (go_ret; exact ⟨rfl, 0, rfl⟩)

/-- The laws' own comparison of two floats says yes where both have one value. -/
theorem same_any (v : Option Nat) (x y : Nat) (w : World) (hx : Is .f64 v x) (hy : Is .f64 v y) :
    Calls Try.prog 8 #[.float .f64 x, .float .f64 y] w (Ret (.bool true) w) := by
  cases v with
  | none => exact same_nan x y w hx hy
  | some b =>
    obtain rfl := hx.some_eq
    obtain rfl := hy.some_eq
    exact same_num _ w hx

end Go.Proofs.Ytekaacpdapghhaa
