/-
  What the small float functions of this seat come to: whether a number is finite, the bits of a number, and that the laws' own comparison says yes wherever both sides have one value. Conditions: where bits are told, they are the bits of a float32.
-/
import Derived.Test.YtfmlebjaopfelaaDoorRows
import Derived.Test.YtfmlebjaopfelaaDoorFl
import Derived.WalkSpells
namespace Go.Proofs.YtfmlebjaopfelaaDoor
open Go.RowKit Go.Proofs.YtfmlebjaopfelaaDoor.Fl

@[go_sem] theorem run_f32bits (x : Nat) (w : World) : (callFunc 68 #[.float .f32 x]).run Tryd.prog w = .ok (.value (.int .u32 x)) w := by
  rw [run_callFunc_extern (e := Extern.MathFloatBits.float32bits) Tryd.func68 (by kernel_rfl) (by kernel_rfl) (by kernel_rfl) (by kernel_rfl)]
  rfl
@[go_sem] theorem run_f32from (n : Int) (w : World) : (callFunc 66 #[.int .u32 n]).run Tryd.prog w = .ok (.value (.float .f32 n.toNat)) w := by
  rw [run_callFunc_extern (e := Extern.MathFloatBits.float32frombits) Tryd.func66 (by kernel_rfl) (by kernel_rfl) (by kernel_rfl) (by kernel_rfl)]
  rfl

theorem same_nan (x y : Nat) (w : World) (hx : val .f64 x = none) (hy : val .f64 y = none) :
    Calls Tryd.prog 49 #[.float .f64 x, .float .f64 y] w (Ret (.bool true) w) := by
  have h1 := order_self_nan hx
  have h2 := order_self_nan hy
  go_enter Tryd.func49, Tryd.ntmps49
  go_wp2_with fail
  all_goals (go_ret; exact ⟨rfl, 0, rfl⟩)

set_option maxHeartbeats 400000 in
theorem same_num (x : Nat) (w : World) (hx : val .f64 x = some x) :
    Calls Tryd.prog 49 #[.float .f64 x, .float .f64 x] w (Ret (.bool true) w) := by
  have h1 := order_self hx
  by_cases h0 : FloatKind.f64.format.order x 0 = some .eq
  · have h0' : (FloatKind.f64.format.order x 0 == some .eq) = true := by rw [h0]; rfl
    go_enter Tryd.func49, Tryd.ntmps49
    go_wp2_with (refine wpList_ar _ rfl _ _ _ _ _ rfl _ _ _ rfl rfl rfl (by first | assumption | exact rfl) (by first | assumption | exact rfl) ?_; intro r n hr)
    go_ret
    exact ⟨ret_bool (same_gt (by assumption) (by assumption)), _, rfl⟩
  · have h0' : (FloatKind.f64.format.order x 0 == some .eq) = false := by simpa using h0
    clear h0
    go_enter Tryd.func49, Tryd.ntmps49
    go_wp2_with fail
    all_goals (go_ret; exact ⟨rfl, 0, rfl⟩)

/-- The laws' own comparison of two floats says yes where both have one value. -/
theorem same_any (v : Option Nat) (x y : Nat) (w : World) (hx : Is .f64 v x) (hy : Is .f64 v y) :
    Calls Tryd.prog 49 #[.float .f64 x, .float .f64 y] w (Ret (.bool true) w) := by
  cases v with
  | none => exact same_nan x y w hx hy
  | some b =>
    obtain rfl := hx.some_eq
    obtain rfl := hy.some_eq
    exact same_num _ w hx

theorem isNaN_any (x : Nat) (w : World) : Calls Tryd.prog 67 #[.float .f32 x] w (Ret (.bool (val .f32 x).isNone) w) := by
  go_enter Tryd.func67, Tryd.ntmps67
  go_wp2_with fail
  go_ret
  exact ⟨ret_bool (self_ne x), 0, rfl⟩
theorem l01Bits_any (x : Nat) (w : World) (hx : x < 4294967296) : Calls Tryd.prog 63 #[.float .f32 x] w (Ret (.int .i64 (bitsV (val .f32 x))) w) := by
  cases hv : val .f32 x with
  | none =>
    have h1 := order_self_nan hv
    go_enter Tryd.func63, Tryd.ntmps63
    go_wp2_with fail
    all_goals (go_ret; exact ⟨rfl, 0, rfl⟩)
  | some b =>
    obtain rfl := (val_some hv).1
    have h1 := order_self hv
    have hx' : (b : Int) < 4294967296 := by omega
    go_enter Tryd.func63, Tryd.ntmps63
    go_wp2
    all_goals (go_ret; exact ⟨rfl, 0, rfl⟩)
theorem implBitsOf_any (x : Nat) (w : World) (hx : x < 4294967296) : Calls Tryd.prog 56 #[.float .f32 x] w (Ret (.int .i64 (bitsV (val .f32 x))) w) := by
  cases hv : val .f32 x with
  | none =>
    have h1 : (val .f32 x).isNone = true := by rw [hv]; rfl
    clear hv
    go_enter Tryd.func56, Tryd.ntmps56
    go_wp2_with (go_at_call 67; refine (isNaN_any _ _).mono ?_; rintro e w' ⟨rfl, n, rfl⟩)
    all_goals (go_ret; exact ⟨rfl, _, rfl⟩)
  | some b =>
    obtain rfl := (val_some hv).1
    have h1 : (val .f32 b).isNone = false := by rw [hv]; rfl
    clear hv
    have hx' : (b : Int) < 4294967296 := by omega
    go_enter Tryd.func56, Tryd.ntmps56
    go_wp2_with (go_at_call 67; refine (isNaN_any _ _).mono ?_; rintro e w' ⟨rfl, n, rfl⟩)
    all_goals (go_ret; exact ⟨rfl, _, rfl⟩)
end Go.Proofs.YtfmlebjaopfelaaDoor
