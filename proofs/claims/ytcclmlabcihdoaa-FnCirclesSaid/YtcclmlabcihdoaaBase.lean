/-
  What the small float functions of this seat come to: whether a number is finite, the bits of a number, and that the laws' own comparison says yes wherever both sides have one value. Conditions: where bits are told, they are the bits of a float32.
-/
import Derived.Test.YtcclmlabcihdoaaRows
import Derived.Test.YtcclmlabcihdoaaFl
import Derived.WalkSpells
namespace Go.Proofs.Ytcclmlabcihdoaa
open Go.RowKit Go.Proofs.Ytcclmlabcihdoaa.Fl

@[go_sem] theorem run_f32bits (x : Nat) (w : World) : (callFunc 105 #[.float .f32 x]).run Try.prog w = .ok (.value (.int .u32 x)) w := by
  rw [run_callFunc_extern (e := Extern.MathFloatBits.float32bits) Try.func105 (by kernel_rfl) (by kernel_rfl) (by kernel_rfl) (by kernel_rfl)]
  rfl
@[go_sem] theorem run_f32from (n : Int) (w : World) : (callFunc 102 #[.int .u32 n]).run Try.prog w = .ok (.value (.float .f32 n.toNat)) w := by
  rw [run_callFunc_extern (e := Extern.MathFloatBits.float32frombits) Try.func102 (by kernel_rfl) (by kernel_rfl) (by kernel_rfl) (by kernel_rfl)]
  rfl

theorem same_nan (x y : Nat) (w : World) (hx : val .f64 x = none) (hy : val .f64 y = none) :
    Calls Try.prog 15 #[.float .f64 x, .float .f64 y] w (Ret (.bool true) w) := by
  have h1 := order_self_nan hx
  have h2 := order_self_nan hy
  go_enter Try.func15, Try.ntmps15
  go_wp2_with fail
  all_goals (go_ret; exact ⟨rfl, 0, rfl⟩)

set_option maxHeartbeats 400000 in
theorem same_num (x : Nat) (w : World) (hx : val .f64 x = some x) :
    Calls Try.prog 15 #[.float .f64 x, .float .f64 x] w (Ret (.bool true) w) := by
  have h1 := order_self hx
  by_cases h0 : FloatKind.f64.format.order x 0 = some .eq
  · have h0' : (FloatKind.f64.format.order x 0 == some .eq) = true := by rw [h0]; rfl
    go_enter Try.func15, Try.ntmps15
    go_wp2_with (refine wpList_ar _ rfl _ _ _ _ _ rfl _ _ _ rfl rfl rfl (by first | assumption | exact rfl) (by first | assumption | exact rfl) ?_; intro r n hr)
    go_ret
    exact ⟨ret_bool (same_gt (by assumption) (by assumption)), _, rfl⟩
  · have h0' : (FloatKind.f64.format.order x 0 == some .eq) = false := by simpa using h0
    clear h0
    go_enter Try.func15, Try.ntmps15
    go_wp2_with fail
    all_goals (go_ret; exact ⟨rfl, 0, rfl⟩)

/-- The laws' own comparison of two floats says yes where both have one value. -/
theorem same_any (v : Option Nat) (x y : Nat) (w : World) (hx : Is .f64 v x) (hy : Is .f64 v y) :
    Calls Try.prog 15 #[.float .f64 x, .float .f64 y] w (Ret (.bool true) w) := by
  cases v with
  | none => exact same_nan x y w hx hy
  | some b =>
    obtain rfl := hx.some_eq
    obtain rfl := hy.some_eq
    exact same_num _ w hx

theorem l01Finite_any (x : Nat) (w : World) : Calls Try.prog 47 #[.float .f32 x] w (Ret (.bool (fin (val .f32 x))) w) := by
  go_enter Try.func47, Try.ntmps47
  go_wp2_with (refine wpList_ar _ rfl _ _ _ _ _ rfl _ _ _ rfl rfl rfl (by first | assumption | exact rfl) (by first | assumption | exact rfl) ?_; intro r n hr)
  go_ret
  exact ⟨ret_bool (is_fin ‹_›), _, rfl⟩
theorem implIsFinite_any (x : Nat) (w : World) : Calls Try.prog 58 #[.float .f32 x] w (Ret (.bool (fin (val .f32 x))) w) := by
  go_enter Try.func58, Try.ntmps58
  go_wp2_with (refine wpList_ar _ rfl _ _ _ _ _ rfl _ _ _ rfl rfl rfl (by first | assumption | exact rfl) (by first | assumption | exact rfl) ?_; intro r n hr)
  go_ret
  exact ⟨ret_bool (is_fin ‹_›), _, rfl⟩
theorem isNaN_any (x : Nat) (w : World) : Calls Try.prog 55 #[.float .f32 x] w (Ret (.bool (val .f32 x).isNone) w) := by
  go_enter Try.func55, Try.ntmps55
  go_wp2_with fail
  go_ret
  exact ⟨ret_bool (self_ne x), 0, rfl⟩
theorem l01Bits_any (x : Nat) (w : World) (hx : x < 4294967296) : Calls Try.prog 95 #[.float .f32 x] w (Ret (.int .i64 (bitsV (val .f32 x))) w) := by
  cases hv : val .f32 x with
  | none =>
    have h1 := order_self_nan hv
    go_enter Try.func95, Try.ntmps95
    go_wp2_with fail
    all_goals (go_ret; exact ⟨rfl, 0, rfl⟩)
  | some b =>
    obtain rfl := (val_some hv).1
    have h1 := order_self hv
    have hx' : (b : Int) < 4294967296 := by omega
    go_enter Try.func95, Try.ntmps95
    go_wp2
    all_goals (go_ret; exact ⟨rfl, 0, rfl⟩)
theorem l01Same_any (x y : Nat) (w : World) (hx : x < 4294967296) (hy : y < 4294967296) : Calls Try.prog 77 #[.float .f32 x, .float .f32 y] w (Ret (.bool (bitsV (val .f32 x) == bitsV (val .f32 y))) w) := by
  go_enter Try.func77, Try.ntmps77
  go_wp2_with fail
  refine (l01Bits_any _ _ hx).mono ?_
  rintro e w' ⟨rfl, n, rfl⟩
  go_wp2_with fail
  refine (l01Bits_any _ _ hy).mono ?_
  rintro e w' ⟨rfl, n, rfl⟩
  go_wp2_with fail
  go_ret
  exact ⟨rfl, _, rfl⟩
theorem specSameNumber_any (x y : Nat) (w : World) (hx : x < 4294967296) (hy : y < 4294967296) : Calls Try.prog 44 #[.float .f32 x, .float .f32 y] w (Ret (.bool (bitsV (val .f32 x) == bitsV (val .f32 y))) w) := by
  go_enter Try.func44, Try.ntmps44
  go_wp2_with (go_at_call 77; refine (l01Same_any _ _ _ hx hy).mono ?_; rintro e w' ⟨rfl, n, rfl⟩)
  go_ret
  exact ⟨rfl, _, rfl⟩
end Go.Proofs.Ytcclmlabcihdoaa
