/-
  What the small float functions of this seat come to: whether a number is finite, the bits of a number, and that the laws' own comparison says yes wherever both sides have one value. Conditions: where bits are told, they are the bits of a float32.
-/
import Derived.Test.YtppodhfkmdojoaaRows
import Derived.Test.YtppodhfkmdojoaaFl
import Derived.WalkSpells
namespace Go.Proofs.Ytppodhfkmdojoaa
open Go.RowKit Go.Proofs.Ytppodhfkmdojoaa.Fl

@[go_sem] theorem run_f32bits (x : Nat) (w : World) : (callFunc 39 #[.float .f32 x]).run Try.prog w = .ok (.value (.int .u32 x)) w := by
  rw [run_callFunc_extern (e := Extern.MathFloatBits.float32bits) Try.func39 (by kernel_rfl) (by kernel_rfl) (by kernel_rfl) (by kernel_rfl)]
  rfl
@[go_sem] theorem run_f32from (n : Int) (w : World) : (callFunc 36 #[.int .u32 n]).run Try.prog w = .ok (.value (.float .f32 n.toNat)) w := by
  rw [run_callFunc_extern (e := Extern.MathFloatBits.float32frombits) Try.func36 (by kernel_rfl) (by kernel_rfl) (by kernel_rfl) (by kernel_rfl)]
  rfl

theorem same_nan (x y : Nat) (w : World) (hx : val .f64 x = none) (hy : val .f64 y = none) :
    Calls Try.prog 14 #[.float .f64 x, .float .f64 y] w (Ret (.bool true) w) := by
  have h1 := order_self_nan hx
  have h2 := order_self_nan hy
  go_enter Try.func14, Try.ntmps14
  go_wp2_with fail
  all_goals (go_ret; exact ⟨rfl, 0, rfl⟩)

set_option maxHeartbeats 400000 in
theorem same_num (x : Nat) (w : World) (hx : val .f64 x = some x) :
    Calls Try.prog 14 #[.float .f64 x, .float .f64 x] w (Ret (.bool true) w) := by
  have h1 := order_self hx
  by_cases h0 : FloatKind.f64.format.order x 0 = some .eq
  · have h0' : (FloatKind.f64.format.order x 0 == some .eq) = true := by rw [h0]; rfl
    go_enter Try.func14, Try.ntmps14
    go_wp2_with (refine wpList_ar _ rfl _ _ _ _ _ rfl _ _ _ rfl rfl rfl (by first | assumption | exact rfl) (by first | assumption | exact rfl) ?_; intro r n hr)
    go_ret
    exact ⟨ret_bool (same_gt (by assumption) (by assumption)), _, rfl⟩
  · have h0' : (FloatKind.f64.format.order x 0 == some .eq) = false := by simpa using h0
    clear h0
    go_enter Try.func14, Try.ntmps14
    go_wp2_with fail
    all_goals (go_ret; exact ⟨rfl, 0, rfl⟩)

/-- The laws' own comparison of two floats says yes where both have one value. -/
theorem same_any (v : Option Nat) (x y : Nat) (w : World) (hx : Is .f64 v x) (hy : Is .f64 v y) :
    Calls Try.prog 14 #[.float .f64 x, .float .f64 y] w (Ret (.bool true) w) := by
  cases v with
  | none => exact same_nan x y w hx hy
  | some b =>
    obtain rfl := hx.some_eq
    obtain rfl := hy.some_eq
    exact same_num _ w hx

theorem isNaN_any (x : Nat) (w : World) : Calls Try.prog 55 #[.float .f32 x] w (Ret (.bool (val .f32 x).isNone) w) := by
  go_enter Try.func55, Try.ntmps55
  go_wp2_with fail
  go_ret
  exact ⟨ret_bool (self_ne x), 0, rfl⟩
theorem l01Bits_any (x : Nat) (w : World) (hx : x < 4294967296) : Calls Try.prog 50 #[.float .f32 x] w (Ret (.int .i64 (bitsV (val .f32 x))) w) := by
  cases hv : val .f32 x with
  | none =>
    have h1 := order_self_nan hv
    go_enter Try.func50, Try.ntmps50
    go_wp2_with fail
    all_goals (go_ret; exact ⟨rfl, 0, rfl⟩)
  | some b =>
    obtain rfl := (val_some hv).1
    have h1 := order_self hv
    have hx' : (b : Int) < 4294967296 := by omega
    go_enter Try.func50, Try.ntmps50
    go_wp2
    all_goals (go_ret; exact ⟨rfl, 0, rfl⟩)
theorem abs_any (x : Nat) (w : World) (hx : x < 4294967296) : Calls Try.prog 51 #[.float .f32 x] w (Ret (.float .f32 (x % 2147483648)) w) := by
  go_enter Try.func51, Try.ntmps51
  go_wp2_with fail
  go_ret
  exact ⟨congrArg (fun b => Ending.returned (.float .f32 b)) (andNot_top x hx), 0, rfl⟩
theorem implIsSubnormal_any (x : Nat) (w : World) (hx : x < 4294967296) : Calls Try.prog 38 #[.float .f32 x] w (Ret (.bool (subn (val .f32 x))) w) := by
  have hs := subn_abs x
  have H := hid hs; clear hs
  have ho := ord_val .f32 x 0
  have Ho := hid ho; clear ho
  by_cases h0 : (FloatKind.f32.format.order x 0 != some Ordering.eq) = true
  · go_enter Try.func38, Try.ntmps38
    go_wp2_with (go_at_call 51; refine (abs_any _ _ hx).mono ?_; rintro e w' ⟨rfl, n, rfl⟩)
    go_ret
    exact ⟨ret_bool (H.out.trans (by unfold subn; rw [Ho.out, h0]; rfl)), _, rfl⟩
  · have h0' : (FloatKind.f32.format.order x 0 != some Ordering.eq) = false := by simpa using h0
    clear h0
    go_enter Try.func38, Try.ntmps38
    go_wp2_with fail
    go_ret
    exact ⟨ret_bool (by unfold subn; rw [Ho.out, h0']; rfl), 0, rfl⟩
theorem l01Same_any (x y : Nat) (w : World) (hx : x < 4294967296) (hy : y < 4294967296) : Calls Try.prog 52 #[.float .f32 x, .float .f32 y] w (Ret (.bool (bitsV (val .f32 x) == bitsV (val .f32 y))) w) := by
  go_enter Try.func52, Try.ntmps52
  go_wp2_with fail
  refine (l01Bits_any _ _ hx).mono ?_
  rintro e w' ⟨rfl, n, rfl⟩
  go_wp2_with fail
  refine (l01Bits_any _ _ hy).mono ?_
  rintro e w' ⟨rfl, n, rfl⟩
  go_wp2_with fail
  go_ret
  exact ⟨rfl, _, rfl⟩
theorem implSameNumber_any (x y : Nat) (w : World) (hx : x < 4294967296) (hy : y < 4294967296) : Calls Try.prog 54 #[.float .f32 x, .float .f32 y] w (Ret (.bool (bitsV (val .f32 x) == bitsV (val .f32 y))) w) := by
  have hs := same_bits x y
  have H := hid hs; clear hs
  cases hv : val .f32 x with
  | none =>
    have h1 : (val .f32 x).isNone = true := by rw [hv]; rfl
    rw [hv] at H
    clear hv
    cases hu : val .f32 y with
    | none =>
      have h2 : (val .f32 y).isNone = true := by rw [hu]; rfl
      rw [hu] at H
      clear hu
      go_enter Try.func54, Try.ntmps54
      go_wp2_with (go_at_call 55; refine (isNaN_any _ _).mono ?_; rintro e w' ⟨rfl, n, rfl⟩)
      all_goals (go_ret; exact ⟨rfl, _, rfl⟩)
    | some c =>
      obtain rfl := (val_some hu).1
      have h2 : (val .f32 c).isNone = false := by rw [hu]; rfl
      rw [hu] at H
      clear hu
      go_enter Try.func54, Try.ntmps54
      go_wp2_with (go_at_call 55; refine (isNaN_any _ _).mono ?_; rintro e w' ⟨rfl, n, rfl⟩)
      all_goals (go_ret; exact ⟨ret_bool H.out, _, rfl⟩)
  | some b =>
    obtain rfl := (val_some hv).1
    have h1 : (val .f32 b).isNone = false := by rw [hv]; rfl
    rw [hv] at H
    clear hv
    cases hu : val .f32 y with
    | none =>
      have h2 : (val .f32 y).isNone = true := by rw [hu]; rfl
      rw [hu] at H
      clear hu
      go_enter Try.func54, Try.ntmps54
      go_wp2_with (go_at_call 55; refine (isNaN_any _ _).mono ?_; rintro e w' ⟨rfl, n, rfl⟩)
      all_goals (go_ret; exact ⟨ret_bool H.out, _, rfl⟩)
    | some c =>
      obtain rfl := (val_some hu).1
      have h2 : (val .f32 c).isNone = false := by rw [hu]; rfl
      rw [hu] at H
      clear hu
      go_enter Try.func54, Try.ntmps54
      go_wp2_with (go_at_call 55; refine (isNaN_any _ _).mono ?_; rintro e w' ⟨rfl, n, rfl⟩)
      all_goals (go_ret; exact ⟨ret_bool H.out, _, rfl⟩)
end Go.Proofs.Ytppodhfkmdojoaa
