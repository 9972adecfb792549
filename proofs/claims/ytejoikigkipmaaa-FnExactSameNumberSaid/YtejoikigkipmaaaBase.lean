/-
  What the small float functions of this seat come to: whether a number is finite, the bits of a number, and that the laws' own comparison says yes wherever both sides have one value. Conditions: where bits are told, they are the bits of a float32.
-/
import Derived.Test.YtejoikigkipmaaaRows
import Derived.Test.YtejoikigkipmaaaFl
import Derived.WalkSpells
namespace Go.Proofs.Ytejoikigkipmaaa
open Go.RowKit Go.Proofs.Ytejoikigkipmaaa.Fl

@[go_sem] theorem run_f32bits (x : Nat) (w : World) : (callFunc 25 #[.float .f32 x]).run Try.prog w = .ok (.value (.int .u32 x)) w := by
  rw [run_callFunc_extern (e := Extern.MathFloatBits.float32bits) Try.func25 (by kernel_rfl) (by kernel_rfl) (by kernel_rfl) (by kernel_rfl)]
  rfl
@[go_sem] theorem run_f32from (n : Int) (w : World) : (callFunc 27 #[.int .u32 n]).run Try.prog w = .ok (.value (.float .f32 n.toNat)) w := by
  rw [run_callFunc_extern (e := Extern.MathFloatBits.float32frombits) Try.func27 (by kernel_rfl) (by kernel_rfl) (by kernel_rfl) (by kernel_rfl)]
  rfl

theorem same_nan (x y : Nat) (w : World) (hx : val .f64 x = none) (hy : val .f64 y = none) :
    Calls Try.prog 13 #[.float .f64 x, .float .f64 y] w (Ret (.bool true) w) := by
  have h1 := order_self_nan hx
  have h2 := order_self_nan hy
  go_enter Try.func13, Try.ntmps13
  go_wp2_with fail
  all_goals (go_ret; exact ⟨rfl, 0, rfl⟩)

set_option maxHeartbeats 400000 in
theorem same_num (x : Nat) (w : World) (hx : val .f64 x = some x) :
    Calls Try.prog 13 #[.float .f64 x, .float .f64 x] w (Ret (.bool true) w) := by
  have h1 := order_self hx
  by_cases h0 : FloatKind.f64.format.order x 0 = some .eq
  · have h0' : (FloatKind.f64.format.order x 0 == some .eq) = true := by rw [h0]; rfl
    go_enter Try.func13, Try.ntmps13
    go_wp2_with (refine wpList_ar _ rfl _ _ _ _ _ rfl _ _ _ rfl rfl rfl ?_; intro r n hr)
    go_ret
    exact ⟨ret_bool (same_gt (by assumption) (by assumption)), _, rfl⟩
  · have h0' : (FloatKind.f64.format.order x 0 == some .eq) = false := by simpa using h0
    clear h0
    go_enter Try.func13, Try.ntmps13
    go_wp2_with fail
    all_goals (go_ret; exact ⟨rfl, 0, rfl⟩)

/-- The laws' own comparison of two floats says yes where both have one value. -/
theorem same_any (v : Option Nat) (x y : Nat) (w : World) (hx : Is .f64 v x) (hy : Is .f64 v y) :
    Calls Try.prog 13 #[.float .f64 x, .float .f64 y] w (Ret (.bool true) w) := by
  cases v with
  | none => exact same_nan x y w hx hy
  | some b =>
    obtain rfl := hx.some_eq
    obtain rfl := hy.some_eq
    exact same_num _ w hx

theorem l01Finite_any (x : Nat) (w : World) : Calls Try.prog 20 #[.float .f32 x] w (Ret (.bool (fin (val .f32 x))) w) := by
  go_enter Try.func20, Try.ntmps20
  go_wp2_with (refine wpList_ar _ rfl _ _ _ _ _ rfl _ _ _ rfl rfl rfl ?_; intro r n hr)
  go_ret
  exact ⟨ret_bool (is_fin ‹_›), _, rfl⟩
theorem specIsFinite_any (x : Nat) (w : World) : Calls Try.prog 9 #[.float .f32 x] w (Ret (.bool (fin (val .f32 x))) w) := by
  go_enter Try.func9, Try.ntmps9
  go_wp2_with (go_at_call 20; refine (l01Finite_any _ _).mono ?_; rintro e w' ⟨rfl, n, rfl⟩)
  go_ret
  exact ⟨rfl, _, rfl⟩
theorem implIsFinite_any (x : Nat) (w : World) : Calls Try.prog 10 #[.float .f32 x] w (Ret (.bool (fin (val .f32 x))) w) := by
  go_enter Try.func10, Try.ntmps10
  go_wp2_with (refine wpList_ar _ rfl _ _ _ _ _ rfl _ _ _ rfl rfl rfl ?_; intro r n hr)
  go_ret
  exact ⟨ret_bool (is_fin ‹_›), _, rfl⟩
theorem isNaN_any (x : Nat) (w : World) : Calls Try.prog 24 #[.float .f32 x] w (Ret (.bool (val .f32 x).isNone) w) := by
  go_enter Try.func24, Try.ntmps24
  go_wp2_with fail
  go_ret
  exact ⟨ret_bool (self_ne x), 0, rfl⟩
theorem l01Bits_any (x : Nat) (w : World) (hx : x < 4294967296) : Calls Try.prog 22 #[.float .f32 x] w (Ret (.int .i64 (bitsV (val .f32 x))) w) := by
  cases hv : val .f32 x with
  | none =>
    have h1 := order_self_nan hv
    go_enter Try.func22, Try.ntmps22
    go_wp2_with fail
    all_goals (go_ret; exact ⟨rfl, 0, rfl⟩)
  | some b =>
    obtain rfl := (val_some hv).1
    have h1 := order_self hv
    have hx' : (b : Int) < 4294967296 := by omega
    go_enter Try.func22, Try.ntmps22
    go_wp2
    all_goals (go_ret; exact ⟨rfl, 0, rfl⟩)
theorem abs_any (x : Nat) (w : World) (hx : x < 4294967296) : Calls Try.prog 23 #[.float .f32 x] w (Ret (.float .f32 (x % 2147483648)) w) := by
  go_enter Try.func23, Try.ntmps23
  go_wp2_with fail
  go_ret
  exact ⟨congrArg (fun b => Ending.returned (.float .f32 b)) (andNot_top x hx), 0, rfl⟩
theorem specIsSubnormal_any (x : Nat) (w : World) (hx : x < 4294967296) : Calls Try.prog 14 #[.float .f32 x] w (Ret (.bool (subn (val .f32 x))) w) := by
  have hs := subn_bits x hx
  have H := hid hs; clear hs
  have ho := ord_val .f32 x 0
  have Ho := hid ho; clear ho
  by_cases h0 : (FloatKind.f32.format.order x 0 != some Ordering.eq) = true
  · go_enter Try.func14, Try.ntmps14
    go_wp2_with (go_at_call 22; refine (l01Bits_any _ _ hx).mono ?_; rintro e w' ⟨rfl, n, rfl⟩)
    go_ret
    exact ⟨ret_bool (H.out.trans (by unfold subn; rw [Ho.out, h0]; rfl)), _, rfl⟩
  · have h0' : (FloatKind.f32.format.order x 0 != some Ordering.eq) = false := by simpa using h0
    clear h0
    go_enter Try.func14, Try.ntmps14
    go_wp2_with fail
    go_ret
    exact ⟨ret_bool (by unfold subn; rw [Ho.out, h0']; rfl), 0, rfl⟩
theorem implIsSubnormal_any (x : Nat) (w : World) (hx : x < 4294967296) : Calls Try.prog 15 #[.float .f32 x] w (Ret (.bool (subn (val .f32 x))) w) := by
  have hs := subn_abs x
  have H := hid hs; clear hs
  have ho := ord_val .f32 x 0
  have Ho := hid ho; clear ho
  by_cases h0 : (FloatKind.f32.format.order x 0 != some Ordering.eq) = true
  · go_enter Try.func15, Try.ntmps15
    go_wp2_with (go_at_call 23; refine (abs_any _ _ hx).mono ?_; rintro e w' ⟨rfl, n, rfl⟩)
    go_ret
    exact ⟨ret_bool (H.out.trans (by unfold subn; rw [Ho.out, h0]; rfl)), _, rfl⟩
  · have h0' : (FloatKind.f32.format.order x 0 != some Ordering.eq) = false := by simpa using h0
    clear h0
    go_enter Try.func15, Try.ntmps15
    go_wp2_with fail
    go_ret
    exact ⟨ret_bool (by unfold subn; rw [Ho.out, h0']; rfl), 0, rfl⟩
theorem specBitsOf_any (x : Nat) (w : World) (hx : x < 4294967296) : Calls Try.prog 16 #[.float .f32 x] w (Ret (.int .i64 (bitsV (val .f32 x))) w) := by
  go_enter Try.func16, Try.ntmps16
  go_wp2_with (go_at_call 22; refine (l01Bits_any _ _ hx).mono ?_; rintro e w' ⟨rfl, n, rfl⟩)
  go_ret
  exact ⟨rfl, _, rfl⟩
theorem implBitsOf_any (x : Nat) (w : World) (hx : x < 4294967296) : Calls Try.prog 17 #[.float .f32 x] w (Ret (.int .i64 (bitsV (val .f32 x))) w) := by
  cases hv : val .f32 x with
  | none =>
    have h1 : (val .f32 x).isNone = true := by rw [hv]; rfl
    clear hv
    go_enter Try.func17, Try.ntmps17
    go_wp2_with (go_at_call 24; refine (isNaN_any _ _).mono ?_; rintro e w' ⟨rfl, n, rfl⟩)
    all_goals (go_ret; exact ⟨rfl, _, rfl⟩)
  | some b =>
    obtain rfl := (val_some hv).1
    have h1 : (val .f32 b).isNone = false := by rw [hv]; rfl
    clear hv
    have hx' : (b : Int) < 4294967296 := by omega
    go_enter Try.func17, Try.ntmps17
    go_wp2_with (go_at_call 24; refine (isNaN_any _ _).mono ?_; rintro e w' ⟨rfl, n, rfl⟩)
    all_goals (go_ret; exact ⟨rfl, _, rfl⟩)
theorem l01Same_any (x y : Nat) (w : World) (hx : x < 4294967296) (hy : y < 4294967296) : Calls Try.prog 26 #[.float .f32 x, .float .f32 y] w (Ret (.bool (bitsV (val .f32 x) == bitsV (val .f32 y))) w) := by
  go_enter Try.func26, Try.ntmps26
  go_wp2_with fail
  refine (l01Bits_any _ _ hx).mono ?_
  rintro e w' ⟨rfl, n, rfl⟩
  go_wp2_with fail
  refine (l01Bits_any _ _ hy).mono ?_
  rintro e w' ⟨rfl, n, rfl⟩
  go_wp2_with fail
  go_ret
  exact ⟨rfl, _, rfl⟩
theorem specSameNumber_any (x y : Nat) (w : World) (hx : x < 4294967296) (hy : y < 4294967296) : Calls Try.prog 18 #[.float .f32 x, .float .f32 y] w (Ret (.bool (bitsV (val .f32 x) == bitsV (val .f32 y))) w) := by
  go_enter Try.func18, Try.ntmps18
  go_wp2_with (go_at_call 26; refine (l01Same_any _ _ _ hx hy).mono ?_; rintro e w' ⟨rfl, n, rfl⟩)
  go_ret
  exact ⟨rfl, _, rfl⟩
theorem implSameNumber_any (x y : Nat) (w : World) (hx : x < 4294967296) (hy : y < 4294967296) : Calls Try.prog 19 #[.float .f32 x, .float .f32 y] w (Ret (.bool (bitsV (val .f32 x) == bitsV (val .f32 y))) w) := by
  have hs := same_bits x y
  have H := hid hs; clear hs
  cases hv : val .f32 x with
  | none =>
    have h1 : (val .f32 x).isNone = true := by rw [hv]; rfl
    rw [hv] at H
    clear hv
    cases hu : val .f32 y with
    | none =>
      have h2 : (val .f32 y).isNone = true := by rw [hu]; rfl
      rw [hu] at H
      clear hu
      go_enter Try.func19, Try.ntmps19
      go_wp2_with (go_at_call 24; refine (isNaN_any _ _).mono ?_; rintro e w' ⟨rfl, n, rfl⟩)
      all_goals (go_ret; exact ⟨rfl, _, rfl⟩)
    | some c =>
      obtain rfl := (val_some hu).1
      have h2 : (val .f32 c).isNone = false := by rw [hu]; rfl
      rw [hu] at H
      clear hu
      go_enter Try.func19, Try.ntmps19
      go_wp2_with (go_at_call 24; refine (isNaN_any _ _).mono ?_; rintro e w' ⟨rfl, n, rfl⟩)
      all_goals (go_ret; exact ⟨ret_bool H.out, _, rfl⟩)
  | some b =>
    obtain rfl := (val_some hv).1
    have h1 : (val .f32 b).isNone = false := by rw [hv]; rfl
    rw [hv] at H
    clear hv
    cases hu : val .f32 y with
    | none =>
      have h2 : (val .f32 y).isNone = true := by rw [hu]; rfl
      rw [hu] at H
      clear hu
      go_enter Try.func19, Try.ntmps19
      go_wp2_with (go_at_call 24; refine (isNaN_any _ _).mono ?_; rintro e w' ⟨rfl, n, rfl⟩)
      all_goals (go_ret; exact ⟨ret_bool H.out, _, rfl⟩)
    | some c =>
      obtain rfl := (val_some hu).1
      have h2 : (val .f32 c).isNone = false := by rw [hu]; rfl
      rw [hu] at H
      clear hu
      go_enter Try.func19, Try.ntmps19
      go_wp2_with (go_at_call 24; refine (isNaN_any _ _).mono ?_; rintro e w' ⟨rfl, n, rfl⟩)
      all_goals (go_ret; exact ⟨ret_bool H.out, _, rfl⟩)
end Go.Proofs.Ytejoikigkipmaaa
