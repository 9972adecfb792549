/-
  Roots and lengths: what both sides come to, and the walks of the laws. Conditions: the bits of each number are those of a float32.
-/
import Derived.Test.YtcclmlabcihdoaaBase
import Derived.Test.YtcclmlabcihdoaaMag
import Derived.Below
namespace Go.Proofs.Ytcclmlabcihdoaa.Fl
open Go
/-- The root of a float32, as both sides tell it. -/
def rootV (v : Option Nat) : Option Nat := cv .f64 .f32 (sqV (cv .f32 .f64 v))
theorem root_fits (x : Nat) : Fits .f64 .f32 (sqV (cv .f32 .f64 (val .f32 x))) := fits_small ((sq_small (widen_small x) (by omega)).mono (by omega))
end Go.Proofs.Ytcclmlabcihdoaa.Fl
namespace Go.Proofs.Ytcclmlabcihdoaa
open Go.RowKit Go.Proofs.Ytcclmlabcihdoaa.Fl

theorem sqrt_eq (x : Nat) : Extern.MathSqrt.sqrt #[.float .f64 x] = (match FloatKind.f64.format.sqrt x with | some r => pure (.float .f64 r) | none => do pure (.float .f64 (← choose (.nanBits .f64 x x)))) := rfl

theorem run_sqrt_some (x r : Nat) (h : sqV (some x) = some r) (w : World) : (callFunc 81 #[.float .f64 x]).run Try.prog w = .ok (.value (.float .f64 r)) w := by
  rw [run_callFunc_extern (e := Extern.MathSqrt.sqrt) Try.func81 (by kernel_rfl) (by kernel_rfl) (by kernel_rfl) (by kernel_rfl)]
  have h' : FloatKind.f64.format.sqrt x = some r := h
  rw [sqrt_eq, h']
  rfl
theorem run_sqrt_none (x : Nat) (h : sqV (some x) = none) (w : World) : (callFunc 81 #[.float .f64 x]).run Try.prog w = .ok (.value (.float .f64 ((Question.nanBits .f64 x x).cut (w.tape w.drawn (.nanBits .f64 x x))))) w.drew := by
  rw [run_callFunc_extern (e := Extern.MathSqrt.sqrt) Try.func81 (by kernel_rfl) (by kernel_rfl) (by kernel_rfl) (by kernel_rfl)]
  have h' : FloatKind.f64.format.sqrt x = none := h
  rw [sqrt_eq, h']
  rfl

theorem sqrt_nan {x : Nat} (h : val .f64 x = none) : sqV (some x) = none := by
  have hn : (FloatKind.f64.decode x).isNaN = true := by
    unfold val at h; split at h
    · assumption
    · cases h
  obtain ⟨s, t, hr⟩ := decode_nan hn
  have hr' : Ieee.double.read x = .nan s t := hr
  simp [sqV, Ieee.Format.sqrt, hr', Ieee.Datum.root]

theorem Sqrt_any (v : Option Nat) (x : Nat) (w : World) (hx : Is .f64 v x) : Calls Try.prog 53 #[.float .f64 x] w (RetF .f64 (sqV v) w) := by
  cases hs : sqV (some x) with
  | some r =>
    have hrun := run_sqrt_some x r hs
    have hv : v = some x := by
      cases v with
      | none => rw [sqrt_nan hx] at hs; cases hs
      | some b => rw [hx.some_eq]
    subst hv
    have hr : Is .f64 (sqV (some x)) r := by rw [hs]; exact val_of_not_nan (map_write_not_nan (fun d hd => root_not_nan hd) (show ((Ieee.double.read x).root (52 + 2)).map Ieee.double.write = some r from hs))
    have Hr := hid hr
    clear hs hr hx
    go_enter Try.func53, Try.ntmps53
    go_wp2_with fail
    go_ret
    exact ⟨_, Hr.out, rfl, 0, rfl⟩
  | none =>
    have hrun := run_sqrt_none x hs
    have hr : ∀ t, Is .f64 (sqV v) ((Question.nanBits .f64 x x).cut t) := by
      intro t
      have : sqV v = none := by
        cases v with
        | none => rfl
        | some b => rw [← hx.some_eq]; exact hs
      rw [this]
      exact val_of_nan (cut_nan .f64 _ (.inl ⟨x, x, rfl⟩) t)
    have Hr := hid hr
    clear hs hr hx
    go_enter Try.func53, Try.ntmps53
    go_wp2_with fail
    go_ret
    exact ⟨_, Hr.out _, rfl, 1, rfl⟩

theorem l01Narrow_any (v : Option Nat) (x : Nat) (w : World) (hx : Is .f64 v x) (hf : Fits .f64 .f32 v) : Calls Try.prog 80 #[.float .f64 x] w (RetF .f32 (cv .f64 .f32 v) w) := by
  go_enter Try.func80, Try.ntmps80
  go_wp2_with (refine wpList_cv _ rfl _ _ _ rfl .f64 .f32 _ rfl (by rw [Try.underlying26]; rfl) Try.underlying22 hx hf ?_; intro r n hr)
  go_ret
  exact ⟨_, ‹_›, rfl, _, rfl⟩

theorem l01Sqrt_any (v : Option Nat) (x : Nat) (w : World) (hx : Is .f32 v x) : Calls Try.prog 52 #[.float .f32 x] w (RetF .f32 (rootV v) w) := by
  obtain rfl : v = val .f32 x := hx.symm
  go_enter Try.func52, Try.ntmps52
  go_wp2_with (first | (refine wpList_cv _ rfl _ _ _ rfl .f32 .f64 _ rfl (by rw [Try.underlying22]; rfl) Try.underlying26 (by exact rfl) (fits_widen _) ?_; intro r n hr) | (go_at_call 53; refine (Sqrt_any _ _ _ (by assumption)).mono ?_; rintro e w' ⟨r, hr, rfl, n, rfl⟩) | (go_at_call 80; refine (l01Narrow_any _ _ _ (by assumption) (root_fits x)).mono ?_; rintro e w' ⟨r, hr, rfl, n, rfl⟩))
  go_ret
  exact ⟨_, ‹_›, rfl, _, rfl⟩

theorem specRoot_any (v : Option Nat) (x : Nat) (w : World) (hx : Is .f32 v x) : Calls Try.prog 16 #[.float .f32 x] w (RetF .f32 (rootV v) w) := by
  go_enter Try.func16, Try.ntmps16
  go_wp2_with (go_at_call 52; refine (l01Sqrt_any _ _ _ hx).mono ?_; rintro e w' ⟨r, hr, rfl, n, rfl⟩)
  go_ret
  exact ⟨_, ‹_›, rfl, _, rfl⟩
theorem implRoot_any (v : Option Nat) (x : Nat) (w : World) (hx : Is .f32 v x) : Calls Try.prog 17 #[.float .f32 x] w (RetF .f32 (rootV v) w) := by
  obtain rfl : v = val .f32 x := hx.symm
  go_enter Try.func17, Try.ntmps17
  go_wp2_with (first | (refine wpList_cv _ rfl _ _ _ rfl .f32 .f64 _ rfl (by rw [Try.underlying22]; rfl) Try.underlying26 (by exact rfl) (fits_widen _) ?_; intro r n hr) | (refine wpList_cv _ rfl _ _ _ rfl .f64 .f32 _ rfl (by rw [Try.underlying26]; rfl) Try.underlying22 (by assumption) (root_fits x) ?_; intro r n hr) | (go_at_call 53; refine (Sqrt_any _ _ _ (by assumption)).mono ?_; rintro e w' ⟨r, hr, rfl, n, rfl⟩))
  go_ret
  exact ⟨_, ‹_›, rfl, _, rfl⟩
theorem FnExactRootNumber_walk (x : Nat) (w : World) (_hx : x < 4294967296) : Calls Try.prog 4 #[.float .f32 x] w (Yes w) := by
  clear _hx
  go_enter Try.func4, Try.ntmps4
  go_wp2_with (first | (go_at_call 16; refine (specRoot_any _ _ _ rfl).mono ?_; rintro e w' ⟨r, hr, rfl, m, rfl⟩) | (go_at_call 17; refine (implRoot_any _ _ _ rfl).mono ?_; rintro e w' ⟨r, hr, rfl, m, rfl⟩) | (refine wpList_cv _ rfl _ _ _ rfl .f32 .f64 _ rfl (by rw [Try.underlying22]; rfl) Try.underlying26 (by first | assumption | exact rfl) (fits_widen _) ?_; intro r n hr) | (go_at_call 15; refine (same_any _ _ _ _ (by assumption) (by assumption)).mono ?_; rintro e w' ⟨rfl, n, rfl⟩))
  all_goals (go_ret; exact ⟨rfl, below_draws _ _⟩)
end Go.Proofs.Ytcclmlabcihdoaa
