/-
  Phasors: turns that are great or no number, and the law. Conditions: the bits are those of a float64.
-/
import Derived.Test.YtcclmlabcihdoaaPha
import Derived.Below
namespace Go.Proofs.Ytcclmlabcihdoaa
open Go.RowKit Go.Proofs.Ytcclmlabcihdoaa.Fl

theorem implPhasor_big (x : Nat) (w : World) (hx : x < 2 ^ 64) {s : Bool} {m : Nat} {p : Int} (hr : Ieee.double.read x = .number s m p) (h : mg 1 52 ≤ mg m p) : Calls Try.prog 33 #[.float .f64 x] w (Rc 1065353216 0 w) := by
  have q0 := runF (P := Try.prog) 26 (sub_self hr)
  have z0 := zero_order
  have hb := (abs_order hr).1 h
  have Hx := hid hx
  clear hr h hx
  rcases hb with o1 | o1
  all_goals
    go_enter Try.func33, Try.ntmps33
    go_wp2_with (go_at_call 63; refine (Abs_any _ _ Hx.out).mono ?_; rintro e w' ⟨rfl, rfl⟩)
    go_ret
    exact ⟨rfl, rfl⟩

theorem specPhasor_big (x : Nat) (w : World) {s : Bool} {m : Nat} {p : Int} (hr : Ieee.double.read x = .number s m p) (h : mg 1 52 ≤ mg m p) : Calls Try.prog 70 #[.float .f64 x] w (Rc 1065353216 0 w) := by
  have q0 := runF (P := Try.prog) 26 (sub_self hr)
  have z0 := zero_order
  have hb := big_order hr h
  clear hr h
  rcases hb with o1 | o1 | ⟨o1, o2 | o2⟩
  all_goals
    go_enter Try.func70, Try.ntmps70
    go_wp2_with fail
    go_ret
    exact ⟨rfl, rfl⟩

theorem l01From_any (n : Int) (w : World) (h0 : 0 ≤ n) (h : n < 4294967296) : Calls Try.prog 91 #[.int .i64 n] w (Rf .f32 n.toNat w) := by
  go_enter Try.func91, Try.ntmps91
  go_wp2_with fail
  go_ret
  exact ⟨rfl, rfl⟩

theorem nan_const32 : Is .f32 none 2143289344 := by
  show val .f32 2143289344 = none
  decide +kernel

theorem specPhasor_nan (x : Nat) (w : World) (h : ar .sub .f64 (val .f64 x) (val .f64 x) = none) : Calls Try.prog 70 #[.float .f64 x] w (RetC none none w) := by
  have H := hid h
  clear h
  have hn := hid nan_const32
  go_enter Try.func70, Try.ntmps70
  go_wp2_with (first | (refine wpList_ar _ rfl _ _ _ _ _ rfl _ _ _ rfl rfl rfl (show Is .f64 (val .f64 x) x from rfl) (show Is .f64 (val .f64 x) x from rfl) ?_; rw [H.out]; intro r n hr; have ho := nan_order (c := 0) hr; clear hr) | (go_at_call 91; refine (l01From_any _ _ (by decide) (by decide)).mono ?_; rintro e w' ⟨rfl, rfl⟩))
  go_ret
  exact ⟨_, _, hn.out, hn.out, rfl, _, rfl⟩

theorem implPhasor_nan (x : Nat) (w : World) (h : ar .sub .f64 (val .f64 x) (val .f64 x) = none) : Calls Try.prog 33 #[.float .f64 x] w (RetC none none w) := by
  have H := hid h
  clear h
  go_enter Try.func33, Try.ntmps33
  go_wp2_with (first | (refine wpList_ar _ rfl _ _ _ _ _ rfl _ _ _ rfl rfl rfl (show Is .f64 (val .f64 x) x from rfl) (show Is .f64 (val .f64 x) x from rfl) ?_; rw [H.out]; intro r n hr; have ho := nan_order (c := 0) hr; clear hr) | (go_at_call 56; refine (nan_any _).mono ?_; rintro e w' ⟨r, hr, rfl, n, rfl⟩))
  go_ret
  exact ⟨_, _, by assumption, by assumption, rfl, _, rfl⟩

theorem pha_both (x : Nat) (hx : x < 2 ^ 64) : ∃ U V, (∀ w, Calls Try.prog 70 #[.float .f64 x] w (RetC U V w)) ∧ (∀ w, Calls Try.prog 33 #[.float .f64 x] w (RetC U V w)) := by
  by_cases hnum : ∃ s m p, Ieee.double.read x = .number s m p
  · obtain ⟨s, m, p, hr⟩ := hnum
    by_cases hb : mg m p < mg 1 52
    · have hm : Mid x := ⟨s, m, p, hr, hb⟩
      exact ⟨_, _, fun w => (specPhasor_mid x w hx hm).mono fun _ _ h => RetC.of h, fun w => (implPhasor_mid x w hx hm).mono fun _ _ h => RetC.of h⟩
    · exact ⟨_, _, fun w => (specPhasor_big x w hr (by omega)).mono fun _ _ h => RetC.of h, fun w => (implPhasor_big x w hx hr (by omega)).mono fun _ _ h => RetC.of h⟩
  · have hn := not_num (k := .f64) (x := x) fun s m p h => hnum ⟨s, m, p, h⟩
    exact ⟨none, none, fun w => specPhasor_nan x w hn, fun w => implPhasor_nan x w hn⟩

theorem sameComplex_any (u v : Option Nat) (a b c d : Nat) (w : World) (ha : Is .f64 u a) (hb : Is .f64 v b) (hc : Is .f64 u c) (hd : Is .f64 v d) :
    Calls Try.prog 34 #[.complex .f64 a b, .complex .f64 c d] w (Ret (.bool true) w) := by
  have Ha := hid ha; have Hb := hid hb; have Hc := hid hc; have Hd := hid hd
  clear ha hb hc hd
  go_enter Try.func34, Try.ntmps34
  go_wp2_with fail
  refine (same_any _ _ _ _ Ha.out Hc.out).mono ?_
  rintro e w' ⟨rfl, n, rfl⟩
  go_wp2_with fail
  refine (same_any _ _ _ _ Hb.out Hd.out).mono ?_
  rintro e w' ⟨rfl, n, rfl⟩
  go_wp2_with fail
  go_ret
  exact ⟨rfl, _, rfl⟩

theorem specPhasor_of {x : Nat} {U V : Option Nat} (w : World) (H : Hid (∀ w, Calls Try.prog 70 #[.float .f64 x] w (RetC U V w))) : Calls Try.prog 32 #[.float .f64 x] w (RetC U V w) := by
  go_enter Try.func32, Try.ntmps32
  go_wp2_with (go_at_call 70; refine (H.out _).mono ?_; rintro e w' ⟨a, b, ha, hb, rfl, n, rfl⟩)
  go_ret
  exact ⟨_, _, ‹_›, ‹_›, rfl, _, rfl⟩

theorem FnExactPhasorOf_walk (x : Nat) (w : World) (hx : x < 18446744073709551616) : Calls Try.prog 10 #[.float .f64 x] w (Yes w) := by
  obtain ⟨U, V, h1, h2⟩ := pha_both x hx
  have H1 : Hid (∀ w, Calls Try.prog 32 #[.float .f64 x] w (RetC U V w)) := fun w => specPhasor_of w h1
  have H2 := hid h2
  clear h1 h2 hx
  go_enter Try.func10, Try.ntmps10
  go_wp2_with fail
  refine (H1.out _).mono ?_
  rintro e w' ⟨a, b, ha, hb, rfl, n, rfl⟩
  have Ha := hid ha; have Hb := hid hb; clear ha hb
  go_wp2_with fail
  refine (H2.out _).mono ?_
  rintro e w' ⟨c, d, hc, hd, rfl, n2, rfl⟩
  have Hc := hid hc; have Hd := hid hd; clear hc hd
  go_wp2_with (first | (refine wpList_cvc _ rfl _ _ 22 26 _ rfl .f32 .f64 _ _ rfl (by rw [Try.underlying44]; rfl) Try.underlying47 Try.underlying22 Try.underlying26 Hc.out Hd.out (fits_widen _) (fits_widen _) ?_; intro r1 q1 m1 i1 j1) | (refine wpList_cvc _ rfl _ _ 22 26 _ rfl .f32 .f64 _ _ rfl (by rw [Try.underlying44]; rfl) Try.underlying47 Try.underlying22 Try.underlying26 Ha.out Hb.out (fits_widen _) (fits_widen _) ?_; intro r2 q2 m2 i2 j2) | (go_at_call 34; refine (sameComplex_any _ _ _ _ _ _ _ i1 j1 i2 j2).mono ?_; rintro e w' ⟨rfl, n, rfl⟩))
  all_goals (go_ret; exact ⟨rfl, below_draws _ _⟩)
end Go.Proofs.Ytcclmlabcihdoaa
