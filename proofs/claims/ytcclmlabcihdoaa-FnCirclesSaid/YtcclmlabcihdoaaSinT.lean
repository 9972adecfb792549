/-
  Sines of turns: the reference's side, and the law. Conditions: the bits are those of a float32.
-/
import Derived.Test.YtcclmlabcihdoaaSin
import Derived.Test.YtcclmlabcihdoaaRoot
import Derived.Below
namespace Go.Proofs.Ytcclmlabcihdoaa.Fl
open Go

theorem c52_read : Ieee.double.read 4841369599423283200 = .number false (2 ^ 52) 0 := by decide +kernel
theorem n52_read : Ieee.double.read 14064741636278059008 = .number true (2 ^ 52) 0 := by decide +kernel
theorem mg52 : mg (2 ^ 52) 0 = mg 1 52 := by rw [mg_pow 52 0 (by omega)]; unfold mg; rw [Nat.one_mul]; congr 1

theorem lt_compare {a b : Int} (h : a < b) : compare a b = .lt := by simp [compare, compareOfLessAndEq, h]
theorem gt_compare {a b : Int} (h : b < a) : compare a b = .gt := by
  have h1 : ¬ a < b := by omega
  have h2 : ¬ a = b := by omega
  simp [compare, compareOfLessAndEq, h1, h2]
theorem eq_compare {a b : Int} (h : a = b) : compare a b = .eq := by simp [compare, compareOfLessAndEq, h]

/-- A middling number against the bounds. -/
theorem mid_order {x : Nat} (h : Mid x) : FloatKind.f64.format.order x 4841369599423283200 = some .lt ∧ FloatKind.f64.format.order x 14064741636278059008 = some .gt := by
  obtain ⟨s, m, p, hr, hlt⟩ := h
  rw [← mg52] at hlt
  constructor
  · refine (order_num hr c52_read).trans ?_
    rw [lt_compare]
    unfold sv
    cases s
    · simp only [Bool.false_eq_true, if_false]; omega
    · simp only [Bool.false_eq_true, if_false, if_true]; omega
  · refine (order_num hr n52_read).trans ?_
    rw [gt_compare]
    unfold sv
    cases s
    · simp only [Bool.false_eq_true, if_false, if_true]; omega
    · simp only [if_true]; omega

/-- A number that is not middling against the bounds. -/
theorem big_order {x : Nat} {s : Bool} {m : Nat} {p : Int} (hr : Ieee.double.read x = .number s m p) (h : mg 1 52 ≤ mg m p) :
    FloatKind.f64.format.order x 4841369599423283200 = some .gt ∨ FloatKind.f64.format.order x 4841369599423283200 = some .eq ∨
    (FloatKind.f64.format.order x 4841369599423283200 = some .lt ∧ (FloatKind.f64.format.order x 14064741636278059008 = some .lt ∨ FloatKind.f64.format.order x 14064741636278059008 = some .eq)) := by
  rw [← mg52] at h
  have e1 : FloatKind.f64.format.order x 4841369599423283200 = _ := order_num hr c52_read
  have e2 : FloatKind.f64.format.order x 14064741636278059008 = _ := order_num hr n52_read
  have hpos : 0 < mg (2 ^ 52) 0 := Nat.mul_pos (by decide) (Nat.two_pow_pos _)
  cases s
  · have e3 : sv false (mg m p) = mg m p := rfl
    have e4 : sv false (mg (2 ^ 52) 0) = mg (2 ^ 52) 0 := rfl
    rw [e3, e4] at e1
    rcases Nat.lt_or_ge (mg (2 ^ 52) 0) (mg m p) with h1 | h1
    · left; rw [e1, gt_compare (by omega)]
    · right; left; rw [e1, eq_compare (by omega)]
  · have e3 : sv true (mg m p) = -(mg m p : Int) := rfl
    have e4 : sv true (mg (2 ^ 52) 0) = -(mg (2 ^ 52) 0 : Int) := rfl
    have e5 : sv false (mg (2 ^ 52) 0) = mg (2 ^ 52) 0 := rfl
    rw [e3, e4] at e2
    rw [e3, e5] at e1
    right; right
    refine ⟨by rw [e1, lt_compare (by omega)], ?_⟩
    rcases Nat.lt_or_ge (mg (2 ^ 52) 0) (mg m p) with h1 | h1
    · left; rw [e2, lt_compare (by omega)]
    · right; rw [e2, eq_compare (by omega)]

theorem abs_read {x : Nat} {s : Bool} {m : Nat} {p : Int} (hr : Ieee.double.read x = .number s m p) : Ieee.double.read (x % 9223372036854775808) = .number false m p := by
  obtain ⟨c1, c2, c3, c4, c5, c6, c7, c8, c9, c10⟩ := bare
  unfold Ieee.Format.read at hr ⊢
  simp only [c5] at hr ⊢
  have e1 : x % 9223372036854775808 % 9223372036854775808 = x % 9223372036854775808 := Nat.mod_mod _ _
  have e2 : x % 9223372036854775808 / 9223372036854775808 = 0 := Nat.div_eq_of_lt (Nat.mod_lt _ (by omega))
  simp only [e1, e2] at hr ⊢
  split at hr
  · rename_i h1
    cases hr
    rw [if_pos h1]; rfl
  · rename_i h1
    split at hr
    · rename_i h2
      cases hr
      rw [if_neg h1, if_pos h2]; rfl
    · split at hr <;> cases hr

theorem abs_order {x : Nat} {s : Bool} {m : Nat} {p : Int} (hr : Ieee.double.read x = .number s m p) :
    (mg 1 52 ≤ mg m p → FloatKind.f64.format.order (x % 9223372036854775808) 4841369599423283200 = some .gt ∨ FloatKind.f64.format.order (x % 9223372036854775808) 4841369599423283200 = some .eq) ∧
    (mg m p < mg 1 52 → FloatKind.f64.format.order (x % 9223372036854775808) 4841369599423283200 = some .lt) := by
  rw [← mg52]
  have e1 : FloatKind.f64.format.order (x % 9223372036854775808) 4841369599423283200 = _ := order_num (abs_read hr) c52_read
  have e3 : sv false (mg m p) = mg m p := rfl
  have e4 : sv false (mg (2 ^ 52) 0) = mg (2 ^ 52) 0 := rfl
  rw [e3, e4] at e1
  refine ⟨fun h => ?_, fun h => by rw [e1, lt_compare (by omega)]⟩
  rcases Nat.lt_or_ge (mg (2 ^ 52) 0) (mg m p) with h1 | h1
  · left; rw [e1, gt_compare (by omega)]
  · right; rw [e1, eq_compare (by omega)]

theorem andNot_top64 (x : Nat) (hx : x < 18446744073709551616) : (bits .andNot .u64 (x : Int) 9223372036854775808).toNat = x % 9223372036854775808 := by
  have h := u64_andNot_nat x 9223372036854775808 hx (by decide)
  have e : x &&& (18446744073709551615 - 9223372036854775808) = x % 9223372036854775808 := Nat.and_two_pow_sub_one_eq_mod x 63
  rw [e] at h
  rw [show (9223372036854775808 : Int) = ((9223372036854775808 : Nat) : Int) from rfl, h, Int.toNat_natCast]

/-- A float32 number, widened, by its bits. -/
theorem widen_bits {x : Nat} {s : Bool} {m : Nat} {p : Int} (h : Ieee.single.read x = .number s m p) :
    ∃ y m' p', floatToFloatBits .f32 x .f64 = some y ∧ cv .f32 .f64 (val .f32 x) = some y ∧ y < 2 ^ 64 ∧ Ieee.double.read y = .number s m' p' ∧ mg m' p' = mg m p := by
  obtain ⟨m', p', ⟨y, hy, hr⟩, he, _⟩ := widen_num h
  have hv : val .f32 x = some x := by
    unfold val
    have : (FloatKind.f32.decode x).isNaN = false := by
      show (Ieee.single.read x).isNaN = false
      rw [h]; rfl
    rw [this]; rfl
  have hc : floatToFloatBits .f32 x .f64 = some y := by rw [hv] at hy; exact hy
  refine ⟨y, m', p', hc, hy, ?_, hr, he⟩
  unfold floatToFloatBits at hc
  rw [if_neg (by decide)] at hc
  have h' : FloatKind.f32.decode x = .number s m p := h
  rw [h'] at hc
  simp only at hc
  split at hc
  · cases hc
  · cases hc; exact write_lt64 _

/-- What is no number takes itself off to a NaN. -/
theorem not_num {k : FloatKind} {x : Nat} (h : ∀ s m p, k.format.read x ≠ .number s m p) : ar .sub k (val k x) (val k x) = none := by
  rw [ar_val]
  show ((k.format.read x).sum (k.format.read x).opposite).map k.format.write = none
  cases hd : k.format.read x with
  | number s m p => exact absurd hd (h s m p)
  | infinity s => cases s <;> rfl
  | nan s t => rfl
theorem not_num_fin {x : Nat} (h : ∀ s m p, Ieee.single.read x ≠ .number s m p) : fin (val .f32 x) = false := by
  unfold fin
  rw [not_num (k := .f32) h]; rfl
theorem num_fin {x : Nat} {s : Bool} {m : Nat} {p : Int} (h : Ieee.single.read x = .number s m p) : fin (val .f32 x) = true := by
  have hv : ar .sub .f32 (val .f32 x) (val .f32 x) = some 0 := by
    rw [ar_val]
    show ((Ieee.single.read x).sum (Ieee.single.read x).opposite).map Ieee.single.write = some 0
    rw [h]
    show some (Ieee.single.write (.number (if Ieee.signed s m (p - min p p).toNat + Ieee.signed (!s) m (p - min p p).toNat = 0 then s && !s else _) (Ieee.signed s m (p - min p p).toNat + Ieee.signed (!s) m (p - min p p).toNat).natAbs (min p p))) = _
    have e : Ieee.signed s m (p - min p p).toNat + Ieee.signed (!s) m (p - min p p).toNat = 0 := by
      unfold Ieee.signed
      cases s <;> simp <;> omega
    rw [e, if_pos rfl]
    have e2 : (s && !s) = false := by cases s <;> rfl
    rw [e2]
    show some (Ieee.single.nearest false 0 _) = _
    simp [Ieee.Format.nearest, Ieee.Format.word]
  unfold fin
  rw [hv]
  decide +kernel
/-- Widened, it is no number either. -/
theorem not_num_wide {x : Nat} (h : ∀ s m p, Ieee.single.read x ≠ .number s m p) {y : Nat} (hy : Is .f64 (cv .f32 .f64 (val .f32 x)) y) : ar .sub .f64 (val .f64 y) (val .f64 y) = none := by
  rw [show val .f64 y = cv .f32 .f64 (val .f32 x) from hy]
  cases hd : Ieee.single.read x with
  | number s m p => exact absurd hd (h s m p)
  | infinity s =>
    have hv : val .f32 x = some x := by
      unfold val
      have : (FloatKind.f32.decode x).isNaN = false := by
        show (Ieee.single.read x).isNaN = false
        rw [hd]; rfl
      rw [this]; rfl
    have hc : cv .f32 .f64 (val .f32 x) = some (Ieee.double.write (.infinity s)) := by
      rw [hv]
      show floatToFloatBits .f32 x .f64 = _
      unfold floatToFloatBits
      rw [if_neg (by decide)]
      have h' : FloatKind.f32.decode x = .infinity s := hd
      rw [h']; rfl
    rw [hc]
    cases s <;> decide +kernel
  | nan s t =>
    have hv : val .f32 x = none := by
      unfold val
      have : (FloatKind.f32.decode x).isNaN = true := by
        show (Ieee.single.read x).isNaN = true
        rw [hd]; rfl
      rw [this]; rfl
    rw [hv]; rfl
theorem nan_const : Is .f64 none 9221120237041090561 := by
  show val .f64 9221120237041090561 = none
  decide +kernel
theorem nan_order {r c : Nat} (h : Is .f64 none r) : FloatKind.f64.format.order r c = none := by rw [h.order]; rfl
theorem none_fits : Fits .f64 .f32 none := fun _ h => by cases h
end Go.Proofs.Ytcclmlabcihdoaa.Fl
namespace Go.Proofs.Ytcclmlabcihdoaa
open Go.RowKit Go.Proofs.Ytcclmlabcihdoaa.Fl

@[go_sem] theorem run_f64bits (x : Nat) (w : World) : (callFunc 86 #[.float .f64 x]).run Try.prog w = .ok (.value (.int .u64 x)) w := by
  rw [run_callFunc_extern (e := Extern.MathFloatBits.float64bits) Try.func86 (by kernel_rfl) (by kernel_rfl) (by kernel_rfl) (by kernel_rfl)]
  rfl
@[go_sem] theorem run_f64from (n : Int) (w : World) : (callFunc 83 #[.int .u64 n]).run Try.prog w = .ok (.value (.float .f64 n.toNat)) w := by
  rw [run_callFunc_extern (e := Extern.MathFloatBits.float64frombits) Try.func83 (by kernel_rfl) (by kernel_rfl) (by kernel_rfl) (by kernel_rfl)]
  rfl

theorem NaN_any (w : World) : Calls Try.prog 74 #[] w (Rf .f64 9221120237041090561 w) := by
  go_enter Try.func74, Try.ntmps74
  go_wp2_with fail
  go_ret
  exact ⟨rfl, rfl⟩

theorem nan_any (w : World) : Calls Try.prog 56 #[] w (RetF .f32 none w) := by
  have hn := nan_const
  go_enter Try.func56, Try.ntmps56
  go_wp2_with (first | (go_at_call 74; refine (NaN_any _).mono ?_; rintro e w' ⟨rfl, rfl⟩) | (refine wpList_cv _ rfl _ _ _ rfl .f64 .f32 _ rfl (by rw [Try.underlying26]; rfl) Try.underlying22 hn none_fits ?_; intro r n hr))
  go_ret
  exact ⟨_, ‹_›, rfl, _, rfl⟩

theorem Abs_any (x : Nat) (w : World) (hx : x < 18446744073709551616) : Calls Try.prog 63 #[.float .f64 x] w (Rf .f64 (x % 9223372036854775808) w) := by
  have H := hid (andNot_top64 x hx)
  go_enter Try.func63, Try.ntmps63
  go_wp2_with fail
  go_ret
  exact ⟨congrArg (fun b => Ending.returned (.float .f64 b)) H.out, rfl⟩

set_option maxHeartbeats 1000000 in
theorem wide_walk (x i f0 f g b z u up res : Nat) (whI : Int) (w : World)
    (t0 : floatBits .sub .f64 x x = some 0) (o1 : FloatKind.f64.format.order x 4841369599423283200 = some .lt) (o2 : FloatKind.f64.format.order x 14064741636278059008 = some .gt)
    (ci : floatToIntVal .f64 x .i64 = some whI) (cf : floatOfInt .f64 whI = i) (s0 : floatBits .sub .f64 x i = some f0)
    (H0 : ((FloatKind.f64.format.order f0 0 == some .lt) = true ∧ floatBits .add .f64 f0 oneF = some f) ∨ ((FloatKind.f64.format.order f0 0 == some .lt) = false ∧ f = f0))
    (H1 : (FloatKind.f64.format.order f halfF = some .gt ∧ floatBits .sub .f64 f halfF = some g) ∨ (FloatKind.f64.format.order f halfF = some .eq ∧ floatBits .sub .f64 f halfF = some g) ∨ (FloatKind.f64.format.order f halfF = some .lt ∧ g = f))
    (H2 : ((FloatKind.f64.format.order g quartF == some .gt) = true ∧ floatBits .sub .f64 halfF g = some b) ∨ ((FloatKind.f64.format.order g quartF == some .gt) = false ∧ b = g))
    (s3 : floatBits .mul .f64 b turnF = some z) (s4 : floatBits .mul .f64 z z = some u) (hu : LeN 12 u) (s6 : floatBits .mul .f64 z (sinP u 8) = some up)
    (Hres : Hid (res = if belowF f = true then Op.negFloat .f64 up else up)) :
    Calls Try.prog 85 #[.float .f64 x] w (Rf .f64 res w) := by
  have q0 := runF (P := Try.prog) 26 t0
  have z0 := zero_order
  have qi : ∀ W : World, (convert 26 2 (.float .f64 x)).run Try.prog W = .ok (.int .i64 whI) W := fun W => run_convert_float_int W 26 2 .f64 .i64 x whI (by rw [Try.underlying26]; rfl) Try.underlying2 ci
  have qf : ∀ W : World, (convert 2 26 (.int .i64 whI)).run Try.prog W = .ok (.float .f64 i) W := fun W => by rw [← cf]; exact run_convert_int_float W 2 26 .i64 .f64 whI (by rw [Try.underlying2]; rfl) Try.underlying26
  have r0 := runF (P := Try.prog) 26 s0
  have r3 := runF (P := Try.prog) 26 s3
  have r4 := runF (P := Try.prog) 26 s4
  have r6 := runF (P := Try.prog) 26 s6
  have HR : Hid (∀ k : Nat, 1 ≤ k → k ≤ 8 → _) := fun k h1 h2 => sin_facts hu (k := k) h1 h2
  clear s3 s4 s6 hu t0 ci cf s0
  rcases H0 with ⟨t0, sa⟩ | ⟨t0, rfl⟩ <;> rcases H1 with ⟨t1, s1⟩ | ⟨t1, s1⟩ | ⟨t1, rfl⟩ <;> rcases H2 with ⟨t2, s2⟩ | ⟨t2, rfl⟩ <;> (try have r1 := runF (P := Try.prog) 26 s1) <;> (try clear s1) <;> (try have r2 := runF (P := Try.prog) 26 s2) <;> (try clear s2) <;> (try have ra := runF (P := Try.prog) 26 sa) <;> (try clear sa)
  all_goals
    have T1 := hid t1
    go_enter Try.func85, Try.ntmps85
    go_wp2_with fail
    go_loop [7, 8] (fun p i => ∃ k : Nat, k ≤ 8 ∧ i = .int .i64 k ∧ p = .float .f64 (sinP u (8 - k))) (fun _ i => (intOf i).toNat)
    case atStart => exact ⟨8, by omega, rfl, rfl⟩
    case round =>
      obtain ⟨k, hk, rfl, rfl⟩ := hrel
      by_cases hlt : 1 ≤ k
      · obtain ⟨f1, f2, f3⟩ := HR.out k hlt hk
        have q1 := runF (P := Try.prog) 26 f1
        have q2 := runF (P := Try.prog) 26 f2
        have q3 := runF (P := Try.prog) 26 f3
        clear f1 f2 f3
        go_wp2_with fail
        exact ⟨⟨k - 1, by omega, by rw [show ((k : Int) - 1) = ((k - 1 : Nat) : Int) from by omega], rfl⟩, by simp only [intOf]; omega⟩
      · have e8 : sinP u (8 - k) = sinP u 8 := by rw [show 8 - k = 8 from by omega]
        have hk0 : (k : Int) < 1 := by omega
        rw [e8]
        clear e8 hlt
        go_wp2_with fail
        go_ret
        exact ⟨by rw [Hres.out]; unfold belowF; rw [show Ieee.double.order _ halfF = _ from T1.out]; rfl, rfl⟩

theorem turn_facts {x : Nat} (hx : x < 2 ^ 64) (h : Mid x) :
    ((FloatKind.f64.format.order (partF x) 0 == some .lt) = true ∧ floatBits .add .f64 (partF x) oneF = some (partN x)) ∨ ((FloatKind.f64.format.order (partF x) 0 == some .lt) = false ∧ partN x = partF x) := by
  have e : partN x = if (FloatKind.f64.format.order (partF x) 0 == some .lt) = true then fb .add (partF x) oneF else partF x := rfl
  cases hl : (FloatKind.f64.format.order (partF x) 0 == some .lt) with
  | true => exact .inl ⟨rfl, by rw [e, if_pos hl]; exact (part_add hx h).1⟩
  | false => exact .inr ⟨rfl, by rw [e, if_neg (by rw [hl]; decide)]⟩

/-- The reference's sine of a middling number. -/
theorem wide_mid (x : Nat) (w : World) (hx : x < 2 ^ 64) (h : Mid x) : Calls Try.prog 85 #[.float .f64 x] w (Rf .f64 (sineN x) w) := by
  obtain ⟨s1, s2, s3, s4, hu, s6, _⟩ := sine_facts (partN_le hx h)
  obtain ⟨ci, _, h0, h1⟩ := whole_bd hx h
  obtain ⟨s, m, p, hr⟩ := mid_num h
  obtain ⟨o1, o2⟩ := mid_order h
  refine wide_walk x _ _ _ _ _ _ _ _ _ _ w (sub_self hr) o1 o2 ci rfl ?_ (turn_facts hx h) (fold_facts (partN_le hx h) s1) (back_facts _ s2) s3 s4 hu s6 rfl
  unfold partF
  by_cases hz : whl x = 0
  · rw [if_pos hz]; exact (h0 hz).1
  · rw [if_neg hz, (h1 hz).1]; exact (h1 hz).2.1

theorem wide_big (x : Nat) (w : World) {s : Bool} {m : Nat} {p : Int} (hr : Ieee.double.read x = .number s m p) (h : mg 1 52 ≤ mg m p) : Calls Try.prog 85 #[.float .f64 x] w (Rf .f64 0 w) := by
  have q0 := runF (P := Try.prog) 26 (sub_self hr)
  have z0 := zero_order
  have hb := big_order hr h
  clear hr h
  rcases hb with o1 | o1 | ⟨o1, o2 | o2⟩
  all_goals
    go_enter Try.func85, Try.ntmps85
    go_wp2_with fail
    go_ret
    exact ⟨rfl, rfl⟩

theorem wide_nan (x : Nat) (w : World) (h : ar .sub .f64 (val .f64 x) (val .f64 x) = none) : Calls Try.prog 85 #[.float .f64 x] w (RetF .f64 none w) := by
  have H := hid h
  clear h
  have hn := hid nan_const
  go_enter Try.func85, Try.ntmps85
  go_wp2_with (first | (refine wpList_ar _ rfl _ _ _ _ _ rfl _ _ _ rfl rfl rfl (show Is .f64 (val .f64 x) x from rfl) (show Is .f64 (val .f64 x) x from rfl) ?_; rw [H.out]; intro r n hr; have ho := nan_order (c := 0) hr; clear hr) | (go_at_call 74; refine (NaN_any _).mono ?_; rintro e w' ⟨rfl, rfl⟩))
  go_ret
  exact ⟨_, hn.out, rfl, _, rfl⟩

theorem fits_sine {y : Nat} (hy : y < 2 ^ 64) (h : Mid y) : Fits .f64 .f32 (some (sineN y)) := Le.fits (sineN_le hy h).out (by decide) (by decide)
theorem fits_zero : Fits .f64 .f32 (some 0) := Le.fits (k := 0) ⟨false, 0, -1074, ⟨0, rfl, by decide +kernel⟩, by rw [mg_zero]; exact Nat.zero_le _⟩ (by decide) (by decide)
theorem zero_is : Is .f32 (cv .f64 .f32 (some 0)) 0 := by
  show val .f32 0 = _
  decide +kernel
theorem zero_is64 : Is .f64 (some 0) 0 := by
  show val .f64 0 = _
  decide +kernel

/-- Both sides of SineTurns come to one value. -/
theorem sine_both (x : Nat) (_hx : x < 4294967296) : ∃ V, (∀ w, Calls Try.prog 62 #[.float .f32 x] w (RetF .f32 V w)) ∧ (∀ w, Calls Try.prog 24 #[.float .f32 x] w (RetF .f32 V w)) := by
  by_cases hnum : ∃ s m p, Ieee.single.read x = .number s m p
  · obtain ⟨s, m, p, hr⟩ := hnum
    have hf := hid (num_fin hr)
    obtain ⟨y, m', p', hc, _, hy, hry, _⟩ := widen_bits hr
    have qc : ∀ W : World, (convert 22 26 (.float .f32 x)).run Try.prog W = .ok (.float .f64 y) W := fun W => run_convert_float_float W 22 26 .f32 .f64 x y (by rw [Try.underlying22]; rfl) Try.underlying26 hc
    obtain ⟨ha1, ha2⟩ := abs_order hry
    have Hy := hid hy
    by_cases hb : mg m' p' < mg 1 52
    · have hm : Mid y := ⟨s, m', p', hry, hb⟩
      have ho := ha2 hb
      have HS := hid (fun W : World => wide_mid y W hy hm)
      have HI := hid (fun W : World => sine_mid y W hy hm)
      have hF := hid (fits_sine hy hm)
      have hi := hid (show Is .f64 (some (sineN y)) (sineN y) from (sineN_le hy hm).val)
      refine ⟨cv .f64 .f32 (some (sineN y)), fun w => ?_, fun w => ?_⟩
      · clear ha1 ha2 ho hc hr hry hb hm hy _hx
        go_enter Try.func62, Try.ntmps62
        go_wp2_with (first | (go_at_call 85; refine (HS.out _).mono ?_; rintro e w' ⟨rfl, rfl⟩) | (go_at_call 80; refine (l01Narrow_any _ _ _ hi.out hF.out).mono ?_; rintro e w' ⟨r, hr, rfl, n, rfl⟩))
        go_ret
        exact ⟨_, ‹_›, rfl, _, rfl⟩
      · clear ha1 ha2 hc hr hry hb hm hy _hx
        go_enter Try.func24, Try.ntmps24
        go_wp2_with (first | (go_at_call 58; refine (implIsFinite_any _ _).mono ?_; rw [hf.out]; rintro e w' ⟨rfl, n, rfl⟩) | (go_at_call 63; refine (Abs_any _ _ Hy.out).mono ?_; rintro e w' ⟨rfl, rfl⟩) | (go_at_call 64; refine (HI.out _).mono ?_; rintro e w' ⟨rfl, rfl⟩) | (refine wpList_cv _ rfl _ _ _ rfl .f64 .f32 _ rfl (by rw [Try.underlying26]; rfl) Try.underlying22 hi.out hF.out ?_; intro r n hr))
        go_ret
        exact ⟨_, ‹_›, rfl, _, rfl⟩
    · have hb' : mg 1 52 ≤ mg m' p' := by omega
      have HS := hid (fun W : World => wide_big y W hry hb')
      have hi := hid zero_is64
      have hF := hid fits_zero
      have hz := hid zero_is
      refine ⟨cv .f64 .f32 (some 0), fun w => ?_, fun w => ?_⟩
      · clear ha1 ha2 hc hr hry hb hb' hy _hx
        go_enter Try.func62, Try.ntmps62
        go_wp2_with (first | (go_at_call 85; refine (HS.out _).mono ?_; rintro e w' ⟨rfl, rfl⟩) | (go_at_call 80; refine (l01Narrow_any _ _ _ hi.out hF.out).mono ?_; rintro e w' ⟨r, hr, rfl, n, rfl⟩))
        go_ret
        exact ⟨_, ‹_›, rfl, _, rfl⟩
      · have ho := ha1 hb'
        clear ha1 ha2 hc hr hry hb hb' hy _hx
        rcases ho with ho | ho
        all_goals
          go_enter Try.func24, Try.ntmps24
          go_wp2_with (first | (go_at_call 58; refine (implIsFinite_any _ _).mono ?_; rw [hf.out]; rintro e w' ⟨rfl, n, rfl⟩) | (go_at_call 63; refine (Abs_any _ _ Hy.out).mono ?_; rintro e w' ⟨rfl, rfl⟩))
          go_ret
          exact ⟨_, hz.out, rfl, _, rfl⟩
  · have hn : ∀ s m p, Ieee.single.read x ≠ .number s m p := fun s m p h => hnum ⟨s, m, p, h⟩
    have hf := hid (not_num_fin hn)
    have HN : Hid (∀ y, Is .f64 (cv .f32 .f64 (val .f32 x)) y → ∀ W : World, Calls Try.prog 85 #[.float .f64 y] W (RetF .f64 none W)) := fun y hy W => wide_nan y W (not_num_wide hn hy)
    clear hnum hn _hx
    refine ⟨none, fun w => ?_, fun w => ?_⟩
    · have hnf := hid none_fits
      go_enter Try.func62, Try.ntmps62
      go_wp2_with (first | (refine wpList_cv _ rfl _ _ _ rfl .f32 .f64 _ rfl (by rw [Try.underlying22]; rfl) Try.underlying26 (show Is .f32 (val .f32 x) x from rfl) (fits_widen _) ?_; intro y n hy; have HN2 := hid (HN.out y hy); clear hy) | (go_at_call 85; refine (HN2.out _).mono ?_; rintro e w' ⟨r, hr, rfl, n, rfl⟩) | (go_at_call 80; refine (l01Narrow_any _ _ _ (by assumption) hnf.out).mono ?_; rintro e w' ⟨r, hr, rfl, n, rfl⟩))
      go_ret
      exact ⟨_, ‹_›, rfl, _, rfl⟩
    · go_enter Try.func24, Try.ntmps24
      go_wp2_with (first | (go_at_call 58; refine (implIsFinite_any _ _).mono ?_; rw [hf.out]; rintro e w' ⟨rfl, n, rfl⟩) | (go_at_call 56; refine (nan_any _).mono ?_; rintro e w' ⟨r, hr, rfl, n, rfl⟩))
      go_ret
      exact ⟨_, ‹_›, rfl, _, rfl⟩

theorem specSine_of {x : Nat} {V : Option Nat} (w : World) (H : Hid (∀ w, Calls Try.prog 62 #[.float .f32 x] w (RetF .f32 V w))) : Calls Try.prog 23 #[.float .f32 x] w (RetF .f32 V w) := by
  go_enter Try.func23, Try.ntmps23
  go_wp2_with (go_at_call 62; refine (H.out _).mono ?_; rintro e w' ⟨r, hr, rfl, n, rfl⟩)
  go_ret
  exact ⟨_, ‹_›, rfl, _, rfl⟩

theorem FnExactSineTurns_walk (x : Nat) (w : World) (hx : x < 4294967296) : Calls Try.prog 7 #[.float .f32 x] w (Yes w) := by
  obtain ⟨V, h1, h2⟩ := sine_both x hx
  have H1 : Hid (∀ w, Calls Try.prog 23 #[.float .f32 x] w (RetF .f32 V w)) := fun w => specSine_of w h1
  have H2 := hid h2
  clear h1 h2 hx
  go_enter Try.func7, Try.ntmps7
  go_wp2_with (first | (go_at_call 23; refine (H1.out _).mono ?_; rintro e w' ⟨r, hr, rfl, m, rfl⟩) | (go_at_call 24; refine (H2.out _).mono ?_; rintro e w' ⟨r, hr, rfl, m, rfl⟩) | (refine wpList_cv _ rfl _ _ _ rfl .f32 .f64 _ rfl (by rw [Try.underlying22]; rfl) Try.underlying26 (by first | assumption | exact rfl) (fits_widen _) ?_; intro r n hr) | (go_at_call 15; refine (same_any _ _ _ _ (by assumption) (by assumption)).mono ?_; rintro e w' ⟨rfl, n, rfl⟩))
  all_goals (go_ret; exact ⟨rfl, below_draws _ _⟩)
end Go.Proofs.Ytcclmlabcihdoaa
