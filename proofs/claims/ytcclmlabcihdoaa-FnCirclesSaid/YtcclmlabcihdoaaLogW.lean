/-
  Logarithms: the reference's side, and the law on LogNumber. Conditions: those of each contract; the law's: the bits are those of a float32.
-/
import Derived.Test.YtcclmlabcihdoaaLogT
namespace Go.Proofs.Ytcclmlabcihdoaa.Fl
open Go

theorem atR_bd {y x : Nat} {k : Int} (h : AtR y x k) (hy : 4503599627370496 ≤ y) (hy2 : y < 9218868437227405312) : -2050 ≤ k ∧ k ≤ 2050 := by
  obtain ⟨h1, h2, h3, h4, h5⟩ := h
  omega

/-- A number against nought. -/
theorem order_zero (f : Ieee.Format) {x : Nat} {s : Bool} {m : Nat} {p q : Int} (hx : f.read x = .number s m p) (h0 : f.read 0 = .number false 0 q) :
    f.order x 0 = some (if m = 0 then .eq else if s then .lt else .gt) := by
  unfold Ieee.Format.order
  rw [hx, h0]
  show some (compare (Ieee.signed s m (p - min p q).toNat) (Ieee.signed false 0 (q - min p q).toNat)) = _
  have e0 : Ieee.signed false 0 (q - min p q).toNat = 0 := by unfold Ieee.signed; simp
  rw [e0]
  congr 1
  unfold Ieee.signed
  rw [Nat.shiftLeft_eq]
  have hp := Nat.two_pow_pos (p - min p q).toNat
  by_cases hm : m = 0
  · subst hm
    rw [if_pos rfl]
    cases s <;> simp [compare, compareOfLessAndEq]
  · have : 0 < m * 2 ^ (p - min p q).toNat := Nat.mul_pos (by omega) hp
    rw [if_neg hm]
    cases s
    · simp only [Bool.false_eq_true, if_false]; rw [gt_compare (by omega)]
    · simp only [if_true]; rw [lt_compare (by omega)]
theorem zero_read32 : Ieee.single.read 0 = .number false 0 (-149) := by decide +kernel
theorem zero_read64 : Ieee.double.read 0 = .number false 0 (-1074) := by decide +kernel

theorem inf_word (f : Ieee.Format) {x : Nat} {s : Bool} (hx : x < 2 * f.signWeight) (h : f.read x = .infinity s) : x = f.word s f.infRung := by
  have hw := word_parts f hx
  unfold Ieee.Format.read at h
  simp only at h
  split at h
  · cases h
  · split at h
    · cases h
    · split at h
      · rename_i h1
        cases h
        rw [h1] at hw
        exact hw.symm
      · cases h

theorem val_num32 {x : Nat} {s : Bool} {m : Nat} {p : Int} (h : Ieee.single.read x = .number s m p) : val .f32 x = some x := by
  unfold val
  have : (FloatKind.f32.decode x).isNaN = false := by
    show (Ieee.single.read x).isNaN = false
    rw [h]; rfl
  rw [this]; rfl
theorem val_inf32 {x : Nat} {s : Bool} (h : Ieee.single.read x = .infinity s) : val .f32 x = some x := by
  unfold val
  have : (FloatKind.f32.decode x).isNaN = false := by
    show (Ieee.single.read x).isNaN = false
    rw [h]; rfl
  rw [this]; rfl
theorem val_nan32 {x : Nat} {s : Bool} {t : Nat} (h : Ieee.single.read x = .nan s t) : val .f32 x = none := by
  unfold val
  have : (FloatKind.f32.decode x).isNaN = true := by
    show (Ieee.single.read x).isNaN = true
    rw [h]; rfl
  rw [this]; rfl

/-- A positive float32 number, widened, is a normal number. -/
theorem widen_norm {x : Nat} {m : Nat} {p : Int} (h : Ieee.single.read x = .number false m p) (hm : m ≠ 0) :
    ∃ y, floatToFloatBits .f32 x .f64 = some y ∧ 4503599627370496 ≤ y ∧ y < 9218868437227405312 := by
  obtain ⟨y, m', p', hc, _, hy, hr, he⟩ := widen_bits h
  refine ⟨y, hc, ?_⟩
  obtain ⟨c1, c2, c3, c4, c5, c6, c7, c8, c9, c10⟩ := bare
  obtain ⟨g1, g2, g3, g4⟩ := read_number Ieee.single sgl h
  rw [c7] at g2
  have hlow : 2 ^ ((-149 : Int) + 4000).toNat ≤ mg m p := by
    have : mg 1 p ≤ mg m p := mg_le_same (by omega)
    refine Nat.le_trans ?_ this
    unfold mg
    rw [Nat.one_mul]
    exact Nat.pow_le_pow_right (by omega) (by omega)
  have hr' := hr
  unfold Ieee.Format.read at hr'
  simp only [c4, c5, c6, c8] at hr'
  split at hr'
  · rename_i h1
    exfalso
    obtain ⟨_, e2, e3⟩ := Ieee.Datum.number.inj hr'
    rw [← he, ← e2, ← e3] at hlow
    have h2 := mg_lt (m := y % 9223372036854775808) (a := 52) (p := -1074) (by omega) (by omega)
    have := pow_lt_pow (Nat.lt_of_le_of_lt hlow h2)
    omega
  · rename_i h1
    split at hr'
    · rename_i h2
      have hs : (y / 9223372036854775808 % 2 == 1) = false := (Ieee.Datum.number.inj hr').1
      have : ¬ y / 9223372036854775808 % 2 = 1 := by simpa using hs
      omega
    · split at hr' <;> cases hr'

theorem fits_inf {x : Nat} {s : Bool} (h : Ieee.double.read x = .infinity s) : Fits .f64 .f32 (some x) := by
  intro z hz n m e hd
  cases hz
  have hd' : Ieee.double.read x = .number n m e := hd
  rw [h] at hd'
  cases hd'
theorem inf_read : Ieee.double.read 9218868437227405312 = .infinity false := by decide +kernel
theorem ninf_read : Ieee.double.read 18442240474082181120 = .infinity true := by decide +kernel
theorem inf_is : Is .f64 (some 9218868437227405312) 9218868437227405312 := by
  show val .f64 9218868437227405312 = _
  decide +kernel
theorem ninf_is : Is .f64 (some 18442240474082181120) 18442240474082181120 := by
  show val .f64 18442240474082181120 = _
  decide +kernel
theorem inf_order : FloatKind.f64.format.order 9218868437227405312 9218868437227405312 = some .eq ∧ FloatKind.f64.format.order 9218868437227405312 0 = some .gt ∧ FloatKind.f64.format.order 9218868437227405312 9218868437227405311 = some .gt := by decide +kernel
theorem inf_back : Is .f32 (cv .f64 .f32 (some 9218868437227405312)) 2139095040 := by
  show val .f32 2139095040 = _
  decide +kernel
theorem max_order {y : Nat} (hy2 : y < 9218868437227405312) : FloatKind.f64.format.order y 9218868437227405311 = some .lt ∨ FloatKind.f64.format.order y 9218868437227405311 = some .eq := by
  rcases word_cases hy2 (show 9218868437227405311 < 9218868437227405312 by decide) with ⟨h, _⟩ | ⟨_, h⟩ | ⟨_, h⟩
  · omega
  · exact .inr h
  · exact .inl h
end Go.Proofs.Ytcclmlabcihdoaa.Fl
namespace Go.Proofs.Ytcclmlabcihdoaa
open Go.RowKit Go.Proofs.Ytcclmlabcihdoaa.Fl

theorem Inf_neg (w : World) : Calls Try.prog 57 #[.int .i64 (-1)] w (Rf .f64 18442240474082181120 w) := by
  go_enter Try.func57, Try.ntmps57
  go_wp2_with fail
  go_ret
  exact ⟨rfl, rfl⟩

theorem IsInf_no (y : Nat) (w : World) (hy2 : y < 9218868437227405312) : Calls Try.prog 97 #[.float .f64 y, .int .i64 1] w (fun e w' => e = .returned (.bool false) ∧ w = w') := by
  rcases max_order hy2 with h | h
  all_goals
    clear hy2
    go_enter Try.func97, Try.ntmps97
    go_wp2_with fail
    go_ret
    exact ⟨rfl, rfl⟩
theorem IsInf_yes (w : World) : Calls Try.prog 97 #[.float .f64 9218868437227405312, .int .i64 1] w (fun e w' => e = .returned (.bool true) ∧ w = w') := by
  have h := inf_order.2.2
  go_enter Try.func97, Try.ntmps97
  go_wp2_with fail
  go_ret
  exact ⟨rfl, rfl⟩

theorem logWide_nan (y : Nat) (w : World) (h : val .f64 y = none) : Calls Try.prog 82 #[.float .f64 y] w (Rf .f64 9221120237041090561 w) := by
  have h1 := order_self_nan h
  clear h
  go_enter Try.func82, Try.ntmps82
  go_wp2_with (go_at_call 74; refine (NaN_any _).mono ?_; rintro e w' ⟨rfl, rfl⟩)
  go_ret
  exact ⟨rfl, rfl⟩
theorem logWide_neg (y : Nat) (w : World) (h : FloatKind.f64.format.order y y = some .eq) (h2 : FloatKind.f64.format.order y 0 = some .lt) : Calls Try.prog 82 #[.float .f64 y] w (Rf .f64 9221120237041090561 w) := by
  go_enter Try.func82, Try.ntmps82
  go_wp2_with (go_at_call 74; refine (NaN_any _).mono ?_; rintro e w' ⟨rfl, rfl⟩)
  go_ret
  exact ⟨rfl, rfl⟩
theorem logWide_zero (y : Nat) (w : World) (h : FloatKind.f64.format.order y y = some .eq) (h2 : FloatKind.f64.format.order y 0 = some .eq) : Calls Try.prog 82 #[.float .f64 y] w (Rf .f64 18442240474082181120 w) := by
  go_enter Try.func82, Try.ntmps82
  go_wp2_with (go_at_call 57; refine (Inf_neg _).mono ?_; rintro e w' ⟨rfl, rfl⟩)
  go_ret
  exact ⟨rfl, rfl⟩
theorem logWide_inf (w : World) : Calls Try.prog 82 #[.float .f64 9218868437227405312] w (Rf .f64 9218868437227405312 w) := by
  obtain ⟨h1, h2, _⟩ := inf_order
  go_enter Try.func82, Try.ntmps82
  go_wp2_with (go_at_call 97; refine (IsInf_yes _).mono ?_; rintro e w' ⟨rfl, rfl⟩)
  go_ret
  exact ⟨rfl, rfl⟩

set_option maxHeartbeats 4000000 in
theorem logWide_norm (y : Nat) (w : World) (hy : 4503599627370496 ≤ y) (hy2 : y < 9218868437227405312) : Calls Try.prog 82 #[.float .f64 y] w (Rf .f64 (logN y) w) := by
  obtain ⟨f1, f2, f3, f4, hu, f5, f6, f7, f8, _⟩ := log_facts hy hy2
  have o1 : FloatKind.f64.format.order y y = some .eq := by rw [order_words hy2 hy2, eq_compare rfl]
  have o2 : FloatKind.f64.format.order y 0 = some .gt := by rw [order_words hy2 (by decide), gt_compare (by omega)]
  have r1 := runF (P := Try.prog) 26 f1
  have r2 := runF (P := Try.prog) 26 f2
  have r3 := runF (P := Try.prog) 26 f3
  have r4 := runF (P := Try.prog) 26 f4
  have r5 := runF (P := Try.prog) 26 f5
  have r6 := runF (P := Try.prog) 26 f6
  have r7 := runF (P := Try.prog) 26 f7
  have r8 := runF (P := Try.prog) 26 f8
  unfold flI at r7
  have HU := hid hu
  have HY := hid hy
  have HY2 := hid hy2
  clear f1 f2 f3 f4 f5 f6 f7 f8 hu
  go_enter Try.func82, Try.ntmps82
  go_wp2_with (go_at_call 97; refine (IsInf_no _ _ HY2.out).mono ?_; rintro e w' ⟨rfl, rfl⟩)
  go_loop [0, 3] (fun a b => ∃ (x : Nat) (k : Int), a = .float .f64 x ∧ b = .int .i64 k ∧ -2050 ≤ k ∧ k ≤ 2050 ∧ Hid (AtR y x k)) (fun a _ => measH a)
  case atStart => exact ⟨y, 0, rfl, rfl, by omega, by omega, atR_start hy hy2⟩
  case round =>
    obtain ⟨x, k, rfl, rfl, hk1, hk2, HA⟩ := hrel
    clear hy hy2
    rcases word_cases HA.out.2.2.2.2 (show 4609434218613702656 < 9218868437227405312 by decide) with ⟨hc, t⟩ | ⟨hc, t⟩ | ⟨hc, t⟩
    case inr.inr =>
      have HB : Hid (AtR y x k ∧ x < 4609434218613702656) := ⟨HA.out, hc⟩
      clear hc HA
      go_wp2_with fail
      go_loop [0, 3] (fun a b => ∃ (x : Nat) (k : Int), a = .float .f64 x ∧ b = .int .i64 k ∧ -2050 ≤ k ∧ k ≤ 2050 ∧ Hid (AtR y x k ∧ x < 4609434218613702656)) (fun a _ => measD a)
      case atStart => exact ⟨_, _, rfl, rfl, hk1, hk2, HB⟩
      case round =>
        clear HB hk1 hk2
        obtain ⟨x, k, rfl, rfl, hk1, hk2, HA⟩ := hrel
        rcases word_cases HA.out.1.2.2.2.2 (show 4604930618986332160 < 9218868437227405312 by decide) with ⟨hc, t2⟩ | ⟨hc, t2⟩ | ⟨hc, t2⟩
        case inr.inr =>
          obtain ⟨d1, d2, d3⟩ := dbl_step HA.out.1 hc HY2.out
          have q1 := runF (P := Try.prog) 26 d1
          have D3 := hid d3
          have HC := hid (measD_lt hc)
          have hb := atR_bd d3.1 HY.out HY2.out
          have hb1 := hb.1
          have hb2 := hb.2
          clear d1 d2 d3 hc hb HA
          generalize x + 4503599627370496 = x' at *
          go_wp2_with fail
          exact ⟨⟨_, _, rfl, rfl, hb1, hb2, D3⟩, HC.out⟩
        all_goals
          obtain ⟨e1, e2⟩ := red_of HA.out.1 (by omega) HA.out.2
          subst e1 e2
          clear hc HA
          go_wp2_with fail
          go_loop [6, 7] (fun a b => ∃ (j : Nat) (K : Int), b = .int .i64 K ∧ a = .float .f64 (logQ (uL y) j) ∧ j ≤ 13 ∧ -1 ≤ K ∧ K ≤ 25 ∧ Hid (K = 25 - 2 * (j : Int))) (fun _ b => (intOf b + 1).toNat)
          case atStart => exact ⟨0, 25, rfl, rfl, by omega, by omega, by omega, rfl⟩
          case round =>
            obtain ⟨j, K, rfl, rfl, hj, hK1, hK2, HK⟩ := hrel
            by_cases hlt : j < 13
            · obtain ⟨g1, g2, g3, _⟩ := log_round HU.out hlt (logQ_le HU.out hj)
              rw [← HK.out] at g1 g3
              have q1 := runF (P := Try.prog) 26 g1
              have q2 := runF (P := Try.prog) 26 g2
              have q3 := runF (P := Try.prog) 26 g3
              have hK3 : 1 ≤ K := by have := HK.out; omega
              have HN : Hid (K - 2 = 25 - 2 * ((j + 1 : Nat) : Int)) := by have := HK.out; show _ = _; omega
              clear g1 g2 g3 hK1
              unfold flI at q1 q3
              go_wp2_with fail
              exact ⟨⟨j + 1, K - 2, rfl, rfl, by omega, by omega, by omega, HN⟩, by simp only [intOf]; omega⟩
            · have e8 : logQ (uL y) j = logQ (uL y) 13 := by rw [show j = 13 from by omega]
              have hK3 : K < 1 := by have := HK.out; omega
              rw [e8]
              clear e8 hlt hK1 hK2 hj HK
              go_wp2_with fail
              go_ret
              exact ⟨rfl, rfl⟩
    all_goals
      obtain ⟨d1, d2, d3⟩ := half_step HA.out (by omega) HY.out HY2.out
      have q1 := runF (P := Try.prog) 26 d1
      have D3 := hid d3.1
      have HC := hid (measH_lt (x := x) (by omega))
      have hb := atR_bd d3.1 HY.out HY2.out
      have hb1 := hb.1
      have hb2 := hb.2
      clear d1 d2 d3 hc HA hb
      generalize x - 4503599627370496 = x' at *
      go_wp2_with fail
      exact ⟨⟨_, _, rfl, rfl, hb1, hb2, D3⟩, HC.out⟩

/-- Both sides of LogNumber come to one value. -/
theorem log_both (x : Nat) (hx : x < 4294967296) : ∃ V, (∀ w, Calls Try.prog 54 #[.float .f32 x] w (RetF .f32 V w)) ∧ (∀ w, Calls Try.prog 19 #[.float .f32 x] w (RetF .f32 V w)) := by
  -- the reference's side, where the widened number and its logarithm are known
  have spec : ∀ (y r : Nat) (U : Option Nat), floatToFloatBits .f32 x .f64 = some y → (∀ W : World, Calls Try.prog 82 #[.float .f64 y] W (Rf .f64 r W)) → Is .f64 U r → Fits .f64 .f32 U →
      ∀ w, Calls Try.prog 54 #[.float .f32 x] w (RetF .f32 (cv .f64 .f32 U) w) := by
    intro y r U hc hl hi hf w
    have qc : ∀ W : World, (convert 22 26 (.float .f32 x)).run Try.prog W = .ok (.float .f64 y) W := fun W => run_convert_float_float W 22 26 .f32 .f64 x y (by rw [Try.underlying22]; rfl) Try.underlying26 hc
    have HL := hid hl
    have HI := hid hi
    have HF := hid hf
    clear hc hl hi hf hx
    go_enter Try.func54, Try.ntmps54
    go_wp2_with (first | (go_at_call 82; refine (HL.out _).mono ?_; rintro e w' ⟨rfl, rfl⟩) | (go_at_call 80; refine (l01Narrow_any _ _ _ HI.out HF.out).mono ?_; rintro e w' ⟨r, hr, rfl, n, rfl⟩))
    go_ret
    exact ⟨_, ‹_›, rfl, _, rfl⟩
  have hn0 := hid (not_num_fin (x := x))
  cases hd : Ieee.single.read x with
  | nan s t =>
    have hv := val_nan32 hd
    have h1 : (val .f32 x).isNone = true := by rw [hv]; rfl
    refine ⟨none, fun w => ?_, fun w => ?_⟩
    · have HN : Hid (∀ y, Is .f64 (cv .f32 .f64 (val .f32 x)) y → ∀ W : World, Calls Try.prog 82 #[.float .f64 y] W (Rf .f64 9221120237041090561 W)) := fun y hy W => logWide_nan y W (by rw [show val .f64 y = _ from hy, hv]; rfl)
      have hi := hid nan_const
      have hnf := hid none_fits
      clear hv h1 hd hx spec
      go_enter Try.func54, Try.ntmps54
      go_wp2_with (first | (refine wpList_cv _ rfl _ _ _ rfl .f32 .f64 _ rfl (by rw [Try.underlying22]; rfl) Try.underlying26 (show Is .f32 (val .f32 x) x from rfl) (fits_widen _) ?_; intro y n hy; have HN2 := hid (HN.out y hy); clear hy) | (go_at_call 82; refine (HN2.out _).mono ?_; rintro e w' ⟨rfl, rfl⟩) | (go_at_call 80; refine (l01Narrow_any _ _ _ hi.out hnf.out).mono ?_; rintro e w' ⟨r, hr, rfl, n, rfl⟩))
      go_ret
      exact ⟨_, ‹_›, rfl, _, rfl⟩
    · clear hv hd hx spec
      have H1 := hid h1
      clear h1
      go_enter Try.func19, Try.ntmps19
      go_wp2_with (first | (go_at_call 55; refine (isNaN_any _ _).mono ?_; rw [H1.out]; rintro e w' ⟨rfl, n, rfl⟩) | (go_at_call 56; refine (nan_any _).mono ?_; rintro e w' ⟨r, hr, rfl, n, rfl⟩))
      go_ret
      exact ⟨_, ‹_›, rfl, _, rfl⟩
  | infinity s =>
    have hv := val_inf32 hd
    have H1 : Hid ((val .f32 x).isNone = false) := by show _ = _; rw [hv]; rfl
    have hc : floatToFloatBits .f32 x .f64 = some (Ieee.double.write (.infinity s)) := by
      unfold floatToFloatBits
      rw [if_neg (by decide)]
      have h' : FloatKind.f32.decode x = .infinity s := hd
      rw [h']; rfl
    have hw := inf_word Ieee.single (by rw [bare.2.1]; omega) hd
    cases s with
    | true =>
      have hx2 : x = 4286578688 := by rw [hw]; decide
      subst hx2
      have hl : FloatKind.f32.format.order 4286578688 0 = some .lt := by decide +kernel
      refine ⟨cv .f64 .f32 none, spec _ _ none hc (fun W => logWide_neg _ W (by decide +kernel) (by decide +kernel)) nan_const none_fits, fun w => ?_⟩
      clear spec hd hv hc hw hx
      go_enter Try.func19, Try.ntmps19
      go_wp2_with (first | (go_at_call 55; refine (isNaN_any _ _).mono ?_; rw [H1.out]; rintro e w' ⟨rfl, n, rfl⟩) | (go_at_call 56; refine (nan_any _).mono ?_; rintro e w' ⟨r, hr, rfl, n, rfl⟩))
      go_ret
      exact ⟨_, ‹_›, rfl, _, rfl⟩
    | false =>
      have hx2 : x = 2139095040 := by rw [hw]; decide
      subst hx2
      have hl : FloatKind.f32.format.order 2139095040 0 = some .gt := by decide +kernel
      have hf := hid (not_num_fin (x := 2139095040) (fun s m p h => by rw [hd] at h; cases h))
      have hb := hid inf_back
      refine ⟨cv .f64 .f32 (some 9218868437227405312), spec _ _ _ hc (fun W => logWide_inf W) inf_is (fits_inf inf_read), fun w => ?_⟩
      clear spec hd hv hc hw hx
      go_enter Try.func19, Try.ntmps19
      go_wp2_with (first | (go_at_call 55; refine (isNaN_any _ _).mono ?_; rw [H1.out]; rintro e w' ⟨rfl, n, rfl⟩) | (go_at_call 58; refine (implIsFinite_any _ _).mono ?_; rw [hf.out]; rintro e w' ⟨rfl, n, rfl⟩))
      go_ret
      exact ⟨_, hb.out, rfl, _, rfl⟩
  | number s m p =>
    have hv := val_num32 hd
    have H1 : Hid ((val .f32 x).isNone = false) := by show _ = _; rw [hv]; rfl
    have ho := order_zero Ieee.single hd zero_read32
    obtain ⟨y, m', p', hc, _, hy, hry, he⟩ := widen_bits hd
    have ho2 := order_zero Ieee.double hry zero_read64
    have hself : FloatKind.f64.format.order y y = some .eq := by
      refine (order_num hry hry).trans ?_
      rw [eq_compare rfl]
    have hm0 : m' = 0 ↔ m = 0 := by
      have hp2 : ∀ (a : Nat) (q : Int), mg a q = 0 ↔ a = 0 := by
        intro a q
        unfold mg
        have := Nat.two_pow_pos (q + 4000).toNat
        rw [Nat.mul_eq_zero]
        omega
      rw [← hp2 m' p', he, hp2]
    by_cases hm : m = 0
    · rw [if_pos (hm0.2 hm)] at ho2
      rw [if_pos hm] at ho
      have t0 : FloatKind.f32.format.order x 0 = some .eq := ho
      have hi := hid ninf_is
      have hff := hid (fits_inf ninf_read)
      refine ⟨cv .f64 .f32 (some 18442240474082181120), spec _ _ _ hc (fun W => logWide_zero y W hself ho2) ninf_is (fits_inf ninf_read), fun w => ?_⟩
      clear spec hd hv hc hx ho ho2 hself hry he hm0 hy hm
      go_enter Try.func19, Try.ntmps19
      go_wp2_with (first | (go_at_call 55; refine (isNaN_any _ _).mono ?_; rw [H1.out]; rintro e w' ⟨rfl, n, rfl⟩) | (go_at_call 57; refine (Inf_neg _).mono ?_; rintro e w' ⟨rfl, rfl⟩) | (refine wpList_cv _ rfl _ _ _ rfl .f64 .f32 _ rfl (by rw [Try.underlying26]; rfl) Try.underlying22 hi.out hff.out ?_; intro r n hr))
      go_ret
      exact ⟨_, ‹_›, rfl, _, rfl⟩
    · rw [if_neg (fun h => hm (hm0.1 h))] at ho2
      rw [if_neg hm] at ho
      cases s with
      | true =>
        have t0 : FloatKind.f32.format.order x 0 = some .lt := ho
        refine ⟨cv .f64 .f32 none, spec _ _ none hc (fun W => logWide_neg y W hself ho2) nan_const none_fits, fun w => ?_⟩
        clear spec hd hv hc hx ho ho2 hself hry he hm0 hy hm
        go_enter Try.func19, Try.ntmps19
        go_wp2_with (first | (go_at_call 55; refine (isNaN_any _ _).mono ?_; rw [H1.out]; rintro e w' ⟨rfl, n, rfl⟩) | (go_at_call 56; refine (nan_any _).mono ?_; rintro e w' ⟨r, hr, rfl, n, rfl⟩))
        go_ret
        exact ⟨_, ‹_›, rfl, _, rfl⟩
      | false =>
        have t0 : FloatKind.f32.format.order x 0 = some .gt := ho
        have hf := hid (num_fin hd)
        obtain ⟨y2, hc2, hy1, hy2⟩ := widen_norm hd hm
        have ey : y2 = y := by rw [hc] at hc2; exact (Option.some.inj hc2).symm
        subst ey
        have hle := (log_facts hy1 hy2).2.2.2.2.2.2.2.2.2
        have hi := hid (show Is .f64 (some (logN y2)) (logN y2) from hle.val)
        have hff := hid (hle.out.fits (by decide) (by decide))
        have HL := hid (fun W : World => logOf_norm y2 W hy1 hy2)
        have qc : ∀ W : World, (convert 22 26 (.float .f32 x)).run Try.prog W = .ok (.float .f64 y2) W := fun W => run_convert_float_float W 22 26 .f32 .f64 x y2 (by rw [Try.underlying22]; rfl) Try.underlying26 hc
        refine ⟨cv .f64 .f32 (some (logN y2)), spec _ _ _ hc (fun W => logWide_norm y2 W hy1 hy2) hi.out hff.out, fun w => ?_⟩
        clear spec hd hv hc hx ho ho2 hself hry he hm0 hy hm hc2 hle hy1 hy2
        go_enter Try.func19, Try.ntmps19
        go_wp2_with (first | (go_at_call 55; refine (isNaN_any _ _).mono ?_; rw [H1.out]; rintro e w' ⟨rfl, n, rfl⟩) | (go_at_call 58; refine (implIsFinite_any _ _).mono ?_; rw [hf.out]; rintro e w' ⟨rfl, n, rfl⟩) | (go_at_call 59; refine (HL.out _).mono ?_; rintro e w' ⟨rfl, rfl⟩) | (refine wpList_cv _ rfl _ _ _ rfl .f64 .f32 _ rfl (by rw [Try.underlying26]; rfl) Try.underlying22 hi.out hff.out ?_; intro r n hr))
        go_ret
        exact ⟨_, ‹_›, rfl, _, rfl⟩

theorem specLog_of {x : Nat} {V : Option Nat} (w : World) (H : Hid (∀ w, Calls Try.prog 54 #[.float .f32 x] w (RetF .f32 V w))) : Calls Try.prog 18 #[.float .f32 x] w (RetF .f32 V w) := by
  go_enter Try.func18, Try.ntmps18
  go_wp2_with (go_at_call 54; refine (H.out _).mono ?_; rintro e w' ⟨r, hr, rfl, n, rfl⟩)
  go_ret
  exact ⟨_, ‹_›, rfl, _, rfl⟩

theorem FnExactLogNumber_walk (x : Nat) (w : World) (hx : x < 4294967296) : Calls Try.prog 5 #[.float .f32 x] w (Yes w) := by
  obtain ⟨V, h1, h2⟩ := log_both x hx
  have H1 : Hid (∀ w, Calls Try.prog 18 #[.float .f32 x] w (RetF .f32 V w)) := fun w => specLog_of w h1
  have H2 := hid h2
  clear h1 h2 hx
  go_enter Try.func5, Try.ntmps5
  go_wp2_with (first | (go_at_call 18; refine (H1.out _).mono ?_; rintro e w' ⟨r, hr, rfl, m, rfl⟩) | (go_at_call 19; refine (H2.out _).mono ?_; rintro e w' ⟨r, hr, rfl, m, rfl⟩) | (refine wpList_cv _ rfl _ _ _ rfl .f32 .f64 _ rfl (by rw [Try.underlying22]; rfl) Try.underlying26 (by first | assumption | exact rfl) (fits_widen _) ?_; intro r n hr) | (go_at_call 15; refine (same_any _ _ _ _ (by assumption) (by assumption)).mono ?_; rintro e w' ⟨rfl, n, rfl⟩))
  all_goals (go_ret; exact ⟨rfl, below_draws _ _⟩)
end Go.Proofs.Ytcclmlabcihdoaa
