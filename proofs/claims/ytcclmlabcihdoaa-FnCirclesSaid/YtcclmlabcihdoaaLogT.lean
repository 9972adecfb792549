/-
  Logarithms: both sides come to one number. Conditions: those of each contract.
-/
import Derived.Test.YtcclmlabcihdoaaLog
import Derived.Below
namespace Go.Proofs.Ytcclmlabcihdoaa.Fl
open Go

/-- A float's bits. -/
def fltOf : Value → Nat
  | .float _ b => b
  | _ => 0

theorem fltOf_float (k : FloatKind) (b : Nat) : fltOf (.float k b) = b := rfl

/-- What holds while a number is doubled, while it is halved. -/
def AtR (y x : Nat) (k : Int) : Prop := (x : Int) = y - k * 4503599627370496 ∧ (k ≤ 0 ∨ 4604930618986332160 ≤ x) ∧ (0 ≤ k ∨ x < 4609434218613702656) ∧ 4503599627370496 ≤ x ∧ x < 9218868437227405312
theorem atR_start {y : Nat} (hy : 4503599627370496 ≤ y) (hy2 : y < 9218868437227405312) : AtR y y 0 := ⟨by omega, .inl (Int.le_refl _), .inl (Int.le_refl _), hy, hy2⟩
/-- What goes down with each round. -/
def measD (a : Value) : Nat := 4609434218613702656 - fltOf a
def measH (a : Value) : Nat := fltOf a
theorem measD_lt {x : Nat} (h : x < 4604930618986332160) : measD (.float .f64 (x + 4503599627370496)) < measD (.float .f64 x) := by
  unfold measD; rw [fltOf_float, fltOf_float]; omega
theorem measH_lt {x : Nat} (h : 4609434218613702656 ≤ x) : measH (.float .f64 (x - 4503599627370496)) < measH (.float .f64 x) := by
  unfold measH; rw [fltOf_float, fltOf_float]; omega
theorem word_cases {x c : Nat} (hx : x < 9218868437227405312) (hc : c < 9218868437227405312) :
    (c < x ∧ FloatKind.f64.format.order x c = some .gt) ∨ (x = c ∧ FloatKind.f64.format.order x c = some .eq) ∨ (x < c ∧ FloatKind.f64.format.order x c = some .lt) := by
  rw [order_words hx hc]
  rcases Nat.lt_trichotomy x c with h | h | h
  · exact .inr (.inr ⟨h, by rw [lt_compare (by omega)]⟩)
  · exact .inr (.inl ⟨h, by rw [eq_compare (by omega)]⟩)
  · exact .inl ⟨h, by rw [gt_compare (by omega)]⟩

/-- One doubling. -/
theorem dbl_step {y x : Nat} {k : Int} (h : AtR y x k) (hx : x < 4604930618986332160) (hy2 : y < 9218868437227405312) :
    floatBits .mul .f64 x twoF = some (x + 4503599627370496) ∧ floatBits .sub .f64 (flI k) oneF = some (flI (k - 1)) ∧ (AtR y (x + 4503599627370496) (k - 1) ∧ x + 4503599627370496 < 4609434218613702656) := by
  obtain ⟨h1, h2, h3, h4, h5⟩ := h
  exact ⟨dbl_word h4 (by omega), (cnt_step (by omega) (by omega)).2, ⟨by omega, .inl (by omega), .inr (by omega), by omega, by omega⟩, by omega⟩
/-- One halving. -/
theorem half_step {y x : Nat} {k : Int} (h : AtR y x k) (hx : 4609434218613702656 ≤ x) (hy : 4503599627370496 ≤ y) (hy2 : y < 9218868437227405312) :
    floatBits .quo .f64 x twoF = some (x - 4503599627370496) ∧ floatBits .add .f64 (flI k) oneF = some (flI (k + 1)) ∧ (AtR y (x - 4503599627370496) (k + 1) ∧ 4604930618986332160 ≤ x - 4503599627370496) := by
  obtain ⟨h1, h2, h3, h4, h5⟩ := h
  exact ⟨half_word (by omega) h5, (cnt_step (by omega) (by omega)).1, ⟨by omega, .inr (by omega), .inl (by omega), by omega, by omega⟩, by omega⟩
theorem red_of {y x : Nat} {k : Int} (h : AtR y x k) (h1 : 4604930618986332160 ≤ x) (h2 : x < 4609434218613702656) : x = redX y ∧ k = redE y := red_is h.1 h1 h2
end Go.Proofs.Ytcclmlabcihdoaa.Fl
namespace Go.Proofs.Ytcclmlabcihdoaa
open Go.RowKit Go.Proofs.Ytcclmlabcihdoaa.Fl

set_option maxHeartbeats 4000000 in
theorem logOf_norm (y : Nat) (w : World) (hy : 4503599627370496 ≤ y) (hy2 : y < 9218868437227405312) : Calls Try.prog 59 #[.float .f64 y] w (Rf .f64 (logN y) w) := by
  obtain ⟨f1, f2, f3, f4, hu, f5, f6, f7, f8, _⟩ := log_facts hy hy2
  have r1 := runF (P := Try.prog) 26 f1
  have r2 := runF (P := Try.prog) 26 f2
  have r3 := runF (P := Try.prog) 26 f3
  have r4 := runF (P := Try.prog) 26 f4
  have r5 := runF (P := Try.prog) 26 f5
  have r6 := runF (P := Try.prog) 26 f6
  have r7 := runF (P := Try.prog) 26 f7
  have r8 := runF (P := Try.prog) 26 f8
  have HU := hid hu
  have HY := hid hy
  have HY2 := hid hy2
  clear f1 f2 f3 f4 f5 f6 f7 f8 hu
  go_enter Try.func59, Try.ntmps59
  go_wp2_with fail
  go_loop [0, 3] (fun a b => ∃ (x : Nat) (k : Int), a = .float .f64 x ∧ b = .float .f64 (flI k) ∧ Hid (AtR y x k)) (fun a _ => measD a)
  case atStart => exact ⟨y, 0, rfl, by rw [flI_zero], atR_start hy hy2⟩
  case round =>
    obtain ⟨x, k, rfl, rfl, HA⟩ := hrel
    clear hy hy2
    rcases word_cases HA.out.2.2.2.2 (show 4604930618986332160 < 9218868437227405312 by decide) with ⟨hc, t⟩ | ⟨hc, t⟩ | ⟨hc, t⟩
    case inr.inr =>
      obtain ⟨d1, d2, d3, _⟩ := dbl_step HA.out hc HY2.out
      have q1 := runF (P := Try.prog) 26 d1
      have q2 := runF (P := Try.prog) 26 d2
      have D3 := hid d3
      have HC := hid (measD_lt hc)
      clear d1 d2 d3 hc
      generalize x + 4503599627370496 = x' at *
      go_wp2_with fail
      exact ⟨⟨_, _, rfl, rfl, D3⟩, HC.out⟩
    all_goals
      have HB : Hid (AtR y x k ∧ 4604930618986332160 ≤ x) := ⟨HA.out, by omega⟩
      clear hc HA
      go_wp2_with fail
      go_loop [0, 3] (fun a b => ∃ (x : Nat) (k : Int), a = .float .f64 x ∧ b = .float .f64 (flI k) ∧ Hid (AtR y x k ∧ 4604930618986332160 ≤ x)) (fun a _ => measH a)
      case atStart => exact ⟨_, _, rfl, rfl, HB⟩
      case round =>
        clear HB
        obtain ⟨x, k, rfl, rfl, HA⟩ := hrel
        rcases word_cases HA.out.1.2.2.2.2 (show 4609434218613702656 < 9218868437227405312 by decide) with ⟨hc, t2⟩ | ⟨hc, t2⟩ | ⟨hc, t2⟩
        case inr.inr =>
          obtain ⟨e1, e2⟩ := red_of HA.out.1 HA.out.2 hc
          subst e1 e2
          clear hc HA
          go_wp2_with fail
          go_loop [6, 7] (fun a b => ∃ (j : Nat) (K : Int), b = .int .i64 K ∧ a = .float .f64 (logQ (uL y) j) ∧ j ≤ 13 ∧ -1 ≤ K ∧ K ≤ 25 ∧ Hid (K = 25 - 2 * (j : Int))) (fun _ b => (intOf b + 1).toNat)
          case atStart => exact ⟨0, 25, rfl, rfl, by omega, by omega, by omega, rfl⟩
          case round =>
            obtain ⟨j, K, rfl, rfl, hj, hK1, hK2, HK⟩ := hrel
            by_cases hlt : j < 13
            · obtain ⟨g1, g2, g3, _⟩ := log_round HU.out hlt (logQ_le HU.out hj)
              rw [← HK.out] at g1 g3
              have q1 := runF (P := Try.prog) 26 g1
              have q2 := runF (P := Try.prog) 26 g2
              have q3 := runF (P := Try.prog) 26 g3
              have hK3 : 1 ≤ K := by have := HK.out; omega
              have HN : Hid (K - 2 = 25 - 2 * ((j + 1 : Nat) : Int)) := by have := HK.out; show _ = _; omega
              clear g1 g2 g3 hK1
              unfold flI at q1 q3
              go_wp2_with fail
              exact ⟨⟨j + 1, K - 2, rfl, rfl, by omega, by omega, by omega, HN⟩, by simp only [intOf]; omega⟩
            · have e8 : logQ (uL y) j = logQ (uL y) 13 := by rw [show j = 13 from by omega]
              have hK3 : K < 1 := by have := HK.out; omega
              rw [e8]
              clear e8 hlt hK1 hK2 hj HK
              go_wp2_with fail
              go_ret
              exact ⟨rfl, rfl⟩
        all_goals
          obtain ⟨d1, d2, d3⟩ := half_step HA.out.1 (by omega) HY.out HY2.out
          have q1 := runF (P := Try.prog) 26 d1
          have q2 := runF (P := Try.prog) 26 d2
          have D3 := hid d3
          have HC := hid (measH_lt (x := x) (by omega))
          clear d1 d2 d3 hc HA
          generalize x - 4503599627370496 = x' at *
          go_wp2_with fail
          exact ⟨⟨_, _, rfl, rfl, D3⟩, HC.out⟩
end Go.Proofs.Ytcclmlabcihdoaa
