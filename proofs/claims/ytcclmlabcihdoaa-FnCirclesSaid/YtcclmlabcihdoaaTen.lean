/-
  Tenths of decibels: both sides come to one number, and the law. Conditions: the bits are those of a float32.
-/
import Derived.Test.YtcclmlabcihdoaaLogW
namespace Go.Proofs.Ytcclmlabcihdoaa.Fl
open Go

/-- The floor, by its bits. -/
def flo (x : Nat) : Nat := Ieee.double.write ((Ieee.double.read x).integral .down)

theorem cut_down_le (neg : Bool) (n d : Nat) : Ieee.Toward.down.cut neg n d ≤ n / 2 ^ d + 1 := by
  unfold Ieee.Toward.cut
  simp only [Nat.one_shiftLeft]
  have hb : ∀ b : Bool, b.toNat ≤ 1 := by intro b; cases b <;> decide
  by_cases h : d ≤ n.log2 + 2
  · rw [Nat.min_eq_left h]
    exact Nat.add_le_add_left (hb _) _
  · have hn : n < 2 ^ (n.log2 + 1) := Nat.lt_log2_self
    rw [Nat.min_eq_right (by omega), Nat.pow_succ, Nat.div_eq_of_lt (by omega)]
    rw [Nat.zero_add]
    exact Nat.le_trans (hb _) (Nat.le_add_left 1 _)

/-- The floor of a number that is at most 2 ^ k. -/
theorem flo_le {k : Int} {x : Nat} (h : LeN k x) (h0 : 0 ≤ k) (h1 : k ≤ 899) : LeN (k + 1) (flo x) := by
  obtain ⟨s, m, p, ⟨y, hy, hr⟩, hb⟩ := h.out
  cases hy
  have bd := (Num.bd (v := some x) ⟨x, rfl, hr⟩)
  have hint : (Ieee.double.read x).integral .down = .number s (Ieee.Toward.down.cut s (m <<< p.toNat) (-p).toNat) 0 := by rw [hr]; rfl
  have hf := flr_bd (m := m) (p := p) (by omega)
  have hc : Ieee.Toward.down.cut s (m <<< p.toNat) (-p).toNat ≤ flr m p + 1 := cut_down_le _ _ _
  generalize hN : Ieee.Toward.down.cut s (m <<< p.toNat) (-p).toNat = N at hc hint
  have e1 : mg N 0 ≤ mg (flr m p) 0 + mg 1 0 := by
    have := mg_le_same (p := 0) hc
    unfold mg at this ⊢
    rw [Nat.add_mul] at this
    exact this
  have e2 : mg 1 0 ≤ 2 ^ (k + 4000).toNat := by
    rw [mg_one]
    exact Nat.pow_le_pow_right (by omega) (by omega)
  have hk : 2 ^ (k + 1 + 4000).toNat = 2 * 2 ^ (k + 4000).toNat := by
    rw [show (k + 1 + 4000).toNat = (k + 4000).toNat + 1 from by omega, Nat.pow_succ, Nat.mul_comm]
  have e3 : mg N 0 ≤ 2 ^ (k + 1 + 4000).toNat := by rw [hk]; omega
  obtain ⟨m', p', hn, hb2, _⟩ := write_le (s := s) (m := N) (p := 0) (k := k + 1) (by omega) (by omega) (by omega) e3
  unfold flo
  rw [hint]
  exact ⟨s, m', p', hn, hb2⟩

/-- The tenths, out of a positive number's bits. -/
def decN (y : Nat) : Nat := fb .mul (logN y) decF
def tenF (y : Nat) : Nat := fb .add (decN y) halfF
def tenN (y : Nat) : Int := whl (flo (tenF y))
theorem ten_facts {y : Nat} (h1 : 4503599627370496 ≤ y) (h2 : y < 9218868437227405312) :
    floatBits .mul .f64 (logN y) decF = some (decN y) ∧ floatBits .add .f64 (decN y) halfF = some (tenF y) ∧ LeN 19 (tenF y) ∧ floatToIntVal .f64 (flo (tenF y)) .i64 = some (tenN y) := by
  have hl := (log_facts h1 h2).2.2.2.2.2.2.2.2.2
  obtain ⟨a1, a2⟩ := LeN.mul hl dec_le (by decide) (by decide) (by decide) (by decide)
  have a3 : LeN 18 (decN y) := a2.mono (by decide)
  obtain ⟨a4, a5⟩ := LeN.add (op := .add) (.inl rfl) a3 (half_le.mono (show (-1 : Int) ≤ 18 by decide)) (by decide) (by decide)
  have a6 : LeN 19 (tenF y) := a5.mono (by decide)
  have a7 := flo_le a6 (by decide) (by decide)
  exact ⟨a1, a4, a6, (whole_bd (write_lt64 _) (len_mid a7 (by decide) (by decide))).1⟩
theorem len_num {k : Int} {x : Nat} (h : LeN k x) : ∃ s m p, Ieee.double.read x = .number s m p := by
  obtain ⟨s, m, p, ⟨y, hy, hr⟩, _⟩ := h.out
  cases hy
  exact ⟨s, m, p, hr⟩

/-- A call that hands back an integer and whether there is one. -/
def Rt (n : Int) (b : Bool) (w : World) (e : Ending) (w' : World) : Prop := e = .returned (.tuple #[.int .i64 n, .bool b]) ∧ ∃ k, w' = w.drewN k
end Go.Proofs.Ytcclmlabcihdoaa.Fl
namespace Go.Proofs.Ytcclmlabcihdoaa
open Go.RowKit Go.Proofs.Ytcclmlabcihdoaa.Fl

theorem run_floor {x : Nat} {s : Bool} {m : Nat} {p : Int} (h : Ieee.double.read x = .number s m p) (w : World) : (callFunc 89 #[.float .f64 x]).run Try.prog w = .ok (.value (.float .f64 (flo x))) w := by
  rw [run_callFunc_extern (e := Extern.MathFloor.toIntegral "math.archFloor" .down) Try.func89 (by kernel_rfl) (by kernel_rfl) (by kernel_rfl) (by kernel_rfl)]
  have h' : FloatKind.f64.decode x = .number s m p := h
  rw [toIntegral_eq, h']
  unfold flo
  rw [h]
  rfl
theorem Floor_num {x : Nat} {s : Bool} {m : Nat} {p : Int} (w : World) (h : Ieee.double.read x = .number s m p) : Calls Try.prog 69 #[.float .f64 x] w (Rf .f64 (flo x) w) := by
  have hr := run_floor h
  clear h
  go_enter Try.func69, Try.ntmps69
  go_wp2_with fail
  go_ret
  exact ⟨rfl, rfl⟩

theorem specTenths_pos (x y : Nat) (w : World) (hc : floatToFloatBits .f32 x .f64 = some y) (h1 : 4503599627370496 ≤ y) (h2 : y < 9218868437227405312) :
    Calls Try.prog 68 #[.float .f32 x] w (fun e w' => e = .returned (.int .i64 (tenN y)) ∧ w = w') := by
  have qc : ∀ W : World, (convert 22 26 (.float .f32 x)).run Try.prog W = .ok (.float .f64 y) W := fun W => run_convert_float_float W 22 26 .f32 .f64 x y (by rw [Try.underlying22]; rfl) Try.underlying26 hc
  obtain ⟨f1, f2, f3, f4⟩ := ten_facts h1 h2
  have r1 := runF (P := Try.prog) 26 f1
  have r2 := runF (P := Try.prog) 26 f2
  have qi : ∀ W : World, (convert 26 2 (.float .f64 (flo (tenF y)))).run Try.prog W = .ok (.int .i64 (tenN y)) W := fun W => run_convert_float_int W 26 2 .f64 .i64 _ _ (by rw [Try.underlying26]; rfl) Try.underlying2 f4
  obtain ⟨s, m, p, hn⟩ := len_num f3
  have Hn := hid hn
  have HL := hid (fun W : World => logWide_norm y W h1 h2)
  clear f1 f2 f3 f4 hn hc h1 h2
  go_enter Try.func68, Try.ntmps68
  go_wp2_with (first | (go_at_call 82; refine (HL.out _).mono ?_; rintro e w' ⟨rfl, rfl⟩) | (go_at_call 69; refine (Floor_num _ Hn.out).mono ?_; rintro e w' ⟨rfl, rfl⟩))
  go_ret
  exact ⟨rfl, rfl⟩

theorem specTen_pos (x y : Nat) (w : World) {m : Nat} {p : Int} (hd : Ieee.single.read x = .number false m p) (hm : m ≠ 0) (hc : floatToFloatBits .f32 x .f64 = some y) (h1 : 4503599627370496 ≤ y) (h2 : y < 9218868437227405312) :
    Calls Try.prog 30 #[.float .f32 x] w (Rt (tenN y) true w) := by
  have t0 : FloatKind.f32.format.order x 0 = some .gt := by
    have := order_zero Ieee.single hd zero_read32
    rw [if_neg hm] at this
    exact this
  have hf := hid (num_fin hd)
  have HT := hid (fun W : World => specTenths_pos x y W hc h1 h2)
  clear hd hm hc h1 h2
  go_enter Try.func30, Try.ntmps30
  go_wp2_with (first | (go_at_call 47; refine (l01Finite_any _ _).mono ?_; rw [hf.out]; rintro e w' ⟨rfl, n, rfl⟩) | (go_at_call 68; refine (HT.out _).mono ?_; rintro e w' ⟨rfl, rfl⟩))
  go_ret2
  exact ⟨rfl, _, rfl⟩

theorem implTen_pos (x y : Nat) (w : World) {m : Nat} {p : Int} (hd : Ieee.single.read x = .number false m p) (hm : m ≠ 0) (hc : floatToFloatBits .f32 x .f64 = some y) (h1 : 4503599627370496 ≤ y) (h2 : y < 9218868437227405312) :
    Calls Try.prog 31 #[.float .f32 x] w (Rt (tenN y) true w) := by
  have t0 : FloatKind.f32.format.order x 0 = some .gt := by
    have := order_zero Ieee.single hd zero_read32
    rw [if_neg hm] at this
    exact this
  have hf := hid (num_fin hd)
  have qc : ∀ W : World, (convert 22 26 (.float .f32 x)).run Try.prog W = .ok (.float .f64 y) W := fun W => run_convert_float_float W 22 26 .f32 .f64 x y (by rw [Try.underlying22]; rfl) Try.underlying26 hc
  obtain ⟨f1, f2, f3, f4⟩ := ten_facts h1 h2
  have r1 := runF (P := Try.prog) 26 f1
  have r2 := runF (P := Try.prog) 26 f2
  have qi : ∀ W : World, (convert 26 2 (.float .f64 (flo (tenF y)))).run Try.prog W = .ok (.int .i64 (tenN y)) W := fun W => run_convert_float_int W 26 2 .f64 .i64 _ _ (by rw [Try.underlying26]; rfl) Try.underlying2 f4
  obtain ⟨s, m', p', hn⟩ := len_num f3
  have Hn := hid hn
  have HL := hid (fun W : World => logOf_norm y W h1 h2)
  clear f1 f2 f3 f4 hn hc h1 h2 hd hm
  go_enter Try.func31, Try.ntmps31
  go_wp2_with (first | (go_at_call 58; refine (implIsFinite_any _ _).mono ?_; rw [hf.out]; rintro e w' ⟨rfl, n, rfl⟩) | (go_at_call 59; refine (HL.out _).mono ?_; rintro e w' ⟨rfl, rfl⟩) | (go_at_call 69; refine (Floor_num _ Hn.out).mono ?_; rintro e w' ⟨rfl, rfl⟩))
  go_ret2
  exact ⟨rfl, _, rfl⟩

theorem ten_notfin (x : Nat) (h : fin (val .f32 x) = false) : (∀ w, Calls Try.prog 30 #[.float .f32 x] w (Rt 0 false w)) ∧ (∀ w, Calls Try.prog 31 #[.float .f32 x] w (Rt 0 false w)) := by
  have H := hid h
  clear h
  constructor
  · intro w
    go_enter Try.func30, Try.ntmps30
    go_wp2_with (first | (go_at_call 47; refine (l01Finite_any _ _).mono ?_; rw [H.out]; rintro e w' ⟨rfl, n, rfl⟩))
    go_ret2
    exact ⟨rfl, _, rfl⟩
  · intro w
    go_enter Try.func31, Try.ntmps31
    go_wp2_with (first | (go_at_call 58; refine (implIsFinite_any _ _).mono ?_; rw [H.out]; rintro e w' ⟨rfl, n, rfl⟩))
    go_ret2
    exact ⟨rfl, _, rfl⟩
theorem ten_low (x : Nat) (h : fin (val .f32 x) = true) (t : FloatKind.f32.format.order x 0 = some .lt ∨ FloatKind.f32.format.order x 0 = some .eq) : (∀ w, Calls Try.prog 30 #[.float .f32 x] w (Rt 0 false w)) ∧ (∀ w, Calls Try.prog 31 #[.float .f32 x] w (Rt 0 false w)) := by
  have H := hid h
  clear h
  constructor
  · intro w
    rcases t with t | t
    all_goals
      go_enter Try.func30, Try.ntmps30
      go_wp2_with (first | (go_at_call 47; refine (l01Finite_any _ _).mono ?_; rw [H.out]; rintro e w' ⟨rfl, n, rfl⟩))
      go_ret2
      exact ⟨rfl, _, rfl⟩
  · intro w
    rcases t with t | t
    all_goals
      go_enter Try.func31, Try.ntmps31
      go_wp2_with (first | (go_at_call 58; refine (implIsFinite_any _ _).mono ?_; rw [H.out]; rintro e w' ⟨rfl, n, rfl⟩))
      go_ret2
      exact ⟨rfl, _, rfl⟩

theorem ten_both (x : Nat) : ∃ n b, (∀ w, Calls Try.prog 30 #[.float .f32 x] w (Rt n b w)) ∧ (∀ w, Calls Try.prog 31 #[.float .f32 x] w (Rt n b w)) := by
  by_cases hnum : ∃ s m p, Ieee.single.read x = .number s m p
  · obtain ⟨s, m, p, hr⟩ := hnum
    have hf := num_fin hr
    have ho := order_zero Ieee.single hr zero_read32
    by_cases hm : m = 0
    · rw [if_pos hm] at ho
      exact ⟨0, false, ten_low x hf (.inr ho)⟩
    · rw [if_neg hm] at ho
      cases s with
      | true => exact ⟨0, false, ten_low x hf (.inl ho)⟩
      | false =>
        obtain ⟨y, hc, h1, h2⟩ := widen_norm hr hm
        exact ⟨tenN y, true, fun w => specTen_pos x y w hr hm hc h1 h2, fun w => implTen_pos x y w hr hm hc h1 h2⟩
  · exact ⟨0, false, ten_notfin x (not_num_fin fun s m p h => hnum ⟨s, m, p, h⟩)⟩

theorem FnExactTenthsOf_walk (x : Nat) (w : World) (_hx : x < 4294967296) : Calls Try.prog 9 #[.float .f32 x] w (Yes w) := by
  obtain ⟨n, b, h1, h2⟩ := ten_both x
  have H1 := hid h1
  have H2 := hid h2
  clear h1 h2 _hx
  go_enter Try.func9, Try.ntmps9
  go_wp2_with (first | (go_at_call 30; refine (H1.out _).mono ?_; rintro e w' ⟨rfl, n, rfl⟩) | (go_at_call 31; refine (H2.out _).mono ?_; rintro e w' ⟨rfl, n, rfl⟩))
  all_goals (go_ret; exact ⟨rfl, below_draws _ _⟩)
end Go.Proofs.Ytcclmlabcihdoaa
