/-
  Numbers from bits, and flushed numbers: plain laws, what both sides come to, and the walks of the two laws. Conditions: the bits of a number are those of a float32; an integer fits its kind.
-/
import Derived.Test.YtppodhfkmdojoaaBase
import Derived.Below
namespace Go.Proofs.Ytppodhfkmdojoaa.Fl
open Go

theorem signed_eq_zero {neg : Bool} {m u : Nat} (h : Ieee.signed neg m u = 0) : m = 0 := by
  unfold Ieee.signed at h
  rw [Nat.shiftLeft_eq] at h
  have hp : 0 < 2 ^ u := Nat.two_pow_pos _
  rcases Nat.eq_zero_or_pos m with h0 | h0
  · exact h0
  · have := Nat.mul_pos h0 hp
    split at h <;> omega

theorem compare_eq (a b : Int) : (some (compare a b) == some Ordering.eq) = decide (a = b) := by
  rw [show (some (compare a b) == some Ordering.eq) = (compare a b == .eq) from rfl]
  simp only [compare, compareOfLessAndEq]
  split
  · rename_i h; symm; simp; omega
  · split
    · simp [*]
    · simp [*]

/-- Whether a float is a zero: by its bits. -/
theorem order_zero (f : Ieee.Format) (hi : 2 * f.binade ≤ f.infRung) (n : Nat) : (f.order n 0 == some .eq) = decide (n % f.signWeight = 0) := by
  have hB := binade_pos f
  have h0 : f.read 0 = .number false 0 f.leastPlace := read_word_small f false (by omega) hB
  unfold Ieee.Format.order
  rw [h0]
  unfold Ieee.Format.read
  simp only
  split
  · rename_i h
    simp only [Ieee.Datum.order, Int.min_self, Int.sub_self, Int.toNat_zero]
    rw [compare_eq]
    have e : Ieee.signed false 0 0 = 0 := rfl
    rw [e]
    by_cases hz : n % f.signWeight = 0
    · rw [hz]
      have : ∀ s, Ieee.signed s 0 0 = 0 := by intro s; cases s <;> rfl
      simp [this]
    · rw [decide_eq_false hz, decide_eq_false (fun h => hz (signed_eq_zero h))]
  · rename_i h
    have hz : n % f.signWeight ≠ 0 := by omega
    rw [decide_eq_false hz]
    split
    · simp only [Ieee.Datum.order]
      rw [compare_eq]
      have e : ∀ u, Ieee.signed false 0 u = 0 := by intro u; simp [Ieee.signed]
      rw [e, decide_eq_false (fun h => by have := signed_eq_zero h; omega)]
    · split
      · simp only [Ieee.Datum.order]
        split <;> rfl
      · rfl

def flushV (v : Option Nat) : Option Nat := v.map fun b => if b % 2147483648 < 8388608 then b / 2147483648 * 2147483648 else b

theorem zero_bits {b : Nat} : (ord .f32 (some b) (val .f32 0) != some .eq) = decide (b % 2147483648 ≠ 0) := by
  obtain ⟨c1, c2, c3, c4, c5, c6, c7, c8, c9, c10⟩ := bare
  have h := order_zero Ieee.single (by omega) b
  rw [c2] at h
  have e : ord .f32 (some b) (val .f32 0) = Ieee.single.order b 0 := by
    rw [show val .f32 0 = some 0 from by decide]; rfl
  rw [e, bne, h]
  simp

theorem flush_id {b : Nat} (h : b % 2147483648 = 0) : b / 2147483648 * 2147483648 = b := by omega

theorem val_sign {b : Nat} (hb : b < 4294967296) : val .f32 (b / 2147483648 * 2147483648) = some (b / 2147483648 * 2147483648) := by
  have : b / 2147483648 = 0 ∨ b / 2147483648 = 1 := by omega
  rcases this with h | h <;> rw [h] <;> decide

theorem decide_and_true {p q : Prop} [Decidable p] [Decidable q] (h : p) : decide q = decide (p ∧ q) := by simp [h]

/-- The integers that are bits. -/
def inBits (n : Int) : Bool := decide (0 ≤ n ∧ n ≤ 4294967295)
def bitsNat (n : Int) : Nat := if inBits n then n.toNat else 0
end Go.Proofs.Ytppodhfkmdojoaa.Fl
namespace Go.Proofs.Ytppodhfkmdojoaa
open Go.RowKit Go.Proofs.Ytppodhfkmdojoaa.Fl

theorem l00In_any (n lo hi : Int) (w : World) : Calls Try.prog 33 #[.int .i64 n, .int .i64 lo, .int .i64 hi] w (Ret (.bool (decide (lo ≤ n ∧ n ≤ hi))) w) := by
  by_cases h1 : lo ≤ n
  · have h1' : decide (lo ≤ n) = true := decide_eq_true h1
    go_enter Try.func33, Try.ntmps33
    go_wp2_with fail
    go_ret
    exact ⟨ret_bool (decide_and_true h1), 0, rfl⟩
  · have h1' : decide (lo ≤ n) = false := decide_eq_false h1
    go_enter Try.func33, Try.ntmps33
    go_wp2_with fail
    go_ret
    exact ⟨rfl, 0, rfl⟩
theorem in_any (n lo hi : Int) (w : World) : Calls Try.prog 35 #[.int .i64 n, .int .i64 lo, .int .i64 hi] w (Ret (.bool (decide (lo ≤ n ∧ n ≤ hi))) w) := by
  by_cases h1 : lo ≤ n
  · have h1' : decide (lo ≤ n) = true := decide_eq_true h1
    go_enter Try.func35, Try.ntmps35
    go_wp2_with fail
    go_ret
    exact ⟨ret_bool (decide_and_true h1), 0, rfl⟩
  · have h1' : decide (lo ≤ n) = false := decide_eq_false h1
    go_enter Try.func35, Try.ntmps35
    go_wp2_with fail
    go_ret
    exact ⟨rfl, 0, rfl⟩
theorem l01From_any (n : Int) (w : World) (h0 : 0 ≤ n) (h1 : n ≤ 4294967295) : Calls Try.prog 34 #[.int .i64 n] w (Ret (.float .f32 n.toNat) w) := by
  go_enter Try.func34, Try.ntmps34
  go_wp2_with fail
  go_ret
  exact ⟨rfl, 0, rfl⟩
theorem specFromBits_any (n : Int) (w : World) : Calls Try.prog 12 #[.int .i64 n] w (Ret (.tuple #[.float .f32 (bitsNat n), .bool (inBits n)]) w) := by
  by_cases h : 0 ≤ n ∧ n ≤ 4294967295
  · have e1 : decide (0 ≤ n ∧ n ≤ 4294967295) = true := decide_eq_true h
    have e2 : bitsNat n = n.toNat := by unfold bitsNat inBits; rw [e1]; rfl
    have e3 : inBits n = true := e1
    have H2 := hid e2; have H3 := hid e3; clear e2 e3
    go_enter Try.func12, Try.ntmps12
    go_wp2_with (first | (go_at_call 33; refine (l00In_any _ _ _ _).mono ?_; rintro e w' ⟨rfl, m, rfl⟩) | (go_at_call 34; refine (l01From_any _ _ h.1 h.2).mono ?_; rintro e w' ⟨rfl, m, rfl⟩))
    go_ret2
    exact ⟨by rw [H2.out, H3.out]; rfl, _, rfl⟩
  · have e1 : decide (0 ≤ n ∧ n ≤ 4294967295) = false := decide_eq_false h
    have e2 : bitsNat n = 0 := by unfold bitsNat inBits; rw [e1]; rfl
    have e3 : inBits n = false := e1
    have H2 := hid e2; have H3 := hid e3; clear e2 e3
    go_enter Try.func12, Try.ntmps12
    go_wp2_with (first | (go_at_call 33; refine (l00In_any _ _ _ _).mono ?_; rintro e w' ⟨rfl, m, rfl⟩))
    all_goals (go_ret2; exact ⟨by rw [H2.out, H3.out]; rfl, _, rfl⟩)
theorem implFromBits_any (n : Int) (w : World) : Calls Try.prog 13 #[.int .i64 n] w (Ret (.tuple #[.float .f32 (bitsNat n), .bool (inBits n)]) w) := by
  by_cases h : 0 ≤ n ∧ n ≤ 4294967295
  · have e1 : decide (0 ≤ n ∧ n ≤ 4294967295) = true := decide_eq_true h
    have e2 : bitsNat n = n.toNat := by unfold bitsNat inBits; rw [e1]; rfl
    have e3 : inBits n = true := e1
    have H2 := hid e2; have H3 := hid e3; clear e2 e3
    obtain ⟨h0, h1⟩ := h
    go_enter Try.func13, Try.ntmps13
    go_wp2_with (first | (go_at_call 35; refine (in_any _ _ _ _).mono ?_; rintro e w' ⟨rfl, m, rfl⟩))
    go_ret2
    exact ⟨by rw [H2.out, H3.out]; rfl, _, rfl⟩
  · have e1 : decide (0 ≤ n ∧ n ≤ 4294967295) = false := decide_eq_false h
    have e2 : bitsNat n = 0 := by unfold bitsNat inBits; rw [e1]; rfl
    have e3 : inBits n = false := e1
    have H2 := hid e2; have H3 := hid e3; clear e2 e3
    go_enter Try.func13, Try.ntmps13
    go_wp2_with (first | (go_at_call 35; refine (in_any _ _ _ _).mono ?_; rintro e w' ⟨rfl, m, rfl⟩))
    all_goals (go_ret2; exact ⟨by rw [H2.out, H3.out]; rfl, _, rfl⟩)
theorem FnExactFromBits_walk (n : Int) (w : World) (_hn : (Lit.int .i64 n).wf = true) : Calls Try.prog 3 #[.int .i64 n] w (Yes w) := by
  clear _hn
  go_enter Try.func3, Try.ntmps3
  go_wp2_with (first | (go_at_call 12; refine (specFromBits_any _ _).mono ?_; rintro e w' ⟨rfl, m, rfl⟩) | (go_at_call 13; refine (implFromBits_any _ _).mono ?_; rintro e w' ⟨rfl, m, rfl⟩) | (refine wpList_cv _ rfl _ _ _ rfl .f32 .f64 _ rfl (by rw [Try.underlying22]; rfl) Try.underlying26 (by first | assumption | exact rfl) (fits_widen _) ?_; intro r n hr) | (go_at_call 14; refine (same_any _ _ _ _ (by assumption) (by assumption)).mono ?_; rintro e w' ⟨rfl, n, rfl⟩))
  all_goals (go_ret; exact ⟨rfl, below_draws _ _⟩)
theorem l01Flush_any (x : Nat) (w : World) (hx : x < 4294967296) : Calls Try.prog 37 #[.float .f32 x] w (RetF .f32 (flushV (val .f32 x)) w) := by
  have hs := subn_bits x hx
  cases hv : val .f32 x with
  | none =>
    rw [hv] at hs
    have hf : Is .f32 (flushV none) x := hv
    go_enter Try.func37, Try.ntmps37
    go_wp2_with (go_at_call 50; refine (l01Bits_any _ _ hx).mono ?_; rw [hv]; rintro e w' ⟨rfl, n, rfl⟩)
    go_ret
    exact ⟨_, hf, rfl, _, rfl⟩
  | some b =>
    obtain rfl := (val_some hv).1
    rw [hv] at hs
    by_cases hb : b % 2147483648 < 8388608
    · have hs' : (bits .and .i64 (bitsV (some b)) 2139095040 == 0) = true := by rw [hs]; exact decide_eq_true hb
      have h2 : bits .and .i64 (bitsV (some b)) 2147483648 = ((b / 2147483648 * 2147483648 : Nat) : Int) := by
        have e := i64_and_nat b 2147483648 (by omega) (by decide)
        rw [show b &&& 2147483648 = b / 2147483648 % 2 * 2147483648 from nat_bit 31 b, show b / 2147483648 % 2 = b / 2147483648 from by omega] at e
        exact e
      have hf : Is .f32 (flushV (some b)) (b / 2147483648 * 2147483648) := by
        show val .f32 _ = some (if b % 2147483648 < 8388608 then _ else _)
        rw [if_pos hb]; exact val_sign hx
      have H2 := hid h2; clear h2 hs
      go_enter Try.func37, Try.ntmps37
      go_wp2_with (first | (go_at_call 50; refine (l01Bits_any _ _ hx).mono ?_; rw [hv]; rintro e w' ⟨rfl, n, rfl⟩) | (go_at_call 34; rw [H2.out]; refine (l01From_any _ _ (by omega) (by omega)).mono ?_; rintro e w' ⟨rfl, n, rfl⟩))
      go_ret
      exact ⟨_, hf, congrArg (fun b => Ending.returned (.float .f32 b)) (by omega), _, rfl⟩
    · have hs' : (bits .and .i64 (bitsV (some b)) 2139095040 == 0) = false := by rw [hs]; exact decide_eq_false hb
      have hf : Is .f32 (flushV (some b)) b := by
        show val .f32 _ = some (if b % 2147483648 < 8388608 then _ else _)
        rw [if_neg hb]; exact hv
      clear hs
      go_enter Try.func37, Try.ntmps37
      go_wp2_with (first | (go_at_call 50; refine (l01Bits_any _ _ hx).mono ?_; rw [hv]; rintro e w' ⟨rfl, n, rfl⟩))
      go_ret
      exact ⟨_, hf, rfl, _, rfl⟩
theorem specFlush_any (x : Nat) (w : World) (hx : x < 4294967296) : Calls Try.prog 15 #[.float .f32 x] w (RetF .f32 (flushV (val .f32 x)) w) := by
  go_enter Try.func15, Try.ntmps15
  go_wp2_with (go_at_call 37; refine (l01Flush_any _ _ hx).mono ?_; rintro e w' ⟨r, hr, rfl, n, rfl⟩)
  go_ret
  exact ⟨_, ‹_›, rfl, _, rfl⟩
theorem implFlush_any (x : Nat) (w : World) (hx : x < 4294967296) : Calls Try.prog 16 #[.float .f32 x] w (RetF .f32 (flushV (val .f32 x)) w) := by
  by_cases hb : subn (val .f32 x) = true
  · have hf : Is .f32 (flushV (val .f32 x)) (x / 2147483648 * 2147483648) := by
      cases hv : val .f32 x with
      | none => rw [hv] at hb; simp [subn] at hb
      | some b =>
        obtain rfl := (val_some hv).1
        rw [hv] at hb
        have hlt : b % 2147483648 < 8388608 := by simp [subn] at hb; exact hb.2
        show val .f32 _ = some (if b % 2147483648 < 8388608 then _ else _)
        rw [if_pos hlt]; exact val_sign hx
    have h2 := and_top x hx
    have H2 := hid h2; have Hf := hid hf; clear h2 hf
    go_enter Try.func16, Try.ntmps16
    go_wp2_with (first | (go_at_call 38; refine (implIsSubnormal_any _ _ hx).mono ?_; rintro e w' ⟨rfl, n, rfl⟩))
    go_ret
    exact ⟨_, Hf.out, congrArg (fun b => Ending.returned (.float .f32 b)) H2.out, _, rfl⟩
  · have hb' : subn (val .f32 x) = false := by simpa using hb
    clear hb
    have hf : Is .f32 (flushV (val .f32 x)) x := by
      cases hv : val .f32 x with
      | none => exact hv
      | some b =>
        obtain rfl := (val_some hv).1
        rw [hv] at hb'
        unfold subn at hb'
        rw [zero_bits] at hb'
        show val .f32 _ = some (if b % 2147483648 < 8388608 then _ else _)
        split
        · rename_i hlt
          simp only [decide_eq_true hlt, Bool.and_true, decide_eq_false_iff_not] at hb'
          rw [flush_id (by omega)]; exact hv
        · exact hv
    have Hf := hid hf; clear hf
    go_enter Try.func16, Try.ntmps16
    go_wp2_with (first | (go_at_call 38; refine (implIsSubnormal_any _ _ hx).mono ?_; rintro e w' ⟨rfl, n, rfl⟩))
    go_ret
    exact ⟨_, Hf.out, rfl, _, rfl⟩
theorem FnExactFlushNumber_walk (x : Nat) (w : World) (hx : x < 4294967296) : Calls Try.prog 4 #[.float .f32 x] w (Yes w) := by
  go_enter Try.func4, Try.ntmps4
  go_wp2_with (first | (go_at_call 15; refine (specFlush_any _ _ hx).mono ?_; rintro e w' ⟨r, hr, rfl, m, rfl⟩) | (go_at_call 16; refine (implFlush_any _ _ hx).mono ?_; rintro e w' ⟨r, hr, rfl, m, rfl⟩) | (refine wpList_cv _ rfl _ _ _ rfl .f32 .f64 _ rfl (by rw [Try.underlying22]; rfl) Try.underlying26 (by first | assumption | exact rfl) (fits_widen _) ?_; intro r n hr) | (go_at_call 14; refine (same_any _ _ _ _ (by assumption) (by assumption)).mono ?_; rintro e w' ⟨rfl, n, rfl⟩))
  all_goals (go_ret; exact ⟨rfl, below_draws _ _⟩)
end Go.Proofs.Ytppodhfkmdojoaa
