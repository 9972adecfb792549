/-
  Numbers from bits, and flushed numbers: plain laws, what both sides come to, and the walks of the two laws. Conditions: the bits of a number are those of a float32; an integer fits its kind.
-/
import Derived.Test.YtfmlebjaopfelaaDoorBase
import Derived.Below
namespace Go.Proofs.YtfmlebjaopfelaaDoor.Fl
open Go

theorem signed_eq_zero {neg : Bool} {m u : Nat} (h : Ieee.signed neg m u = 0) : m = 0 := by
  unfold Ieee.signed at h
  rw [Nat.shiftLeft_eq] at h
  have hp : 0 < 2 ^ u := Nat.two_pow_pos _
  rcases Nat.eq_zero_or_pos m with h0 | h0
  · exact h0
  · have := Nat.mul_pos h0 hp
    split at h <;> omega

theorem compare_eq (a b : Int) : (some (compare a b) == some Ordering.eq) = decide (a = b) := by
  rw [show (some (compare a b) == some Ordering.eq) = (compare a b == .eq) from rfl]
  simp only [compare, compareOfLessAndEq]
  split
  · rename_i h; symm; simp; omega
  · split
    · simp [*]
    · simp [*]

/-- Whether a float is a zero: by its bits. -/
theorem order_zero (f : Ieee.Format) (hi : 2 * f.binade ≤ f.infRung) (n : Nat) : (f.order n 0 == some .eq) = decide (n % f.signWeight = 0) := by
  have hB := binade_pos f
  have h0 : f.read 0 = .number false 0 f.leastPlace := read_word_small f false (by omega) hB
  unfold Ieee.Format.order
  rw [h0]
  unfold Ieee.Format.read
  simp only
  split
  · rename_i h
    simp only [Ieee.Datum.order, Int.min_self, Int.sub_self, Int.toNat_zero]
    rw [compare_eq]
    have e : Ieee.signed false 0 0 = 0 := rfl
    rw [e]
    by_cases hz : n % f.signWeight = 0
    · rw [hz]
      have : ∀ s, Ieee.signed s 0 0 = 0 := by intro s; cases s <;> rfl
      simp [this]
    · rw [decide_eq_false hz, decide_eq_false (fun h => hz (signed_eq_zero h))]
  · rename_i h
    have hz : n % f.signWeight ≠ 0 := by omega
    rw [decide_eq_false hz]
    split
    · simp only [Ieee.Datum.order]
      rw [compare_eq]
      have e : ∀ u, Ieee.signed false 0 u = 0 := by intro u; simp [Ieee.signed]
      rw [e, decide_eq_false (fun h => by have := signed_eq_zero h; omega)]
    · split
      · simp only [Ieee.Datum.order]
        split <;> rfl
      · rfl

def flushV (v : Option Nat) : Option Nat := v.map fun b => if b % 2147483648 < 8388608 then b / 2147483648 * 2147483648 else b

theorem zero_bits {b : Nat} : (ord .f32 (some b) (val .f32 0) != some .eq) = decide (b % 2147483648 ≠ 0) := by
  obtain ⟨c1, c2, c3, c4, c5, c6, c7, c8, c9, c10⟩ := bare
  have h := order_zero Ieee.single (by omega) b
  rw [c2] at h
  have e : ord .f32 (some b) (val .f32 0) = Ieee.single.order b 0 := by
    rw [show val .f32 0 = some 0 from by decide]; rfl
  rw [e, bne, h]
  simp

theorem flush_id {b : Nat} (h : b % 2147483648 = 0) : b / 2147483648 * 2147483648 = b := by omega

theorem val_sign {b : Nat} (hb : b < 4294967296) : val .f32 (b / 2147483648 * 2147483648) = some (b / 2147483648 * 2147483648) := by
  have : b / 2147483648 = 0 ∨ b / 2147483648 = 1 := by omega
  rcases this with h | h <;> rw [h] <;> decide

theorem decide_and_true {p q : Prop} [Decidable p] [Decidable q] (h : p) : decide q = decide (p ∧ q) := by simp [h]

/-- The integers that are bits. -/
def inBits (n : Int) : Bool := decide (0 ≤ n ∧ n ≤ 4294967295)
def bitsNat (n : Int) : Nat := if inBits n then n.toNat else 0
end Go.Proofs.YtfmlebjaopfelaaDoor.Fl
namespace Go.Proofs.YtfmlebjaopfelaaDoor
open Go.RowKit Go.Proofs.YtfmlebjaopfelaaDoor.Fl

theorem l00In_any (n lo hi : Int) (w : World) : Calls Tryd.prog 57 #[.int .i64 n, .int .i64 lo, .int .i64 hi] w (Ret (.bool (decide (lo ≤ n ∧ n ≤ hi))) w) := by
  by_cases h1 : lo ≤ n
  · have h1' : decide (lo ≤ n) = true := decide_eq_true h1
    go_enter Tryd.func57, Tryd.ntmps57
    go_wp2_with fail
    go_ret
    exact ⟨ret_bool (decide_and_true h1), 0, rfl⟩
  · have h1' : decide (lo ≤ n) = false := decide_eq_false h1
    go_enter Tryd.func57, Tryd.ntmps57
    go_wp2_with fail
    go_ret
    exact ⟨rfl, 0, rfl⟩
theorem in_any (n lo hi : Int) (w : World) : Calls Tryd.prog 41 #[.int .i64 n, .int .i64 lo, .int .i64 hi] w (Ret (.bool (decide (lo ≤ n ∧ n ≤ hi))) w) := by
  by_cases h1 : lo ≤ n
  · have h1' : decide (lo ≤ n) = true := decide_eq_true h1
    go_enter Tryd.func41, Tryd.ntmps41
    go_wp2_with fail
    go_ret
    exact ⟨ret_bool (decide_and_true h1), 0, rfl⟩
  · have h1' : decide (lo ≤ n) = false := decide_eq_false h1
    go_enter Tryd.func41, Tryd.ntmps41
    go_wp2_with fail
    go_ret
    exact ⟨rfl, 0, rfl⟩
theorem l01From_any (n : Int) (w : World) (h0 : 0 ≤ n) (h1 : n ≤ 4294967295) : Calls Tryd.prog 62 #[.int .i64 n] w (Ret (.float .f32 n.toNat) w) := by
  go_enter Tryd.func62, Tryd.ntmps62
  go_wp2_with fail
  go_ret
  exact ⟨rfl, 0, rfl⟩
theorem implFromBits_any (n : Int) (w : World) : Calls Tryd.prog 55 #[.int .i64 n] w (Ret (.tuple #[.float .f32 (bitsNat n), .bool (inBits n)]) w) := by
  by_cases h : 0 ≤ n ∧ n ≤ 4294967295
  · have e1 : decide (0 ≤ n ∧ n ≤ 4294967295) = true := decide_eq_true h
    have e2 : bitsNat n = n.toNat := by unfold bitsNat inBits; rw [e1]; rfl
    have e3 : inBits n = true := e1
    have H2 := hid e2; have H3 := hid e3; clear e2 e3
    obtain ⟨h0, h1⟩ := h
    go_enter Tryd.func55, Tryd.ntmps55
    go_wp2_with (first | (go_at_call 41; refine (in_any _ _ _ _).mono ?_; rintro e w' ⟨rfl, m, rfl⟩))
    go_ret2
    exact ⟨by rw [H2.out, H3.out]; rfl, _, rfl⟩
  · have e1 : decide (0 ≤ n ∧ n ≤ 4294967295) = false := decide_eq_false h
    have e2 : bitsNat n = 0 := by unfold bitsNat inBits; rw [e1]; rfl
    have e3 : inBits n = false := e1
    have H2 := hid e2; have H3 := hid e3; clear e2 e3
    go_enter Tryd.func55, Tryd.ntmps55
    go_wp2_with (first | (go_at_call 41; refine (in_any _ _ _ _).mono ?_; rintro e w' ⟨rfl, m, rfl⟩))
    all_goals (go_ret2; exact ⟨by rw [H2.out, H3.out]; rfl, _, rfl⟩)
end Go.Proofs.YtfmlebjaopfelaaDoor
