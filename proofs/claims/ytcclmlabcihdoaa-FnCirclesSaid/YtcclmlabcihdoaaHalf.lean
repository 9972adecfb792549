/-
  Half of a float32 number: the quotient by 2 and the product with 1/2 are one number. No conditions.
-/
import Derived.Test.YtcclmlabcihdoaaLogW
namespace Go.Proofs.Ytcclmlabcihdoaa.Fl
open Go

theorem cut_scale (neg : Bool) (m k d : Nat) (hm : m ≠ 0) : Ieee.Toward.even.cut neg (m * 2 ^ k) (d + k) = Ieee.Toward.even.cut neg m d := by
  unfold Ieee.Toward.cut
  simp only [Nat.one_shiftLeft]
  rw [log2_mul_pow hm, show min (d + k) (m.log2 + k + 2) = min d (m.log2 + 2) + k from by omega, Nat.pow_add]
  have hk : 0 < 2 ^ k := Nat.two_pow_pos _
  generalize 2 ^ min d (m.log2 + 2) = g
  generalize 2 ^ k = c at *
  rw [Nat.mul_div_mul_right _ _ hk, Nat.mul_mod_mul_right]
  have e1 : decide (g * c < 2 * (m % g * c)) = decide (g < 2 * (m % g)) := by
    rw [← Nat.mul_assoc]
    apply decide_eq_decide.2
    exact ⟨fun h => Nat.lt_of_mul_lt_mul_right h, fun h => Nat.mul_lt_mul_of_pos_right h hk⟩
  have e2 : (g * c == 2 * (m % g * c)) = (g == 2 * (m % g)) := by
    rw [← Nat.mul_assoc, Bool.eq_iff_iff, beq_iff_eq, beq_iff_eq]
    exact ⟨fun h => Nat.eq_of_mul_eq_mul_right hk h, fun h => congrArg (· * c) h⟩
  rw [e1, e2]

/-- A number is rounded by its value alone. -/
theorem nearest_scale (f : Ieee.Format) (neg : Bool) (m k : Nat) (p : Int) : f.nearest neg (m * 2 ^ k) (p - k) = f.nearest neg m p := by
  by_cases hm : m = 0
  · subst hm; simp [Ieee.Format.nearest]
  · have hmk : m * 2 ^ k ≠ 0 := Nat.mul_ne_zero hm (by have := Nat.two_pow_pos k; omega)
    unfold Ieee.Format.nearest
    rw [if_neg hm, if_neg hmk, log2_mul_pow hm]
    have e : (p - (k : Int) + ((m.log2 + k : Nat) : Int) - (f.fractionBits : Int)) = p + (m.log2 : Int) - f.fractionBits := by omega
    simp only [e]
    generalize max (p + (m.log2 : Int) - f.fractionBits) f.leastPlace = L
    by_cases hL : L ≤ p
    · have h0 : (L - p).toNat = 0 := by omega
      rw [h0, cut_zero]
      by_cases hk : L ≤ p - k
      · have h1 : (L - (p - k)).toNat = 0 := by omega
        rw [h1, cut_zero, Nat.shiftLeft_eq, Nat.shiftLeft_eq, Nat.mul_assoc, ← Nat.pow_add, show k + (p - k - L).toNat = (p - L).toNat from by omega]
      · have h1 : (p - (k : Int) - L).toNat = 0 := by omega
        have h2 : (L - (p - (k : Int))).toNat = k - (p - L).toNat := by omega
        have h3 : m * 2 ^ k = (m * 2 ^ (p - L).toNat) * 2 ^ (k - (p - L).toNat) := by
          rw [Nat.mul_assoc, ← Nat.pow_add, show (p - L).toNat + (k - (p - L).toNat) = k from by omega]
        have h4 : Ieee.Toward.even.cut neg (m * 2 ^ k) (k - (p - L).toNat) = m * 2 ^ (p - L).toNat := by
          rw [h3]
          exact cut_exact _ _ _ _ (Nat.mul_ne_zero hm (by have := Nat.two_pow_pos (p - L).toNat; omega))
        rw [h1, h2, Nat.shiftLeft_zero, h4, Nat.shiftLeft_eq]
    · have h1 : (p - (k : Int) - L).toNat = 0 := by omega
      have h2 : (p - L).toNat = 0 := by omega
      have h3 : (L - (p - (k : Int))).toNat = (L - p).toNat + k := by omega
      rw [h1, h2, h3, Nat.shiftLeft_zero, Nat.shiftLeft_zero, cut_scale _ _ _ _ hm]

theorem two_read32 : Ieee.single.read 1073741824 = .number false (2 ^ 23) (-22) := by decide +kernel
theorem half_read32 : Ieee.single.read 1056964608 = .number false (2 ^ 23) (-24) := by decide +kernel

/-- Half of a number, by its bits. -/
def halfN (x : Nat) : Nat := (floatBits .mul .f32 1056964608 x).getD 0
theorem half_both {x : Nat} {s : Bool} {m : Nat} {p : Int} (h : Ieee.single.read x = .number s m p) :
    floatBits .mul .f32 1056964608 x = some (halfN x) ∧ floatBits .quo .f32 x 1073741824 = some (halfN x) := by
  have e1 : floatBits .mul .f32 1056964608 x = some (Ieee.single.nearest s m (p - 1)) := by
    show ((Ieee.single.read 1056964608).product (Ieee.single.read x)).map Ieee.single.write = _
    rw [half_read32, h]
    show some (Ieee.single.nearest (false ^^ s) (2 ^ 23 * m) (-24 + p)) = _
    rw [Bool.false_xor, Nat.mul_comm, show (-24 + p) = (p - 1) - (23 : Nat) from by omega, nearest_scale]
  have e2 : floatBits .quo .f32 x 1073741824 = some (Ieee.single.nearest s m (p - 1)) := by
    show ((Ieee.single.read x).quotient (23 + 2) (Ieee.single.read 1073741824)).map Ieee.single.write = _
    rw [two_read32, h]
    unfold Ieee.Datum.quotient
    simp only
    rw [if_neg (by decide)]
    have hl : (2 ^ 23 : Nat).log2 = 23 := Nat.log2_two_pow
    rw [hl]
    obtain ⟨c1, c2, c3, c4, c5, c6, c7, c8, c9, c10⟩ := bare
    obtain ⟨g1, _, _, _⟩ := read_number Ieee.single sgl h
    have hm : m.log2 ≤ 23 := by
      by_cases h0 : m = 0
      · subst h0; decide
      · have := log2_lt (n := 24) h0 (by omega); omega
    obtain ⟨k, hk⟩ : ∃ k, 23 + 2 + 23 - m.log2 = 23 + k := ⟨25 - m.log2, by omega⟩
    rw [hk]
    have d1 : m <<< (23 + k) / 2 ^ 23 = m * 2 ^ k := by
      rw [Nat.shiftLeft_eq, Nat.pow_add, Nat.mul_comm (2 ^ 23), ← Nat.mul_assoc, Nat.mul_div_cancel _ (by decide)]
    have d2 : m <<< (23 + k) % 2 ^ 23 = 0 := by
      rw [Nat.shiftLeft_eq, Nat.pow_add, Nat.mul_comm (2 ^ 23), ← Nat.mul_assoc, Nat.mul_mod_left]
    rw [d1, d2]
    have d3 : 2 * (m * 2 ^ k) + ((0 : Nat) != 0).toNat = m * 2 ^ (k + 1) := by
      simp only [bne_self_eq_false, Bool.toNat_false, Nat.pow_succ]
      have e : m * (2 ^ k * 2) = (m * 2 ^ k) * 2 := by rw [Nat.mul_assoc]
      rw [e]; omega
    rw [d3]
    show some (Ieee.single.nearest (s ^^ false) (m * 2 ^ (k + 1)) (p - -22 - ((23 + k : Nat) : Int) - 1)) = _
    rw [Bool.xor_false, show (p - -22 - ((23 + k : Nat) : Int) - 1) = (p - 1) - ((k + 1 : Nat) : Int) from by omega, nearest_scale]
  unfold halfN
  rw [e1]
  exact ⟨rfl, by rw [e2]; rfl⟩
end Go.Proofs.Ytcclmlabcihdoaa.Fl
