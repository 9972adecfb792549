/-
  Eighths of small numbers in float32, their products, and both widened. Conditions: 1 ≤ n ≤ 200.
-/
import Derived.Test.YtcclmlabcihdoaaCirT
import Derived.Test.YtcclmlabcihdoaaHalf
import Derived.Test.YtcclmlabcihdoaaTen
namespace Go.Proofs.Ytcclmlabcihdoaa.Fl
open Go

theorem widen_is {x : Nat} {s : Bool} {m : Nat} {p : Int} (h : Ieee.single.read x = .number s m p) : floatToFloatBits .f32 x .f64 = some (Ieee.double.nearest s m p) := by
  obtain ⟨y, m', p', hc, _⟩ := widen_bits h
  rw [hc]
  unfold floatToFloatBits at hc
  rw [if_neg (by decide)] at hc
  have h' : FloatKind.f32.decode x = .number s m p := h
  rw [h'] at hc
  simp only at hc
  split at hc
  · cases hc
  · cases hc; rfl

theorem read32 {n : Nat} {e : Int} (h1 : 1 ≤ n) (h2 : n < 2 ^ 24) (he : -20 ≤ e) (he' : e ≤ 0) : ∃ k : Nat, Ieee.single.read (Ieee.single.nearest false n e) = .number false (n * 2 ^ k) (e - k) := by
  obtain ⟨c1, c2, c3, c4, c5, c6, c7, c8, c9, c10⟩ := bare
  have hn : n ≠ 0 := by omega
  have hl : n.log2 < 24 := log2_lt hn h2
  have hmax : (max (e + n.log2 - Ieee.single.fractionBits) Ieee.single.leastPlace - Ieee.single.leastPlace).toNat * Ieee.single.binade + 2 * Ieee.single.binade ≤ Ieee.single.infRung := by
    have hE : (max (e + n.log2 - Ieee.single.fractionBits) Ieee.single.leastPlace - Ieee.single.leastPlace).toNat ≤ 149 := by omega
    generalize (max (e + n.log2 - Ieee.single.fractionBits) Ieee.single.leastPlace - Ieee.single.leastPlace).toNat = E at hE
    exact Nat.le_trans (Nat.add_le_add_right (Nat.mul_le_mul_right _ hE) _) (by decide)
  have hr := read_nearest Ieee.single false n e (by omega) hn (by omega) (by omega) hmax
  rw [hr]
  refine ⟨(e - max (e + n.log2 - Ieee.single.fractionBits) Ieee.single.leastPlace).toNat, ?_⟩
  rw [Nat.shiftLeft_eq]
  congr 1
  omega

/-- n / 8, and the product of two of them. -/
def eN (n : Nat) : Nat := Ieee.single.nearest false n (-3)
def pN (n m : Nat) : Nat := Ieee.single.nearest false (n * m) (-6)
noncomputable def eighthC (n : Nat) : Bool := floatBits .quo .f32 (floatOfInt .f32 (1 + (n : Int))) 1090519040 == some (eN (n + 1))
set_option maxRecDepth 100000 in
theorem eighth_true : allN eighthC 200 = true := by decide +kernel
theorem eighth_at {n : Nat} (h : n < 200) : floatBits .quo .f32 (floatOfInt .f32 (1 + (n : Int))) 1090519040 = some (eN (n + 1)) := by
  have := allN_eq eighth_true n h
  unfold eighthC at this
  exact beq_iff_eq.1 this

theorem wN_mul (n : Nat) (j k : Nat) : Ieee.double.nearest false (n * 2 ^ k) (-(6 : Int) + j - k) = wN (n * 2 ^ j) := by
  unfold wN
  rw [nearest_scale, show (-(6 : Int)) = (-(6 : Int) + j) - j from by omega, nearest_scale]
  congr 1
  omega

/-- What TenthsOf asks of a number. -/
structure TenOk (x y : Nat) : Prop where
  ex : ∃ m p, Ieee.single.read x = .number false m p ∧ m ≠ 0
  wide : floatToFloatBits .f32 x .f64 = some y
  low : 4503599627370496 ≤ y
  high : y < 9218868437227405312
theorem tenOk {x y m : Nat} {p : Int} (h : Ieee.single.read x = .number false m p) (hm : m ≠ 0) (hy : Ieee.double.nearest false m p = y) : TenOk x y := by
  obtain ⟨z, h1, h2, h3⟩ := widen_norm h hm
  have e := widen_is h
  rw [h1] at e
  have e2 : z = y := by rw [Option.some.inj e, hy]
  subst e2
  exact ⟨⟨m, p, h, hm⟩, h1, h2, h3⟩
theorem eN_ok {n : Nat} (h1 : 1 ≤ n) (h2 : n ≤ 200) : TenOk (eN n) (wN (n * 8)) := by
  obtain ⟨k, hk⟩ := read32 (n := n) (e := -3) h1 (by omega) (by omega) (by omega)
  refine tenOk hk (Nat.mul_ne_zero (by omega) (by have := Nat.two_pow_pos k; omega)) ?_
  exact wN_mul n 3 k
theorem pN_ok {n m : Nat} (h1 : 1 ≤ n) (h2 : n ≤ 200) (g1 : 1 ≤ m) (g2 : m ≤ 200) : floatBits .mul .f32 (eN n) (eN m) = some (pN n m) ∧ TenOk (pN n m) (wN (n * m)) := by
  have hN : n * m ≤ 200 * 200 := Nat.mul_le_mul h2 g2
  have hN1 : 1 * 1 ≤ n * m := Nat.mul_le_mul h1 g1
  constructor
  · obtain ⟨k, hk⟩ := read32 (n := n) (e := -3) h1 (by omega) (by omega) (by omega)
    obtain ⟨j, hj⟩ := read32 (n := m) (e := -3) g1 (by omega) (by omega) (by omega)
    show ((Ieee.single.read (eN n)).product (Ieee.single.read (eN m))).map Ieee.single.write = _
    unfold eN
    rw [hk, hj]
    show some (Ieee.single.nearest (false ^^ false) (n * 2 ^ k * (m * 2 ^ j)) (-3 - (k : Int) + (-3 - (j : Int)))) = some (pN n m)
    rw [Nat.mul_mul_mul_comm, ← Nat.pow_add, show (-3 - (k : Int) + (-3 - (j : Int))) = -6 - ((k + j : Nat) : Int) from by omega, nearest_scale]
    rfl
  · obtain ⟨k, hk⟩ := read32 (n := n * m) (e := -6) (by omega) (by omega) (by omega) (by omega)
    refine tenOk hk (Nat.mul_ne_zero (by omega) (by have := Nat.two_pow_pos k; omega)) ?_
    have := wN_mul (n * m) 0 k
    rw [Nat.pow_zero, Nat.mul_one] at this
    rw [← this]
    congr 1
theorem one_ok : TenOk 1065353216 (wN 64) := by
  have h : Ieee.single.read 1065353216 = .number false (2 ^ 23) (-23) := by decide +kernel
  exact tenOk h (by decide) (by decide +kernel)
end Go.Proofs.Ytcclmlabcihdoaa.Fl
