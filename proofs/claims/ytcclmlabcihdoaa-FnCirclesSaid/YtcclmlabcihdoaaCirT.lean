/-
  Tenths of decibels of a product of two numbers n / 8 are those of both, but for one. Conditions: 1 ≤ n ≤ 200.
-/
import Derived.Test.YtcclmlabcihdoaaCirL1
import Derived.Test.YtcclmlabcihdoaaCirL2
import Derived.Test.YtcclmlabcihdoaaCirL3
import Derived.Test.YtcclmlabcihdoaaCirL4
import Derived.Test.YtcclmlabcihdoaaCirL5
import Derived.Test.YtcclmlabcihdoaaCirL6
namespace Go.Proofs.Ytcclmlabcihdoaa.Fl
open Go

theorem row_all {a : Nat} (h : a < 100) : rowC a = true := by
  rcases Nat.lt_or_ge a 41 with h1 | h1
  · exact rowsC_eq rows_1 (by omega) (by omega)
  rcases Nat.lt_or_ge a 58 with h2 | h2
  · exact rowsC_eq rows_2 (by omega) (by omega)
  rcases Nat.lt_or_ge a 71 with h3 | h3
  · exact rowsC_eq rows_3 (by omega) (by omega)
  rcases Nat.lt_or_ge a 82 with h4 | h4
  · exact rowsC_eq rows_4 (by omega) (by omega)
  rcases Nat.lt_or_ge a 91 with h5 | h5
  · exact rowsC_eq rows_5 (by omega) (by omega)
  · exact rowsC_eq rows_6 (by omega) (by omega)

theorem odd_part : ∀ n : Nat, 1 ≤ n → ∃ a p, n = (2 * a + 1) * 2 ^ p
  | 0, h => absurd h (by decide)
  | n + 1, _ => by
    by_cases hn : (n + 1) % 2 = 1
    · exact ⟨n / 2, 0, by rw [Nat.pow_zero]; omega⟩
    · obtain ⟨a, p, h⟩ := odd_part ((n + 1) / 2) (by omega)
      refine ⟨a, p + 1, ?_⟩
      rw [Nat.pow_succ, ← Nat.mul_assoc, ← h]
      omega
termination_by n => n
decreasing_by omega

theorem ten_prod {n m : Nat} (hn : 1 ≤ n) (hn' : n ≤ 200) (hm : 1 ≤ m) (hm' : m ≤ 200) : tenN (wN (n * m)) = (tT (n * m) : Int) - 1000 := by
  have hN : n * m ≤ 200 * 200 := Nat.mul_le_mul hn' hm'
  obtain ⟨a, p, ha⟩ := odd_part n hn
  obtain ⟨b, q, hb⟩ := odd_part m hm
  have e : n * m = (2 * a + 1) * (2 * b + 1) * 2 ^ (p + q) := by
    rw [ha, hb, Nat.pow_add, Nat.mul_mul_mul_comm]
  have hp : 0 < 2 ^ p := Nat.two_pow_pos _
  have hq : 0 < 2 ^ q := Nat.two_pow_pos _
  have ha' : 2 * a + 1 ≤ 200 := by
    have : (2 * a + 1) * 1 ≤ (2 * a + 1) * 2 ^ p := Nat.mul_le_mul_left _ hp
    omega
  have hb' : 2 * b + 1 ≤ 200 := by
    have : (2 * b + 1) * 1 ≤ (2 * b + 1) * 2 ^ q := Nat.mul_le_mul_left _ hq
    omega
  have hv : p + q < 16 := by
    rcases Nat.lt_or_ge (p + q) 16 with h | h
    · exact h
    · exfalso
      have h1 : 2 ^ 16 ≤ 2 ^ (p + q) := Nat.pow_le_pow_right (by decide) h
      have h2 : 1 * 2 ^ (p + q) ≤ (2 * a + 1) * (2 * b + 1) * 2 ^ (p + q) := Nat.mul_le_mul_right _ (Nat.mul_pos (by omega) (by omega))
      rw [← e] at h2
      omega
  rcases Nat.le_total b a with h | h
  · rw [e]
    exact rowC_eq (row_all (by omega)) h hv (by rw [← e]; exact hN)
  · rw [e, Nat.mul_comm (2 * a + 1)]
    exact rowC_eq (row_all (by omega)) h hv (by rw [Nat.mul_comm (2 * b + 1), ← e]; exact hN)

noncomputable def prodC (x y z : Nat) : Bool := B (Nat.ble (Nat.add x y) (Nat.add z 1001)) (Nat.ble (Nat.add z 999) (Nat.add x y)) false
theorem prodC_eq {x y z : Nat} (h : prodC x y z = true) : x + y ≤ z + 1001 ∧ z + 999 ≤ x + y := by
  unfold prodC at h
  rw [B_eq] at h
  cases h1 : Nat.ble (Nat.add x y) (Nat.add z 1001) with
  | false => rw [h1] at h; cases h
  | true =>
    rw [h1, cond_true] at h
    exact ⟨Nat.le_of_ble_eq_true h1, Nat.le_of_ble_eq_true h⟩
noncomputable def prodsC : Bool := allN (fun n => F (tT (Nat.mul (Nat.succ n) 8)) fun x => allN (fun m => F (tT (Nat.mul (Nat.succ m) 8)) fun y => F (tT (Nat.mul (Nat.succ n) (Nat.succ m))) fun z => prodC x y z) 200) 200
set_option maxRecDepth 100000 in
theorem prods_true : prodsC = true := by decide +kernel
theorem prods_at {n m : Nat} (hn : n < 200) (hm : m < 200) : prodC (tT ((n + 1) * 8)) (tT ((m + 1) * 8)) (tT ((n + 1) * (m + 1))) = true := by
  have h1 := allN_eq prods_true n hn
  rw [F_eq] at h1
  have h2 := allN_eq h1 m hm
  rw [F_eq, F_eq] at h2
  exact h2

/-- The tenths of a product. -/
theorem ten_law {n m : Nat} (hn : n < 200) (hm : m < 200) :
    tenN (wN ((n + 1) * 8)) + tenN (wN ((m + 1) * 8)) - tenN (wN ((n + 1) * (m + 1))) ≤ 1 ∧ tenN (wN ((n + 1) * (m + 1))) - tenN (wN ((n + 1) * 8)) - tenN (wN ((m + 1) * 8)) ≤ 1 := by
  have h := prodC_eq (prods_at hn hm)
  rw [ten_prod (n := n + 1) (m := 8) (by omega) (by omega) (by decide) (by decide), ten_prod (n := m + 1) (m := 8) (by omega) (by omega) (by decide) (by decide), ten_prod (n := n + 1) (m := m + 1) (by omega) (by omega) (by omega) (by omega)]
  omega
theorem t64 : tT (8 * 8) = 1000 := by decide +kernel
theorem ten_one : tenN (wN 64) = 0 := by
  have h := ten_prod (n := 8) (m := 8) (by decide) (by decide) (by decide) (by decide)
  rw [t64] at h
  exact h
end Go.Proofs.Ytcclmlabcihdoaa.Fl
