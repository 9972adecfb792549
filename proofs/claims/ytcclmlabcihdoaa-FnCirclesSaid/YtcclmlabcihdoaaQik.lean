/-
  Operations on float64 words that the kernel reckons fast: where one of them gives an answer, it is the operation's own. No conditions.
-/
import Derived.Test.YtcclmlabcihdoaaHalf
import Derived.Test.YtcclmlabcihdoaaTen
namespace Go.Proofs.Ytcclmlabcihdoaa.Fl
open Go

/-- The digits that are kept, where there are more than 53. -/
def keepQ (M d : Nat) : Nat := M / 2 ^ d + bif (Nat.blt (2 ^ d) (2 * (M % 2 ^ d)) || (Nat.beq (2 ^ d) (2 * (M % 2 ^ d)) && Nat.beq (M / 2 ^ d % 2) 1)) then 1 else 0
def outQ (s : Bool) (W : Nat) : Option Nat := bif Nat.blt W 9218868437227405312 then some ((bif s then 9223372036854775808 else 0) + W) else none
/-- Rounded to the nearest word, of a number that is not nought: the digits M at the place base - 1074. -/
def rQ (s : Bool) (base M : Nat) : Option Nat :=
  bif Nat.beq M 0 then none else
  bif Nat.ble 52 (Nat.log2 M) then outQ s ((base + (Nat.log2 M - 52)) * 4503599627370496 + keepQ M (Nat.log2 M - 52))
  else bif Nat.ble 52 (base + Nat.log2 M) then outQ s ((base + Nat.log2 M - 52) * 4503599627370496 + M * 2 ^ (52 - Nat.log2 M)) else none

theorem word_dbl (s : Bool) (r : Nat) : Ieee.double.word s r = (bif s then 9223372036854775808 else 0) + r := by
  unfold Ieee.Format.word
  rw [bare.2.2.2.2.1]
  cases s <;> simp

theorem blt_iff (a b : Nat) : Nat.blt a b = decide (a < b) := by
  unfold Nat.blt
  rw [Bool.eq_iff_iff, Nat.ble_eq, decide_eq_true_eq]
  omega
theorem beq_iff' (a b : Nat) : Nat.beq a b = (a == b) := by
  rw [Bool.eq_iff_iff, beq_iff_eq]
  exact ⟨Nat.eq_of_beq_eq_true, fun h => h ▸ Nat.beq_refl a⟩
theorem ble_iff (a b : Nat) : Nat.ble a b = decide (a ≤ b) := by
  rw [Bool.eq_iff_iff, Nat.ble_eq, decide_eq_true_eq]

theorem outQ_sound {s : Bool} {W r : Nat} (h : outQ s W = some r) : Ieee.double.word s (min W Ieee.double.infRung) = r := by
  unfold outQ at h
  rw [blt_iff] at h
  by_cases hW : W < 9218868437227405312
  · rw [decide_eq_true hW, cond_true] at h
    rw [bare.2.2.2.1, Nat.min_eq_left (by omega), word_dbl]
    exact Option.some.inj h
  · rw [decide_eq_false hW] at h
    cases h
theorem keepQ_is (s : Bool) (M d : Nat) (hd : d ≤ M.log2 + 2) : Ieee.Toward.even.cut s M d = keepQ M d := by
  unfold Ieee.Toward.cut keepQ
  rw [Nat.min_eq_left hd, blt_iff, beq_iff', beq_iff']
  simp only [Nat.one_shiftLeft]
  congr 1
theorem rQ_sound {s : Bool} {base M r : Nat} {p : Int} (hp : p = (base : Int) - 1074) (h : rQ s base M = some r) : Ieee.double.nearest s M p = r := by
  unfold rQ at h
  by_cases hM : M = 0
  · rw [hM] at h; cases h
  have hM' : Nat.beq M 0 = false := by rw [beq_iff']; simpa using hM
  rw [hM', cond_false] at h
  rw [nearest_kept s p hM]
  by_cases h52 : 52 ≤ M.log2
  · rw [Nat.ble_eq_true_of_le h52, cond_true] at h
    have eL : lastOf M p = p + M.log2 - 52 := by unfold lastOf; omega
    have eK : keptOf s M p = keepQ M (M.log2 - 52) := by
      unfold keptOf
      rw [eL, show (p - (p + (M.log2 : Int) - 52)).toNat = 0 from by omega, show (p + (M.log2 : Int) - 52 - p).toNat = M.log2 - 52 from by omega, Nat.shiftLeft_zero]
      exact keepQ_is s M _ (by omega)
    rw [eK, show (lastOf M p + 1074).toNat = base + (M.log2 - 52) from by rw [eL]; omega]
    exact outQ_sound h
  · rw [show Nat.ble 52 M.log2 = false from by rw [ble_iff]; exact decide_eq_false h52, cond_false] at h
    by_cases hc : 52 ≤ base + M.log2
    · rw [Nat.ble_eq_true_of_le hc, cond_true] at h
      have eL : lastOf M p = p + M.log2 - 52 := by unfold lastOf; omega
      have eK : keptOf s M p = M * 2 ^ (52 - M.log2) := by
        unfold keptOf
        rw [eL, show (p - (p + (M.log2 : Int) - 52)).toNat = 52 - M.log2 from by omega, show (p + (M.log2 : Int) - 52 - p).toNat = 0 from by omega, cut_zero, Nat.shiftLeft_eq]
      rw [eK, show (lastOf M p + 1074).toNat = base + M.log2 - 52 from by rw [eL]; omega]
      exact outQ_sound h
    · rw [show Nat.ble 52 (base + M.log2) = false from by rw [ble_iff]; exact decide_eq_false hc] at h
      cases h

/-- The parts of a word: whether its number is normal; its sign. -/
def nQ (x : Nat) : Bool := Nat.ble 4503599627370496 (x % 9223372036854775808) && Nat.blt (x % 9223372036854775808) 9218868437227405312
def sQ (x : Nat) : Bool := Nat.beq (x / 9223372036854775808 % 2) 1
def eQ (x : Nat) : Nat := x % 9223372036854775808 / 4503599627370496
def mQ (x : Nat) : Nat := 4503599627370496 + x % 4503599627370496

theorem nQ_read {x : Nat} (h : nQ x = true) : Ieee.double.read x = .number (sQ x) (mQ x) ((eQ x : Int) - 1075) ∧ 1 ≤ eQ x ∧ eQ x ≤ 2046 ∧ 2 ^ 52 ≤ mQ x ∧ mQ x < 2 ^ 53 := by
  obtain ⟨c1, c2, c3, c4, c5, c6, c7, c8, c9, c10⟩ := bare
  unfold nQ at h
  rw [ble_iff, blt_iff, Bool.and_eq_true, decide_eq_true_eq, decide_eq_true_eq] at h
  obtain ⟨h1, h2⟩ := h
  have hm : x % 9223372036854775808 % 4503599627370496 = x % 4503599627370496 := Nat.mod_mod_of_dvd _ (by decide)
  have he1 : 1 ≤ eQ x := by unfold eQ; omega
  have he2 : eQ x ≤ 2046 := by unfold eQ; omega
  refine ⟨?_, he1, he2, by unfold mQ; omega, by unfold mQ; omega⟩
  unfold Ieee.Format.read
  simp only [c4, c5, c6, c8]
  rw [if_neg (by omega), if_pos h2, hm]
  have e3 : (-1074 : Int) + ((x % 9223372036854775808 / 4503599627370496 - 1 : Nat) : Int) = (eQ x : Int) - 1075 := by unfold eQ at *; omega
  rw [e3]
  unfold sQ mQ
  rw [beq_iff']

/-- Nought, of either sign. -/
def zQ (x : Nat) : Bool := Nat.beq (x % 9223372036854775808) 0
theorem zQ_read {x : Nat} (h : zQ x = true) : Ieee.double.read x = .number (sQ x) 0 (-1074) := by
  obtain ⟨c1, c2, c3, c4, c5, c6, c7, c8, c9, c10⟩ := bare
  have h0 : x % 9223372036854775808 = 0 := by
    unfold zQ at h
    rw [beq_iff'] at h
    simpa using h
  unfold Ieee.Format.read
  simp only [c4, c5, c6, c8, h0]
  rw [if_pos (by omega)]
  unfold sQ
  rw [beq_iff']

def wQ (s : Bool) : Nat := bif s then 9223372036854775808 else 0
theorem write_none (s : Bool) (p : Int) : Ieee.double.write (.number s 0 p) = wQ s := by
  rw [write_zero, word_dbl]; rfl

def mulQ (x y : Nat) : Option Nat :=
  bif nQ x && nQ y && Nat.ble 1076 (eQ x + eQ y) then rQ (sQ x ^^ sQ y) (eQ x + eQ y - 1076) (mQ x * mQ y)
  else bif (zQ x && nQ y) || (nQ x && zQ y) || (zQ x && zQ y) then some (wQ (sQ x ^^ sQ y)) else none
theorem mulQ_sound {x y r : Nat} (h : mulQ x y = some r) : floatBits .mul .f64 x y = some r := by
  unfold mulQ at h
  cases hc : (nQ x && nQ y && Nat.ble 1076 (eQ x + eQ y)) with
  | true =>
    rw [hc, cond_true] at h
    rw [Bool.and_eq_true, Bool.and_eq_true] at hc
    obtain ⟨⟨hx, hy⟩, he⟩ := hc
    have he := Nat.le_of_ble_eq_true he
    have rx := nQ_read hx
    have ry := nQ_read hy
    show ((Ieee.double.read x).product (Ieee.double.read y)).map Ieee.double.write = some r
    rw [rx.1, ry.1]
    show some (Ieee.double.nearest (sQ x ^^ sQ y) (mQ x * mQ y) ((eQ x : Int) - 1075 + ((eQ y : Int) - 1075))) = some r
    rw [rQ_sound (by omega) h]
  | false =>
    rw [hc, cond_false] at h
    cases hc2 : ((zQ x && nQ y) || (nQ x && zQ y) || (zQ x && zQ y)) with
    | false => rw [hc2] at h; cases h
    | true =>
      rw [hc2, cond_true] at h
      have key : ∃ m n p q, Ieee.double.read x = .number (sQ x) m p ∧ Ieee.double.read y = .number (sQ y) n q ∧ m * n = 0 := by
        simp only [Bool.or_eq_true, Bool.and_eq_true] at hc2
        rcases hc2 with (⟨h1, h2⟩ | ⟨h1, h2⟩) | ⟨h1, h2⟩
        · exact ⟨_, _, _, _, zQ_read h1, (nQ_read h2).1, Nat.zero_mul _⟩
        · exact ⟨_, _, _, _, (nQ_read h1).1, zQ_read h2, Nat.mul_zero _⟩
        · exact ⟨_, _, _, _, zQ_read h1, zQ_read h2, Nat.mul_zero _⟩
      obtain ⟨m, n, p, q, rx, ry, hmn⟩ := key
      show ((Ieee.double.read x).product (Ieee.double.read y)).map Ieee.double.write = some r
      rw [rx, ry]
      show some (Ieee.double.write (.number (sQ x ^^ sQ y) (m * n) (p + q))) = some r
      rw [hmn, write_none]
      exact h

def quoQ (x y : Nat) : Option Nat :=
  bif nQ x && nQ y && Nat.ble (eQ y) (eQ x + 1019) then
    rQ (sQ x ^^ sQ y) (eQ x + 1019 - eQ y) (2 * (mQ x * 18014398509481984 / mQ y) + bif Nat.beq (mQ x * 18014398509481984 % mQ y) 0 then 0 else 1)
  else bif zQ x && nQ y then some (wQ (sQ x ^^ sQ y)) else none
theorem quoQ_sound {x y r : Nat} (h : quoQ x y = some r) : floatBits .quo .f64 x y = some r := by
  unfold quoQ at h
  cases hc : (nQ x && nQ y && Nat.ble (eQ y) (eQ x + 1019)) with
  | true =>
    rw [hc, cond_true] at h
    rw [Bool.and_eq_true, Bool.and_eq_true] at hc
    obtain ⟨⟨hx, hy⟩, he⟩ := hc
    have he := Nat.le_of_ble_eq_true he
    have rx := nQ_read hx
    have ry := nQ_read hy
    have hy0 : mQ y ≠ 0 := by omega
    have e := ar_quo_num (a := some x) (b := some y) ⟨x, rfl, rx.1⟩ ⟨y, rfl, ry.1⟩ hy0
    have e' : floatBits .quo .f64 x y = _ := e
    rw [e']
    have lx : (mQ x).log2 = 52 := (Nat.log2_eq_iff (by omega)).2 ⟨rx.2.2.2.1, rx.2.2.2.2⟩
    have ly : (mQ y).log2 = 52 := (Nat.log2_eq_iff hy0).2 ⟨ry.2.2.2.1, ry.2.2.2.2⟩
    rw [lx, ly, show 54 + 52 - 52 = 54 from rfl, Nat.shiftLeft_eq, show (2 : Nat) ^ 54 = 18014398509481984 from by decide]
    have e2 : (mQ x * 18014398509481984 % mQ y != 0).toNat = bif Nat.beq (mQ x * 18014398509481984 % mQ y) 0 then 0 else 1 := by
      rw [beq_iff']
      show (!(mQ x * 18014398509481984 % mQ y == 0)).toNat = _
      cases (mQ x * 18014398509481984 % mQ y == 0) <;> rfl
    rw [e2]
    show some (Ieee.double.nearest (sQ x ^^ sQ y) _ _) = some r
    rw [rQ_sound (by omega) h]
  | false =>
    rw [hc, cond_false] at h
    cases hc2 : (zQ x && nQ y) with
    | false => rw [hc2] at h; cases h
    | true =>
      rw [hc2, cond_true] at h
      rw [Bool.and_eq_true] at hc2
      have rx := zQ_read hc2.1
      have ry := nQ_read hc2.2
      have hy0 : mQ y ≠ 0 := by omega
      have e := ar_quo_num (a := some x) (b := some y) ⟨x, rfl, rx⟩ ⟨y, rfl, ry.1⟩ hy0
      have e' : floatBits .quo .f64 x y = _ := e
      rw [e']
      have d1 : (0 : Nat) <<< (54 + (mQ y).log2 - Nat.log2 0) = 0 := by simp
      rw [d1, Nat.zero_div, Nat.zero_mod]
      have d2 : 2 * 0 + ((0 : Nat) != 0).toNat = 0 := rfl
      rw [d2, write_none]
      exact h

/-- The sum of two normal numbers. -/
def sumQ (s t : Bool) (A C base : Nat) : Option Nat :=
  bif s == t then rQ s base (A + C)
  else bif Nat.blt C A then rQ s base (A - C)
  else bif Nat.blt A C then rQ t base (C - A) else some 0
theorem sumQ_sound {s t : Bool} {m n r base : Nat} {i j : Int} (hb : min i j = (base : Int) - 1074) (hi : m ≠ 0)
    (h : sumQ s t (m * 2 ^ (i - min i j).toNat) (n * 2 ^ (j - min i j).toNat) base = some r) :
    ((Ieee.Datum.number s m i).sum (.number t n j)).map Ieee.double.write = some r := by
  show some (Ieee.double.write (.number (if Ieee.signed s m (i - min i j).toNat + Ieee.signed t n (j - min i j).toNat = 0 then s && t else decide (Ieee.signed s m (i - min i j).toNat + Ieee.signed t n (j - min i j).toNat < 0)) (Ieee.signed s m (i - min i j).toNat + Ieee.signed t n (j - min i j).toNat).natAbs (min i j))) = some r
  have hA0 : 0 < m * 2 ^ (i - min i j).toNat := Nat.mul_pos (by omega) (Nat.two_pow_pos _)
  have sg : ∀ (u : Bool) (a k : Nat), Ieee.signed u a k = if u then -((a * 2 ^ k : Nat) : Int) else ((a * 2 ^ k : Nat) : Int) := by
    intro u a k
    unfold Ieee.signed
    rw [Nat.shiftLeft_eq]
  rw [sg, sg]
  generalize m * 2 ^ (i - min i j).toNat = A at *
  generalize n * 2 ^ (j - min i j).toNat = C at *
  unfold sumQ at h
  have fin : ∀ (neg : Bool) (M : Nat), rQ neg base M = some r → some (Ieee.double.write (.number neg M (min i j))) = some r := by
    intro neg M hr
    have := rQ_sound hb hr
    exact congrArg some this
  cases s <;> cases t
  · rw [show (false == false) = true from rfl, cond_true] at h
    simp only [Bool.false_eq_true, if_false]
    rw [if_neg (by omega), decide_eq_false (by omega), show ((A : Int) + (C : Int)).natAbs = A + C from by omega]
    exact fin _ _ h
  · rw [show (false == true) = false from rfl, cond_false] at h
    simp only [Bool.false_eq_true, if_false, if_true]
    rcases Nat.lt_trichotomy C A with hlt | heq | hlt
    · rw [show Nat.blt C A = true from by rw [blt_iff]; exact decide_eq_true hlt, cond_true] at h
      rw [if_neg (by omega), decide_eq_false (by omega), show ((A : Int) + -(C : Int)).natAbs = A - C from by omega]
      exact fin _ _ h
    · rw [show Nat.blt C A = false from by rw [blt_iff]; exact decide_eq_false (by omega), cond_false, show Nat.blt A C = false from by rw [blt_iff]; exact decide_eq_false (by omega), cond_false] at h
      rw [if_pos (by omega), show ((A : Int) + -(C : Int)).natAbs = 0 from by omega, Bool.false_and, write_none]
      exact h
    · rw [show Nat.blt C A = false from by rw [blt_iff]; exact decide_eq_false (by omega), cond_false, show Nat.blt A C = true from by rw [blt_iff]; exact decide_eq_true hlt, cond_true] at h
      rw [if_neg (by omega), decide_eq_true (by omega), show ((A : Int) + -(C : Int)).natAbs = C - A from by omega]
      exact fin _ _ h
  · rw [show (true == false) = false from rfl, cond_false] at h
    simp only [Bool.false_eq_true, if_false, if_true]
    rcases Nat.lt_trichotomy C A with hlt | heq | hlt
    · rw [show Nat.blt C A = true from by rw [blt_iff]; exact decide_eq_true hlt, cond_true] at h
      rw [if_neg (by omega), decide_eq_true (by omega), show (-(A : Int) + (C : Int)).natAbs = A - C from by omega]
      exact fin _ _ h
    · rw [show Nat.blt C A = false from by rw [blt_iff]; exact decide_eq_false (by omega), cond_false, show Nat.blt A C = false from by rw [blt_iff]; exact decide_eq_false (by omega), cond_false] at h
      rw [if_pos (by omega), show (-(A : Int) + (C : Int)).natAbs = 0 from by omega, Bool.and_false, write_none]
      exact h
    · rw [show Nat.blt C A = false from by rw [blt_iff]; exact decide_eq_false (by omega), cond_false, show Nat.blt A C = true from by rw [blt_iff]; exact decide_eq_true hlt, cond_true] at h
      rw [if_neg (by omega), decide_eq_false (by omega), show (-(A : Int) + (C : Int)).natAbs = C - A from by omega]
      exact fin _ _ h
  · rw [show (true == true) = true from rfl, cond_true] at h
    simp only [if_true]
    rw [if_neg (by omega), decide_eq_true (by omega), show (-(A : Int) + -(C : Int)).natAbs = A + C from by omega]
    exact fin _ _ h

/-- The sum; t: the second's sign, as it is to be taken. -/
def addT (x y : Nat) (t : Bool) : Option Nat :=
  bif nQ x && nQ y then
    bif Nat.ble (eQ y) (eQ x) then sumQ (sQ x) t (mQ x * 2 ^ (eQ x - eQ y)) (mQ y) (eQ y - 1)
    else sumQ (sQ x) t (mQ x) (mQ y * 2 ^ (eQ y - eQ x)) (eQ x - 1)
  else none
theorem addT_sound {x y r : Nat} {t : Bool} (h : addT x y t = some r) : ((Ieee.Datum.number (sQ x) (mQ x) ((eQ x : Int) - 1075)).sum (.number t (mQ y) ((eQ y : Int) - 1075))).map Ieee.double.write = some r ∧ nQ x = true ∧ nQ y = true := by
  unfold addT at h
  cases hc : (nQ x && nQ y) with
  | false => rw [hc] at h; cases h
  | true =>
    rw [hc, cond_true] at h
    rw [Bool.and_eq_true] at hc
    obtain ⟨hx, hy⟩ := hc
    have rx := nQ_read hx
    have ry := nQ_read hy
    refine ⟨?_, hx, hy⟩
    by_cases he : eQ y ≤ eQ x
    · rw [show Nat.ble (eQ y) (eQ x) = true from (Nat.ble_eq_true_of_le he), cond_true] at h
      refine sumQ_sound (base := eQ y - 1) (by omega) (by omega) ?_
      have hmn : min ((eQ x : Int) - 1075) ((eQ y : Int) - 1075) = (eQ y : Int) - 1075 := by omega
      rw [hmn, show ((eQ x : Int) - 1075 - ((eQ y : Int) - 1075)).toNat = eQ x - eQ y from by omega, show ((eQ y : Int) - 1075 - ((eQ y : Int) - 1075)).toNat = 0 from by omega, Nat.pow_zero, Nat.mul_one]
      exact h
    · rw [show Nat.ble (eQ y) (eQ x) = false from by rw [ble_iff]; exact decide_eq_false he, cond_false] at h
      refine sumQ_sound (base := eQ x - 1) (by omega) (by omega) ?_
      have hmn : min ((eQ x : Int) - 1075) ((eQ y : Int) - 1075) = (eQ x : Int) - 1075 := by omega
      rw [hmn, show ((eQ x : Int) - 1075 - ((eQ x : Int) - 1075)).toNat = 0 from by omega, show ((eQ y : Int) - 1075 - ((eQ x : Int) - 1075)).toNat = eQ y - eQ x from by omega, Nat.pow_zero, Nat.mul_one]
      exact h

/-- A sum with nought is the number itself. -/
theorem sum_zero_right {x : Nat} (hx : x < 2 ^ 64) (h : nQ x = true) (t : Bool) : ((Ieee.double.read x).sum (.number t 0 (-1074))).map Ieee.double.write = some x := by
  have rx := nQ_read h
  have hw := write_read hx rx.1
  have hm0 : mQ x ≠ 0 := by omega
  rw [rx.1]
  generalize sQ x = s at *
  generalize mQ x = m at *
  generalize (eQ x : Int) - 1075 = i at *
  obtain ⟨k, hk⟩ : ∃ k : Nat, min i (-1074) = i - (k : Int) := ⟨(i - min i (-1074)).toNat, by omega⟩
  have hk2 : (i - min i (-1074)).toNat = k := by omega
  unfold Ieee.Datum.sum
  simp only [Option.map_some]
  have e2 : Ieee.signed t 0 ((-1074 : Int) - min i (-1074)).toNat = 0 := by unfold Ieee.signed; simp
  rw [e2, Int.add_zero, hk2]
  have e3 := signed_abs s m k
  have hpos : 0 < m * 2 ^ k := Nat.mul_pos (by omega) (Nat.two_pow_pos _)
  have hne : Ieee.signed s m k ≠ 0 := by
    intro h0
    rw [h0] at e3
    simp at e3
    omega
  have e5 : decide (Ieee.signed s m k < 0) = s := by
    unfold Ieee.signed at hne ⊢
    cases s
    · simp only [Bool.false_eq_true, if_false] at hne ⊢
      exact decide_eq_false (by omega)
    · simp only [if_true] at hne ⊢
      exact decide_eq_true (by omega)
  rw [if_neg hne, e5, e3, hk]
  show some (Ieee.double.nearest s (m * 2 ^ k) (i - k)) = some x
  rw [nearest_scale]
  exact congrArg some hw
theorem sum_comm_zero {x : Nat} (hx : x < 2 ^ 64) (h : nQ x = true) (s : Bool) (d : Ieee.Datum) (hd : d = .number (sQ x) (mQ x) ((eQ x : Int) - 1075)) : ((Ieee.Datum.number s 0 (-1074)).sum d).map Ieee.double.write = some x := by
  have h1 := sum_zero_right hx h s
  rw [(nQ_read h).1] at h1
  rw [hd, ← h1]
  unfold Ieee.Datum.sum
  simp only [Option.map_some]
  rw [Int.min_comm, Int.add_comm, Bool.and_comm]

def addQ (x y : Nat) : Option Nat :=
  bif nQ y then (bif nQ x then addT x y (sQ y) else bif zQ x && Nat.blt y 18446744073709551616 then some y else none)
  else bif zQ y && nQ x && Nat.blt x 18446744073709551616 then some x else none
theorem addQ_sound {x y r : Nat} (h : addQ x y = some r) : floatBits .add .f64 x y = some r := by
  unfold addQ at h
  show ((Ieee.double.read x).sum (Ieee.double.read y)).map Ieee.double.write = some r
  cases hy : nQ y with
  | true =>
    rw [hy, cond_true] at h
    cases hx : nQ x with
    | true =>
      rw [hx, cond_true] at h
      rw [(nQ_read hx).1, (nQ_read hy).1]
      exact (addT_sound h).1
    | false =>
      rw [hx, cond_false] at h
      cases hz : (zQ x && Nat.blt y 18446744073709551616) with
      | false => rw [hz] at h; cases h
      | true =>
        rw [hz, cond_true] at h
        rw [Bool.and_eq_true, blt_iff, decide_eq_true_eq] at hz
        rw [zQ_read hz.1, ← h]
        exact sum_comm_zero hz.2 hy _ _ (nQ_read hy).1
  | false =>
    rw [hy, cond_false] at h
    cases hz : (zQ y && nQ x && Nat.blt x 18446744073709551616) with
    | false => rw [hz] at h; cases h
    | true =>
      rw [hz, cond_true] at h
      rw [Bool.and_eq_true, Bool.and_eq_true, blt_iff, decide_eq_true_eq] at hz
      rw [zQ_read hz.1.1, ← h]
      exact sum_zero_right hz.2 hz.1.2 _

def subQ (x y : Nat) : Option Nat :=
  bif nQ y then (bif nQ x then addT x y (!(sQ y)) else none)
  else bif zQ y && nQ x && Nat.blt x 18446744073709551616 then some x else none
theorem subQ_sound {x y r : Nat} (h : subQ x y = some r) : floatBits .sub .f64 x y = some r := by
  unfold subQ at h
  show ((Ieee.double.read x).sum (Ieee.double.read y).opposite).map Ieee.double.write = some r
  cases hy : nQ y with
  | true =>
    rw [hy, cond_true] at h
    cases hx : nQ x with
    | true =>
      rw [hx, cond_true] at h
      rw [(nQ_read hx).1, (nQ_read hy).1]
      exact (addT_sound h).1
    | false => rw [hx] at h; cases h
  | false =>
    rw [hy, cond_false] at h
    cases hz : (zQ y && nQ x && Nat.blt x 18446744073709551616) with
    | false => rw [hz] at h; cases h
    | true =>
      rw [hz, cond_true] at h
      rw [Bool.and_eq_true, Bool.and_eq_true, blt_iff, decide_eq_true_eq] at hz
      rw [zQ_read hz.1.1, ← h]
      exact sum_zero_right hz.2 hz.1.2 _
theorem fb_of {op : BinOp} {x y r : Nat} (h : floatBits op .f64 x y = some r) : fb op x y = r := by unfold fb; rw [h]; rfl
end Go.Proofs.Ytcclmlabcihdoaa.Fl
