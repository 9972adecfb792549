/-
  Plain laws on numbers of float64 by their bits: one operation on bounded numbers, how two numbers stand to each other, the whole part and what is left of it, the opposite. No conditions.
-/
import Derived.Test.YtcclmlabcihdoaaBd
namespace Go.Proofs.Ytcclmlabcihdoaa.Fl
open Go

/-- One operation on numbers, by their bits. -/
def fb (op : BinOp) (a b : Nat) : Nat := (floatBits op .f64 a b).getD 0
structure LeN (k : Int) (x : Nat) : Prop where
  out : Le k (some x)

theorem fb_of_le {op : BinOp} {a b : Nat} {k : Int} (h : Le k (ar op .f64 (some a) (some b))) : floatBits op .f64 a b = some (fb op a b) ∧ LeN k (fb op a b) := by
  obtain ⟨s, m, p, ⟨x, hx, hr⟩, hb⟩ := h
  have hx' : floatBits op .f64 a b = some x := hx
  unfold fb
  rw [hx']
  exact ⟨rfl, ⟨s, m, p, ⟨x, rfl, hr⟩, hb⟩⟩
theorem fb_of_up {op : BinOp} {a b : Nat} {k : Int} (h : Up k (ar op .f64 (some a) (some b))) : floatBits op .f64 a b = some (fb op a b) ∧ Up k (some (fb op a b)) := by
  obtain ⟨m, p, ⟨x, hx, hr⟩, hb⟩ := h
  have hx' : floatBits op .f64 a b = some x := hx
  unfold fb
  rw [hx']
  exact ⟨rfl, m, p, ⟨x, rfl, hr⟩, hb⟩

theorem LeN.add {op : BinOp} (hop : op = .add ∨ op = .sub) {a b : Nat} {k : Int} (ha : LeN k a) (hb : LeN k b) (h : -1074 ≤ k) (h' : k ≤ 899) : floatBits op .f64 a b = some (fb op a b) ∧ LeN (k + 1) (fb op a b) := fb_of_le (Le.add hop ha.out hb.out h h')
theorem LeN.mul {a b : Nat} {k l : Int} (ha : LeN k a) (hb : LeN l b) (hk : -1074 ≤ k) (hl : -1074 ≤ l) (h : -1074 ≤ k + l) (h' : k + l ≤ 900) : floatBits .mul .f64 a b = some (fb .mul a b) ∧ LeN (k + l) (fb .mul a b) := fb_of_le (Le.mul ha.out hb.out hk hl h h')
theorem LeN.quo {a b : Nat} {k l : Int} (ha : LeN k a) (hb : Far l (some b)) (hk : -1074 ≤ k) (hl : -1074 ≤ l) (h : -1074 ≤ k - l) (h' : k - l ≤ 900) : floatBits .quo .f64 a b = some (fb .quo a b) ∧ LeN (k - l) (fb .quo a b) := fb_of_le (Le.quo ha.out hb hk hl h h')
theorem LeN.mono {k l : Int} {x : Nat} (h : LeN k x) (hl : k ≤ l) : LeN l x := ⟨Le.mono h.out hl⟩
theorem LeN.val {k : Int} {x : Nat} (h : LeN k x) : val .f64 x = some x := by
  obtain ⟨s, m, p, hn, _⟩ := h.out
  obtain ⟨y, hy, hv⟩ := hn.is
  cases hy
  exact hv
theorem len_const {x : Nat} {s : Bool} {m : Nat} {p : Int} (k : Int) (a : Nat) (h : Ieee.double.read x = .number s m p) (hm : m ≤ 2 ^ a) (hk : p + a ≤ k) : LeN k x := ⟨le_const a ⟨x, rfl, h⟩ hm hk⟩
theorem far_const {x : Nat} {s : Bool} {m : Nat} {p : Int} (k : Int) (a : Nat) (h : Ieee.double.read x = .number s m p) (hm : 2 ^ a ≤ m) (hk : k ≤ p + a) : Far k (some x) := by
  have hb := (Num.bd (v := some x) ⟨x, rfl, h⟩)
  refine ⟨s, m, p, ⟨x, rfl, h⟩, ?_⟩
  have : mg (2 ^ a) p ≤ mg m p := mg_le_same hm
  rw [mg_pow a p (by omega)] at this
  exact Nat.le_trans (Nat.pow_le_pow_right (by omega) (by omega)) this

/-! ### Order -/
theorem compare_mul (x y : Int) (g : Nat) (hg : 0 < g) : compare (x * (g : Int)) (y * (g : Int)) = compare x y := by
  have hg' : (0 : Int) < (g : Int) := by omega
  simp only [compare, compareOfLessAndEq]
  by_cases h1 : x < y
  · rw [if_pos h1, if_pos (Int.mul_lt_mul_of_pos_right h1 hg')]
  · by_cases h2 : x = y
    · subst h2; simp
    · have h3 : y < x := by omega
      have := Int.mul_lt_mul_of_pos_right h3 hg'
      rw [if_neg h1, if_neg h2, if_neg (by omega), if_neg (by omega)]

theorem order_num {x y : Nat} {s t : Bool} {m n : Nat} {p q : Int} (hx : Ieee.double.read x = .number s m p) (hy : Ieee.double.read y = .number t n q) :
    Ieee.double.order x y = some (compare (sv s (mg m p)) (sv t (mg n q))) := by
  have b1 := (Num.bd (v := some x) ⟨x, rfl, hx⟩)
  have b2 := (Num.bd (v := some y) ⟨y, rfl, hy⟩)
  unfold Ieee.Format.order
  rw [hx, hy]
  show some (compare (Ieee.signed s m (p - min p q).toNat) (Ieee.signed t n (q - min p q).toNat)) = _
  rw [← signed_mg s m p (min p q) (by omega) (by omega), ← signed_mg t n q (min p q) (by omega) (by omega), compare_mul _ _ _ (Nat.two_pow_pos _)]

theorem some_beq (a b : Ordering) : ((some a == some b) = (a == b)) := rfl
theorem compare_gt (a b : Int) : (compare a b == .gt) = decide (b < a) := by
  simp only [compare, compareOfLessAndEq]
  split
  · rw [decide_eq_false (by omega)]; rfl
  · split
    · rw [decide_eq_false (by omega)]; rfl
    · rw [decide_eq_true (by omega)]; rfl
theorem compare_eq' (a b : Int) : (compare a b == .eq) = decide (a = b) := by
  simp only [compare, compareOfLessAndEq]
  split
  · rw [decide_eq_false (by omega)]; rfl
  · split
    · rw [decide_eq_true (by omega)]; rfl
    · rw [decide_eq_false (by omega)]; rfl

/-- A number that is below 2 ^ 52 in size. -/
def Mid (x : Nat) : Prop := ∃ s m p, Ieee.double.read x = .number s m p ∧ mg m p < mg 1 52

theorem Mid.le {x : Nat} (h : Mid x) : LeN 52 x := by
  obtain ⟨s, m, p, hr, hb⟩ := h
  exact ⟨⟨s, m, p, ⟨x, rfl, hr⟩, by unfold mg at hb ⊢; omega⟩⟩

/-! ### The whole part -/
theorem cut_whole (neg : Bool) (n d : Nat) : Ieee.Toward.zero.cut neg n d = n / 2 ^ d := by
  unfold Ieee.Toward.cut
  simp only [Nat.one_shiftLeft, Bool.toNat_false, Nat.add_zero]
  by_cases h : d ≤ n.log2 + 2
  · rw [Nat.min_eq_left h]
  · have hn : n < 2 ^ (n.log2 + 1) := Nat.lt_log2_self
    have h2 : 2 ^ (n.log2 + 1) ≤ 2 ^ d := Nat.pow_le_pow_right (by omega) (by omega)
    rw [Nat.min_eq_right (by omega), Nat.pow_succ, Nat.div_eq_of_lt (by omega), Nat.div_eq_of_lt (by omega)]

/-- The whole part of a number's size. -/
def flr (m : Nat) (p : Int) : Nat := (m <<< p.toNat) / 2 ^ (-p).toNat
theorem mg_one : mg 1 0 = 2 ^ ((0 : Int) + 4000).toNat := by unfold mg; rw [Nat.one_mul]
theorem flr_bd {m : Nat} {p : Int} (hp : -4000 ≤ p) : mg (flr m p) 0 ≤ mg m p ∧ mg m p < mg (flr m p) 0 + mg 1 0 := by
  by_cases h : 0 ≤ p
  · have e : flr m p = m * 2 ^ p.toNat := by
      unfold flr
      rw [show (-p).toNat = 0 from by omega, Nat.shiftLeft_eq, Nat.pow_zero, Nat.div_one]
    rw [e, mg_shift _ _ _ (by omega), show (0 : Int) + (p.toNat : Int) = p from by omega]
    exact ⟨Nat.le_refl _, by have := Nat.two_pow_pos ((0 : Int) + 4000).toNat; rw [mg_one]; omega⟩
  · have e : flr m p = m / 2 ^ (-p).toNat := by
      unfold flr
      rw [show p.toNat = 0 from by omega, Nat.shiftLeft_zero]
    rw [e]
    have h1 := Nat.div_add_mod m (2 ^ (-p).toNat)
    have h2 := Nat.mod_lt m (Nat.two_pow_pos (-p).toNat)
    generalize m / 2 ^ (-p).toNat = k at *
    have e0 : ∀ z, mg z 0 = mg (z * 2 ^ (-p).toNat) p := by
      intro z
      rw [mg_shift _ _ _ hp]; congr 1; omega
    rw [e0, e0]
    constructor
    · exact mg_le_same (by rw [Nat.mul_comm]; omega)
    · unfold mg
      rw [← Nat.add_mul]
      refine Nat.mul_lt_mul_of_pos_right ?_ (Nat.two_pow_pos _)
      rw [Nat.mul_comm k]; omega

/-- The whole part, by its bits, and as an integer. -/
def tr (x : Nat) : Nat := Ieee.double.write ((Ieee.double.read x).integral .zero)
def whl (x : Nat) : Int := ((Ieee.double.read x).toInt .zero).getD 0

theorem integral_num {x : Nat} {s : Bool} {m : Nat} {p : Int} (h : Ieee.double.read x = .number s m p) : (Ieee.double.read x).integral .zero = .number s (flr m p) 0 := by
  rw [h]
  show Ieee.Datum.number s (Ieee.Toward.zero.cut s (m <<< p.toNat) (-p).toNat) 0 = _
  rw [cut_whole]; rfl

theorem write_zero (s : Bool) (p : Int) : Ieee.double.write (.number s 0 p) = Ieee.double.word s 0 := by
  show Ieee.double.nearest s 0 p = _
  simp [Ieee.Format.nearest]
theorem read_zero (s : Bool) : Ieee.double.read (Ieee.double.word s 0) = .number s 0 (-1074) := by
  cases s <;> decide +kernel

theorem nearest_low (f : Ieee.Format) (neg : Bool) {r : Nat} (hi : f.binade ≤ f.infRung) (h : r < f.binade) : f.nearest neg r f.leastPlace = f.word neg r := by
  by_cases h0 : r = 0
  · subst h0; simp [Ieee.Format.nearest]
  · have hl : r.log2 < f.fractionBits := log2_lt h0 h
    rw [nearest_exact f _ _ _ h0 (by omega) (Int.le_refl _)]
    have e1 : max (f.leastPlace + (r.log2 : Int) - (f.fractionBits : Int)) f.leastPlace = f.leastPlace := by omega
    rw [e1, Int.sub_self, Int.toNat_zero, Nat.zero_mul, Nat.zero_add, Nat.shiftLeft_zero, Nat.min_eq_left (by omega)]

theorem nearest_high (f : Ieee.Format) (neg : Bool) {r : Nat} (h : f.binade ≤ r) (h' : r < f.infRung) : f.nearest neg (f.binade + r % f.binade) (f.leastPlace + (r / f.binade - 1 : Nat)) = f.word neg r := by
  have hB := binade_pos f
  have hlog := log2_add_binade f _ (Nat.mod_lt r hB)
  have hm := Nat.div_add_mod r f.binade
  have h1 : 1 ≤ r / f.binade := (Nat.le_div_iff_mul_le hB).2 (by omega)
  rw [nearest_exact f _ _ _ (by omega) (by omega) (by omega), hlog]
  generalize r / f.binade = d at *
  generalize r % f.binade = q at *
  have e1 : max (f.leastPlace + ((d - 1 : Nat) : Int) + (f.fractionBits : Int) - (f.fractionBits : Int)) f.leastPlace = f.leastPlace + ((d - 1 : Nat) : Int) := by omega
  rw [e1, Int.sub_self, Int.toNat_zero, Nat.shiftLeft_zero, show (f.leastPlace + ((d - 1 : Nat) : Int) - f.leastPlace).toNat = d - 1 from by omega]
  have e2 : (d - 1) * f.binade + (f.binade + q) = r := by
    obtain ⟨e, rfl⟩ : ∃ e, d = e + 1 := ⟨d - 1, by omega⟩
    rw [Nat.mul_succ, Nat.mul_comm] at hm
    rw [show e + 1 - 1 = e from rfl]
    omega
  rw [e2, Nat.min_eq_left (by omega)]

theorem word_parts (f : Ieee.Format) {x : Nat} (h : x < 2 * f.signWeight) : f.word (x / f.signWeight % 2 == 1) (x % f.signWeight) = x := by
  have hS : 0 < f.signWeight := Nat.two_pow_pos _
  have hm := Nat.div_add_mod x f.signWeight
  have hd : x / f.signWeight < 2 := by rw [Nat.div_lt_iff_lt_mul hS]; exact h
  unfold Ieee.Format.word
  generalize x / f.signWeight = d at *
  generalize x % f.signWeight = q at *
  by_cases h1 : d = 1
  · subst h1
    simp only [Nat.reduceMod, beq_self_eq_true, if_true]
    omega
  · have h0 : d = 0 := by omega
    subst h0
    rw [Nat.mul_zero, Nat.zero_add] at hm
    simp [hm]

/-- What is written of a number that the format has is the word from which it was read. -/
theorem write_read' (f : Ieee.Format) (hi : f.binade ≤ f.infRung) {x : Nat} {s : Bool} {m : Nat} {p : Int} (hx : x < 2 * f.signWeight) (h : f.read x = .number s m p) : f.write (.number s m p) = x := by
  show f.nearest s m p = x
  have hw := word_parts f hx
  unfold Ieee.Format.read at h
  simp only at h
  generalize hs : (x / f.signWeight % 2 == 1) = sg at *
  generalize x % f.signWeight = r at *
  split at h
  · rename_i h1
    cases h
    rw [nearest_low f _ hi h1, hw]
  · rename_i h1
    split at h
    · rename_i h2
      cases h
      rw [nearest_high f _ (by omega) h2, hw]
    · split at h <;> cases h
theorem write_read {x : Nat} {s : Bool} {m : Nat} {p : Int} (hx : x < 2 ^ 64) (h : Ieee.double.read x = .number s m p) : Ieee.double.write (.number s m p) = x :=
  write_read' Ieee.double (by have := dbl; omega) (by rw [bare.2.2.2.2.1]; omega) h

theorem write_lt64 (d : Ieee.Datum) : Ieee.double.write d < 2 ^ 64 := by
  have := Ieee.double.write_lt d
  exact this

theorem shift_toNat (m : Nat) (p base : Int) (hb : base ≤ p) (hp : -4000 ≤ base) : mg (m * 2 ^ (p - base).toNat) base = mg m p := by
  rw [mg_shift _ _ _ hp]; congr 1; omega

/-- Nought taken off leaves a number as it is. -/
theorem sub_zero {x : Nat} {s : Bool} {m : Nat} {p : Int} (hx : x < 2 ^ 64) (h : Ieee.double.read x = .number s m p) : floatBits .sub .f64 x 0 = some x := by
  have b1 := (Num.bd (v := some x) ⟨x, rfl, h⟩)
  show ((Ieee.double.read x).sum (Ieee.double.read 0).opposite).map Ieee.double.write = some x
  have h0 : (Ieee.double.read 0).opposite = .number true 0 (-1074) := by decide +kernel
  rw [h, h0]
  unfold Ieee.Datum.sum
  simp only [Option.map_some]
  have e1 : min p (-1074) = -1074 := by omega
  rw [e1]
  have e2 : Ieee.signed true 0 ((-1074 : Int) - -1074).toNat = 0 := by decide
  rw [e2, Int.add_zero]
  have e3 := signed_abs s m (p - -1074).toNat
  have e4 : Ieee.double.nearest s (m * 2 ^ (p - -1074).toNat) (p - ((p - -1074).toNat : Int)) = Ieee.double.nearest s m p := by
    by_cases hm : m = 0
    · subst hm; simp [Ieee.Format.nearest]
    · refine nearest_shift Ieee.double s m _ p ?_ (by rw [bare.2.2.2.2.2.2.2.1]; omega)
      have := log2_lt hm b1.1
      rw [bare.2.2.2.2.2.2.2.2.2]; omega
  rw [show (p - ((p - -1074).toNat : Int)) = -1074 from by omega] at e4
  have e5 : (if Ieee.signed s m (p - -1074).toNat = 0 then s && true else decide (Ieee.signed s m (p - -1074).toNat < 0)) = s := by
    by_cases hz : Ieee.signed s m (p - -1074).toNat = 0
    · rw [if_pos hz, Bool.and_true]
    · rw [if_neg hz]
      unfold Ieee.signed at hz ⊢
      cases s
      · simp only [Bool.false_eq_true, if_false] at hz ⊢
        exact decide_eq_false (by omega)
      · simp only [if_true] at hz ⊢
        exact decide_eq_true (by omega)
  rw [e5, e3]
  show some (Ieee.double.nearest s (m * 2 ^ (p - -1074).toNat) (-1074)) = some x
  rw [e4]
  exact congrArg some (write_read hx h)

theorem float_of_int (n : Int) : floatOfInt .f64 n = Ieee.double.write (.number (decide (n < 0)) n.natAbs 0) := rfl

theorem lt_of_mg {a b : Nat} {p : Int} (h : mg a p < mg b p) : a < b := by
  unfold mg at h
  exact Nat.lt_of_mul_lt_mul_right h

/-- What both sides know of a middling number's whole part. -/
theorem whole_bd {x : Nat} (hx : x < 2 ^ 64) (h : Mid x) :
    floatToIntVal .f64 x .i64 = some (whl x) ∧ (FloatKind.f64.format.order (tr x) 0 == some .eq) = decide (whl x = 0) ∧
    (whl x = 0 → floatBits .sub .f64 x (floatOfInt .f64 (whl x)) = some x ∧ LeN 0 x) ∧
    (whl x ≠ 0 → floatOfInt .f64 (whl x) = tr x ∧ floatBits .sub .f64 x (tr x) = some (fb .sub x (tr x)) ∧ LeN 0 (fb .sub x (tr x))) := by
  obtain ⟨s, m, p, hr, hlt⟩ := h
  have b1 := (Num.bd (v := some x) ⟨x, rfl, hr⟩)
  have hf := flr_bd (m := m) (p := p) (by omega)
  have hN : flr m p < 2 ^ 52 := by
    have h1 : mg (flr m p) 0 < mg 1 52 := Nat.lt_of_le_of_lt hf.1 hlt
    have e : mg 1 52 = mg (2 ^ 52) 0 := by rw [mg_pow 52 0 (by omega)]; unfold mg; rw [Nat.one_mul]; congr 1
    rw [e] at h1
    exact lt_of_mg h1
  have hint := integral_num hr
  have hto : (Ieee.double.read x).toInt .zero = some (sv s (flr m p)) := by
    unfold Ieee.Datum.toInt
    rw [hint]
    simp only
    unfold Ieee.signed sv
    simp
  have hw : whl x = sv s (flr m p) := by unfold whl; rw [hto]; rfl
  have hb : -4503599627370496 < sv s (flr m p) ∧ sv s (flr m p) < 4503599627370496 := by
    have := sv_abs s (flr m p)
    omega
  have ht : tr x = Ieee.double.write (.number s (flr m p) 0) := by unfold tr; rw [hint]
  obtain ⟨m', p', hr', hp', hu, hl⟩ := nearest_bd s (m := flr m p) (p := 0) (by omega) (c := flr m p) (e := 0) (by omega) (by omega) (by omega) (Nat.le_refl _)
  have hv : mg m' p' = mg (flr m p) 0 := Nat.le_antisymm (hu _ 0 (by omega) (by omega) (Nat.le_refl _)) (hl _ 0 (by omega) (by omega) (Nat.le_refl _))
  have hrt : Ieee.double.read (tr x) = .number s m' p' := by rw [ht]; exact hr'
  have h00 : Ieee.double.read 0 = .number false 0 (-1074) := by decide +kernel
  refine ⟨?_, ?_, ?_, ?_⟩
  · unfold floatToIntVal
    have : (FloatKind.f64.decode x).toInt .zero = some (sv s (flr m p)) := hto
    rw [this, hw]
    simp only
    rw [if_pos]
    constructor
    · show (-9223372036854775808 : Int) ≤ _; omega
    · show _ ≤ (9223372036854775807 : Int); omega
  · show (Ieee.double.order (tr x) 0 == some .eq) = _
    rw [order_num hrt h00, some_beq, compare_eq', hv, hw]
    apply decide_eq_decide.2
    rw [mg_zero]
    have hpos : 0 < 2 ^ ((0 : Int) + 4000).toNat := Nat.two_pow_pos _
    unfold mg
    generalize 2 ^ ((0 : Int) + 4000).toNat = g at hpos
    generalize flr m p = N
    unfold sv
    cases s
    · simp only [Bool.false_eq_true, if_false]
      constructor
      · intro h
        have : N * g = 0 := by omega
        rcases Nat.mul_eq_zero.1 this with h0 | h0 <;> omega
      · intro h
        have : N = 0 := by omega
        subst this; simp
    · simp only [if_true, Bool.false_eq_true, if_false]
      constructor
      · intro h
        have : N * g = 0 := by omega
        rcases Nat.mul_eq_zero.1 this with h0 | h0 <;> omega
      · intro h
        have : N = 0 := by omega
        subst this; simp
  · intro h0
    rw [h0]
    have e : floatOfInt .f64 0 = 0 := by decide +kernel
    rw [e]
    refine ⟨sub_zero hx hr, ⟨s, m, p, ⟨x, rfl, hr⟩, ?_⟩⟩
    have hz : flr m p = 0 := by
      have := sv_abs s (flr m p)
      rw [← hw, h0] at this
      simpa using this.symm
    rw [hz, mg_zero] at hf
    rw [← mg_one]
    omega
  · intro h0
    have hne : flr m p ≠ 0 := by
      intro e
      rw [hw, e] at h0
      apply h0
      cases s <;> rfl
    refine ⟨?_, ?_⟩
    · rw [float_of_int, ht, hw]
      congr 2
      · unfold sv
        cases s
        · simp only [Bool.false_eq_true, if_false]; exact decide_eq_false (by omega)
        · simp only [if_true]; exact decide_eq_true (by omega)
      · exact sv_abs _ _
    · refine fb_of_le ?_
      have hn1 : Num (some x) s m p := ⟨x, rfl, hr⟩
      have hn2 : Num (some (tr x)) s m' p' := ⟨tr x, rfl, hrt⟩
      obtain ⟨u, N, B, e, hB, hval, _⟩ := ar_sub_num hn1 hn2
      rw [e]
      have h5 : mg N B ≤ 2 ^ ((0 : Int) + 4000).toNat := by
        rw [← mg_one]
        rw [hv] at hval
        have e1 := sv_abs u (mg N B)
        unfold sv at hval e1
        cases s
        · simp only [Bool.false_eq_true, if_false, Bool.not_false, if_true] at hval
          omega
        · simp only [Bool.false_eq_true, if_false, Bool.not_true, if_true] at hval
          omega
      obtain ⟨m2, p2, hn, hb2, _⟩ := write_le (s := u) (m := N) (p := B) (k := 0) (by omega) (by omega) (by omega) h5
      exact ⟨u, m2, p2, hn, hb2⟩

/-! ### The opposite -/
theorem neg_read {x : Nat} {s : Bool} {m : Nat} {p : Int} (h : Ieee.double.read x = .number s m p) : Ieee.double.read (Op.negFloat .f64 x) = .number (!s) m p := by
  obtain ⟨c1, c2, c3, c4, c5, c6, c7, c8, c9, c10⟩ := bare
  have e0 : Op.negFloat .f64 x = x ^^^ 2 ^ 63 := rfl
  have e1 : (x ^^^ 2 ^ 63) % 2 ^ 63 = x % 2 ^ 63 := by
    rw [Nat.xor_mod_two_pow]
    simp
  have e2 : ((x ^^^ 2 ^ 63) / 2 ^ 63 % 2 == 1) = !(x / 2 ^ 63 % 2 == 1) := by
    have h1 : (x ^^^ 2 ^ 63).testBit 63 = (x.testBit 63 ^^ true) := by rw [Nat.testBit_xor, Nat.testBit_two_pow_self]
    simp only [Nat.testBit_eq_decide_div_mod_eq] at h1
    rw [Bool.xor_true] at h1
    rw [show ∀ z : Nat, (z == 1) = decide (z = 1) from fun z => rfl, show ∀ z : Nat, (z == 1) = decide (z = 1) from fun z => rfl]
    exact h1
  rw [e0]
  unfold Ieee.Format.read at h ⊢
  simp only [c4, c5, c6, c8] at h ⊢
  rw [show (9223372036854775808 : Nat) = 2 ^ 63 from rfl] at *
  rw [e1]
  rw [e2]
  split at h
  · rename_i h1
    cases h
    rw [if_pos h1]
  · rename_i h1
    split at h
    · rename_i h2
      cases h
      rw [if_neg h1, if_pos h2]
    · split at h <;> cases h
theorem LeN.neg {k : Int} {x : Nat} (h : LeN k x) : LeN k (Op.negFloat .f64 x) := by
  obtain ⟨s, m, p, ⟨y, hy, hr⟩, hb⟩ := h.out
  cases hy
  exact ⟨⟨!s, m, p, ⟨_, rfl, neg_read hr⟩, hb⟩⟩
end Go.Proofs.Ytcclmlabcihdoaa.Fl
