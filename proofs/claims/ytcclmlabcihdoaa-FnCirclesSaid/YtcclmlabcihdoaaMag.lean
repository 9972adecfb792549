/-
  Plain laws on the size of floats: a number is rounded by its value; what + - * / and the root make of numbers below a power of two; what is far below the greatest float32 is narrowed by itself. No conditions.
-/
import Derived.Test.YtcclmlabcihdoaaFl
namespace Go.Proofs.Ytcclmlabcihdoaa.Fl
open Go

/-! ### Rounding -/

theorem cut_le (neg : Bool) (n drop : Nat) : Ieee.Toward.even.cut neg n drop ≤ n / 2 ^ min drop (n.log2 + 2) + 1 := by
  unfold Ieee.Toward.cut
  simp only [Nat.one_shiftLeft]
  have : ∀ b : Bool, b.toNat ≤ 1 := by intro b; cases b <;> decide
  exact Nat.add_le_add_left (this _) _

theorem cut_exact (way : Ieee.Toward) (neg : Bool) (q d : Nat) (hq : q ≠ 0) : way.cut neg (q * 2 ^ d) d = q := by
  have hp : 0 < 2 ^ d := Nat.two_pow_pos _
  have hl : d ≤ (q * 2 ^ d).log2 := by
    have h1 : 2 ^ d ≤ q * 2 ^ d := Nat.le_mul_of_pos_left _ (by omega)
    exact (Nat.le_log2 (Nat.mul_ne_zero hq (by omega))).2 h1
  unfold Ieee.Toward.cut
  rw [Nat.min_eq_left (by omega)]
  simp only [Nat.one_shiftLeft, Nat.mul_div_cancel _ hp, Nat.mul_mod_left]
  cases way <;> simp

theorem log2_mul_pow {m k : Nat} (hm : m ≠ 0) : (m * 2 ^ k).log2 = m.log2 + k := by
  have h := log2_bounds hm
  have hp : 0 < 2 ^ k := Nat.two_pow_pos _
  refine (Nat.log2_eq_iff (Nat.mul_ne_zero hm (by omega))).2 ⟨?_, ?_⟩
  · rw [Nat.pow_add]; exact Nat.mul_le_mul_right _ h.1
  · rw [show m.log2 + k + 1 = (m.log2 + 1) + k from by omega, Nat.pow_add]; exact Nat.mul_lt_mul_of_pos_right h.2 hp

/-- A number is rounded by its value: trailing noughts don't matter. -/
theorem nearest_shift (f : Ieee.Format) (neg : Bool) (m k : Nat) (p : Int) (hlog : m.log2 ≤ f.fractionBits) (hp : f.leastPlace ≤ p) :
    f.nearest neg (m * 2 ^ k) (p - k) = f.nearest neg m p := by
  by_cases hm : m = 0
  · subst hm; simp [Ieee.Format.nearest]
  · have hmk : m * 2 ^ k ≠ 0 := Nat.mul_ne_zero hm (by have := Nat.two_pow_pos k; omega)
    unfold Ieee.Format.nearest
    rw [if_neg hm, if_neg hmk, log2_mul_pow hm]
    have e : (p - (k : Int) + ((m.log2 + k : Nat) : Int) - (f.fractionBits : Int)) = p + (m.log2 : Int) - f.fractionBits := by omega
    simp only [e]
    generalize hL : max (p + (m.log2 : Int) - f.fractionBits) f.leastPlace = L
    have hLp : L ≤ p := by omega
    have h0 : (L - p).toNat = 0 := by omega
    rw [h0, cut_zero]
    by_cases hk : L ≤ p - k
    · have h1 : (L - (p - k)).toNat = 0 := by omega
      rw [h1, cut_zero, Nat.shiftLeft_eq, Nat.shiftLeft_eq, Nat.mul_assoc, ← Nat.pow_add, show k + (p - k - L).toNat = (p - L).toNat from by omega]
    · have h1 : (p - (k : Int) - L).toNat = 0 := by omega
      have h2 : (L - (p - (k : Int))).toNat = k - (p - L).toNat := by omega
      have h3 : m * 2 ^ k = (m * 2 ^ (p - L).toNat) * 2 ^ (k - (p - L).toNat) := by
        rw [Nat.mul_assoc, ← Nat.pow_add, show (p - L).toNat + (k - (p - L).toNat) = k from by omega]
      have h4 : Ieee.Toward.even.cut neg (m * 2 ^ k) (k - (p - L).toNat) = m * 2 ^ (p - L).toNat := by
        rw [h3]
        exact cut_exact _ _ _ _ (Nat.mul_ne_zero hm (by have := Nat.two_pow_pos (p - L).toNat; omega))
      rw [h1, h2, Nat.shiftLeft_zero, h4, Nat.shiftLeft_eq]

/-- What is kept of a significand: at most two binades. -/
theorem kept_le (f : Ieee.Format) (neg : Bool) {m : Nat} (p : Int) (hm : m ≠ 0) :
    Ieee.Toward.even.cut neg (m <<< (p - max (p + m.log2 - f.fractionBits) f.leastPlace).toNat) (max (p + m.log2 - f.fractionBits) f.leastPlace - p).toNat ≤ 2 * f.binade := by
  have hb := log2_bounds hm
  generalize hL : max (p + (m.log2 : Int) - f.fractionBits) f.leastPlace = L
  have hB : 2 * f.binade = 2 ^ (f.fractionBits + 1) := by unfold Ieee.Format.binade; rw [Nat.pow_succ, Nat.mul_comm]
  by_cases h : L ≤ p
  · have h0 : (L - p).toNat = 0 := by omega
    have := shift_lt f hm (p := p) (by omega)
    rw [hL] at this
    rw [h0, cut_zero]
    omega
  · have h1 : (p - L).toNat = 0 := by omega
    rw [h1, Nat.shiftLeft_zero]
    refine Nat.le_trans (cut_le _ _ _) ?_
    rw [hB]
    have hlt : m / 2 ^ min (L - p).toNat (m.log2 + 2) < 2 ^ (f.fractionBits + 1) := by
      rw [Nat.div_lt_iff_lt_mul (Nat.two_pow_pos _), ← Nat.pow_add]
      exact Nat.lt_of_lt_of_le hb.2 (Nat.pow_le_pow_right (by omega) (by omega))
    exact hlt

/-- Below 2 ^ k (of a number; of others nothing is said). -/
def Sm (k : Int) (d : Ieee.Datum) : Prop := ∀ n m p, d = .number n m p → m = 0 ∨ (m.log2 : Int) + p < k

theorem Sm.mono {k k' : Int} {d : Ieee.Datum} (h : Sm k d) (hk : k ≤ k') : Sm k' d := fun n m p e => (h n m p e).imp id (fun h => by omega)

theorem log2_add_binade (f : Ieee.Format) (r : Nat) (h : r < f.binade) : (f.binade + r).log2 = f.fractionBits := by
  have hB := binade_pos f
  refine (Nat.log2_eq_iff (by omega)).2 ⟨?_, ?_⟩
  · show f.binade ≤ _; omega
  · rw [Nat.pow_succ]; show _ < f.binade * 2; omega

theorem nearest_rung (f : Ieee.Format) (neg : Bool) {m : Nat} (p : Int) (hm : m ≠ 0) :
    ∃ r, f.nearest neg m p = f.word neg (min r f.infRung) ∧ r ≤ ((max (p + m.log2 - f.fractionBits) f.leastPlace) - f.leastPlace).toNat * f.binade + 2 * f.binade := by
  unfold Ieee.Format.nearest
  rw [if_neg hm]
  exact ⟨_, rfl, Nat.add_le_add_left (kept_le f neg p hm) _⟩

theorem nearest_small (f : Ieee.Format) (hi : 2 * f.binade ≤ f.infRung) (neg : Bool) (m : Nat) (p k : Int) (hk : f.leastPlace + f.fractionBits + 1 ≤ k) (h : m = 0 ∨ (m.log2 : Int) + p < k) :
    Sm (k + 1) (f.read (f.nearest neg m p)) := by
  have hB := binade_pos f
  intro n' m' p' e
  by_cases hm : m = 0
  · subst hm
    have : f.nearest neg 0 p = f.word neg 0 := by simp [Ieee.Format.nearest]
    rw [this, read_word_small f neg (by omega) hB] at e
    cases e
    exact .inl rfl
  · have hlt := h.resolve_left hm
    obtain ⟨r0, hr0, hle⟩ := nearest_rung f neg p hm
    rw [hr0] at e
    generalize hr : min r0 f.infRung = r at *
    have hrle : r ≤ ((max (p + m.log2 - f.fractionBits) f.leastPlace) - f.leastPlace).toNat * f.binade + 2 * f.binade := by omega
    have hri : r ≤ f.infRung := by omega
    by_cases h1 : r < f.binade
    · rw [read_word_small f neg (by omega) h1] at e
      cases e
      by_cases h0 : m' = 0
      · exact .inl h0
      · refine .inr ?_
        have := log2_lt (n := f.fractionBits) h0 h1
        omega
    · by_cases h2 : r < f.infRung
      · rw [read_word_normal f neg (by omega) h2] at e
        cases e
        refine .inr ?_
        rw [log2_add_binade f _ (Nat.mod_lt _ hB)]
        have hd : r / f.binade ≤ ((max (p + m.log2 - f.fractionBits) f.leastPlace) - f.leastPlace).toNat + 2 := by
          have : r / f.binade ≤ (((max (p + m.log2 - f.fractionBits) f.leastPlace) - f.leastPlace).toNat * f.binade + 2 * f.binade) / f.binade := Nat.div_le_div_right hrle
          rw [← Nat.add_mul, Nat.mul_div_cancel _ hB] at this
          exact this
        have h1' : 1 ≤ r / f.binade := (Nat.le_div_iff_mul_le hB).2 (by omega)
        generalize r / f.binade = d at *
        omega
      · have : r = f.infRung := by omega
        subst this
        rw [read_word_inf f neg (by omega)] at e
        cases e

/-- Rounded, it is no infinity, if it is far below the greatest number. -/
theorem nearest_finite (f : Ieee.Format) (hi : 2 * f.binade ≤ f.infRung) (neg : Bool) (m : Nat) (p k : Int) (hk : f.leastPlace + f.fractionBits + 1 ≤ k) (h : m = 0 ∨ (m.log2 : Int) + p < k)
    (hmax : (k - 1 - f.fractionBits - f.leastPlace).toNat * f.binade + 2 * f.binade < f.infRung) : (f.read (f.nearest neg m p)).isInfinity = false := by
  have hB := binade_pos f
  by_cases hm : m = 0
  · subst hm
    have : f.nearest neg 0 p = f.word neg 0 := by simp [Ieee.Format.nearest]
    rw [this, read_word_small f neg (by omega) hB]; rfl
  · have hlt := h.resolve_left hm
    obtain ⟨r0, hr0, hle⟩ := nearest_rung f neg p hm
    have h2 : ((max (p + m.log2 - f.fractionBits) f.leastPlace) - f.leastPlace).toNat ≤ (k - 1 - f.fractionBits - f.leastPlace).toNat := by omega
    have h3 := Nat.mul_le_mul_right f.binade h2
    have h4 : r0 < f.infRung := by omega
    rw [hr0, Nat.min_eq_left (by omega)]
    by_cases h1 : r0 < f.binade
    · rw [read_word_small f neg (by omega) h1]; rfl
    · rw [read_word_normal f neg (by omega) h4]; rfl

/-! ### Bounds of the operations, on values of float64 -/

/-- A float64 value below 2 ^ k, if it is a number. -/
def SmV (k : Int) (v : Option Nat) : Prop := ∀ x, v = some x → Sm k (Ieee.double.read x)

theorem SmV.mono {k k' : Int} {v : Option Nat} (h : SmV k v) (hk : k ≤ k') : SmV k' v := fun x e => (h x e).mono hk

theorem dbl : 2 * Ieee.double.binade ≤ Ieee.double.infRung := by decide
theorem sgl : 2 * Ieee.single.binade ≤ Ieee.single.infRung := by decide

theorem write_small {d : Ieee.Datum} {k : Int} (hk : -1021 ≤ k) (h : Sm k d) : Sm (k + 1) (Ieee.double.read (Ieee.double.write d)) := by
  cases d with
  | number n m p => exact nearest_small Ieee.double dbl n m p k (by have := bare; omega) (h n m p rfl)
  | infinity n =>
    intro n' m' p' e
    rw [show Ieee.double.write (.infinity n) = Ieee.double.word n Ieee.double.infRung from rfl, read_word_inf _ _ (by have := dbl; omega)] at e
    cases e
  | nan n t =>
    intro n' m' p' e
    have hB := binade_pos Ieee.double
    have hlt : Ieee.double.infRung + t % Ieee.double.binade < Ieee.double.signWeight := by
      have := Ieee.double.infRung_add_binade
      have := Nat.mod_lt t hB
      omega
    have h2 := read_rung Ieee.double n hlt
    rw [show Ieee.double.write (.nan n t) = Ieee.double.word n (Ieee.double.infRung + t % Ieee.double.binade) from rfl] at e
    unfold Ieee.Format.read at e
    simp only [h2.1, h2.2] at e
    have := dbl
    rw [if_neg (by omega), if_neg (by omega)] at e
    split at e <;> cases e

theorem signed_abs (n : Bool) (m u : Nat) : (Ieee.signed n m u).natAbs = m * 2 ^ u := by
  unfold Ieee.signed
  rw [Nat.shiftLeft_eq]
  cases n <;> simp [Int.natAbs_mul, Int.natAbs_pow]

theorem log2_lt_iff {m : Nat} (hm : m ≠ 0) {k : Nat} : m.log2 < k ↔ m < 2 ^ k := Nat.log2_lt hm

theorem sum_small {a b d : Ieee.Datum} {k : Int} (ha : Sm k a) (hb : Sm k b) (h : a.sum b = some d) : Sm (k + 1) d := by
  unfold Ieee.Datum.sum at h
  split at h
  · cases h
  · cases h
  · split at h
    · cases h; intro n m p e; cases e
    · cases h
  · cases h; intro n m p e; cases e
  · cases h; intro n m p e; cases e
  · rename_i s m i t n j
    cases h
    intro n' m' p' e
    cases e
    by_cases h0 : (Ieee.signed s m (i - min i j).toNat + Ieee.signed t n (j - min i j).toNat).natAbs = 0
    · exact .inl h0
    refine .inr ?_
    have e1 := signed_abs s m (i - min i j).toNat
    have e2 := signed_abs t n (j - min i j).toNat
    generalize Ieee.signed s m (i - min i j).toNat = x at *
    generalize Ieee.signed t n (j - min i j).toNat = y at *
    have hle : (x + y).natAbs ≤ x.natAbs + y.natAbs := Int.natAbs_add_le x y
    -- both are below 2 ^ (k - base)
    have key : ∀ (m : Nat) (i : Int) (base : Int), base ≤ i → (m = 0 ∨ (m.log2 : Int) + i < k) → m * 2 ^ (i - base).toNat < 2 ^ (k - base).toNat ∨ m * 2 ^ (i - base).toNat = 0 := by
      intro m i base hbi hm
      by_cases hm0 : m = 0
      · subst hm0; exact .inr (by simp)
      · refine .inl ?_
        have h1 := hm.resolve_left hm0
        have h2 := (log2_bounds hm0).2
        have hp : 0 < 2 ^ (i - base).toNat := Nat.two_pow_pos _
        calc m * 2 ^ (i - base).toNat < 2 ^ (m.log2 + 1) * 2 ^ (i - base).toNat := Nat.mul_lt_mul_of_pos_right h2 hp
          _ = 2 ^ (m.log2 + 1 + (i - base).toNat) := by rw [← Nat.pow_add]
          _ ≤ 2 ^ (k - base).toNat := Nat.pow_le_pow_right (by omega) (by omega)
    have k1 := key m i (min i j) (by omega) (ha s m i rfl)
    have k2 := key n j (min i j) (by omega) (hb t n j rfl)
    rw [← e1] at k1
    rw [← e2] at k2
    have hpos : 0 < 2 ^ (k - min i j).toNat := Nat.two_pow_pos _
    have h3 : (x + y).natAbs < 2 ^ ((k - min i j).toNat + 1) := by rw [Nat.pow_succ]; omega
    have h4 := (log2_lt_iff h0).2 h3
    -- the base is below k, or all is nought
    have h5 : min i j < k := by
      have : x.natAbs ≠ 0 ∨ y.natAbs ≠ 0 := by omega
      rcases this with hx | hx
      · have hm0 : m ≠ 0 := by intro e; subst e; simp at e1; omega
        have := (ha s m i rfl).resolve_left hm0
        omega
      · have hm0 : n ≠ 0 := by intro e; subst e; simp at e2; omega
        have := (hb t n j rfl).resolve_left hm0
        omega
    omega

theorem opposite_small {d : Ieee.Datum} {k : Int} (h : Sm k d) : Sm k d.opposite := by
  cases d with
  | number n m p => intro n' m' p' e; cases e; exact h n m p rfl
  | infinity n => intro n' m' p' e; cases e
  | nan n t => intro n' m' p' e; cases e

theorem product_small {a b d : Ieee.Datum} {k l : Int} (ha : Sm k a) (hb : Sm l b) (h : a.product b = some d) : Sm (k + l) d := by
  unfold Ieee.Datum.product at h
  split at h
  · cases h
  · cases h
  · cases h; intro n m p e; cases e
  · split at h
    · cases h
    · cases h; intro n m p e; cases e
  · split at h
    · cases h
    · cases h; intro n m p e; cases e
  · rename_i s m i t n j
    cases h
    intro n' m' p' e
    cases e
    by_cases hm : m = 0
    · exact .inl (by simp [hm])
    by_cases hn : n = 0
    · exact .inl (by simp [hn])
    refine .inr ?_
    have h1 := (ha s m i rfl).resolve_left hm
    have h2 := (hb t n j rfl).resolve_left hn
    have h3 : (m * n).log2 < m.log2 + n.log2 + 2 := by
      rw [log2_lt_iff (Nat.mul_ne_zero hm hn), show m.log2 + n.log2 + 2 = (m.log2 + 1) + (n.log2 + 1) from by omega, Nat.pow_add]
      exact Nat.mul_lt_mul'' (log2_bounds hm).2 (log2_bounds hn).2
    omega

/-- At least 2 ^ b, or an infinity, or no number. -/
def Bg (b : Int) (d : Ieee.Datum) : Prop := ∀ n m p, d = .number n m p → m ≠ 0 ∧ b ≤ (m.log2 : Int) + p

theorem quotient_small {digits : Nat} {a b d : Ieee.Datum} {k l : Int} (ha : Sm k a) (hb : Bg l b) (h : a.quotient digits b = some d) : Sm (k - l) d := by
  unfold Ieee.Datum.quotient at h
  split at h
  · cases h
  · cases h
  · cases h
  · cases h; intro n m p e; cases e
  · cases h; intro n m p e; cases e; exact .inl rfl
  · rename_i s m i t n j
    obtain ⟨hn, hl⟩ := hb t n j rfl
    rw [if_neg hn] at h
    cases h
    intro n' m' p' e
    cases e
    by_cases hm : m = 0
    · left; subst hm; simp
    generalize hmore : digits + n.log2 - m.log2 = more
    by_cases hq : 2 * ((m <<< more) / n) + ((m <<< more) % n != 0).toNat = 0
    · exact .inl hq
    refine .inr ?_
    have h1 := (ha s m i rfl).resolve_left hm
    have hlt : 2 * ((m <<< more) / n) + ((m <<< more) % n != 0).toNat < 2 ^ (m.log2 + more + 2 - n.log2) ∨ m.log2 + more < n.log2 := by
      by_cases hc : m.log2 + more < n.log2
      · exact .inr hc
      · refine .inl ?_
        have h2 : (m <<< more) / n < 2 ^ (m.log2 + more + 1 - n.log2) := by
          rw [Nat.div_lt_iff_lt_mul (by omega), Nat.shiftLeft_eq]
          calc m * 2 ^ more < 2 ^ (m.log2 + 1) * 2 ^ more := Nat.mul_lt_mul_of_pos_right (log2_bounds hm).2 (Nat.two_pow_pos _)
            _ = 2 ^ (m.log2 + more + 1 - n.log2) * 2 ^ n.log2 := by rw [← Nat.pow_add, ← Nat.pow_add]; congr 1; omega
            _ ≤ 2 ^ (m.log2 + more + 1 - n.log2) * n := Nat.mul_le_mul_left _ (log2_bounds hn).1
        have h3 : ((m <<< more) % n != 0).toNat ≤ 1 := by cases ((m <<< more) % n != 0) <;> decide
        rw [show m.log2 + more + 2 - n.log2 = (m.log2 + more + 1 - n.log2) + 1 from by omega, Nat.pow_succ]
        omega
    rcases hlt with hlt | hlt
    · have := (log2_lt_iff hq).2 hlt
      omega
    · omega

theorem rootFrom_lt (n : Nat) : ∀ (todo root : Nat), Ieee.Datum.rootFrom n todo root < root + 2 ^ todo
  | 0, root => by simp [Ieee.Datum.rootFrom]
  | todo + 1, root => by
    unfold Ieee.Datum.rootFrom
    simp only [Nat.one_shiftLeft]
    have h1 := rootFrom_lt n todo (if (root + 2 ^ todo) * (root + 2 ^ todo) ≤ n then root + 2 ^ todo else root)
    rw [Nat.pow_succ]
    split at h1 <;> rename_i h <;> simp only [h, if_true, if_false] <;> omega

theorem root_small {digits : Nat} {a d : Ieee.Datum} {k : Int} (ha : Sm k a) (h : a.root digits = some d) : Sm (k / 2 + 3) d := by
  unfold Ieee.Datum.root at h
  split at h
  · cases h
  · split at h
    · cases h
    · cases h; intro n m p e; cases e
  · rename_i s m i
    split at h
    · rename_i h0; cases h; intro n m p e; cases e; exact .inl h0
    · rename_i h0
      split at h
      · cases h
      · cases h
        intro n' m' p' e
        cases e
        generalize hmore : 2 * digits - m.log2 + ((i - ((2 * digits - m.log2 : Nat) : Int)) % 2).toNat = more at *
        have h1 := (ha s m i rfl).resolve_left h0
        have h2 : (m <<< more).log2 = m.log2 + more := by rw [Nat.shiftLeft_eq]; exact log2_mul_pow h0
        have h3 := rootFrom_lt (m <<< more) ((m <<< more).log2 / 2 + 1) 0
        generalize Ieee.Datum.rootFrom (m <<< more) ((m <<< more).log2 / 2 + 1) 0 = whole at *
        by_cases hz : 2 * whole + (whole * whole != m <<< more).toNat = 0
        · exact .inl hz
        · refine .inr ?_
          have h4 : (whole * whole != m <<< more).toNat ≤ 1 := by cases (whole * whole != m <<< more) <;> decide
          have h5 : 2 * whole + (whole * whole != m <<< more).toNat < 2 ^ ((m <<< more).log2 / 2 + 2) := by
            rw [show (m <<< more).log2 / 2 + 2 = ((m <<< more).log2 / 2 + 1) + 1 from rfl, Nat.pow_succ]; omega
          have h6 := (log2_lt_iff hz).2 h5
          omega

/-! ### The operations on values -/
def sqV (v : Option Nat) : Option Nat := v.bind fun x => Ieee.double.sqrt x

theorem ar_small_add {op : BinOp} (hop : op = .add ∨ op = .sub) {k : Int} {a b : Option Nat} (ha : SmV k a) (hb : SmV k b) (hk : -1022 ≤ k) : SmV (k + 2) (ar op .f64 a b) := by
  intro r hr
  unfold ar at hr
  cases a with
  | none => cases hr
  | some x =>
    cases b with
    | none => cases hr
    | some y =>
      have h1 := ha x rfl
      have h2 := hb y rfl
      rcases hop with rfl | rfl
      · have hr : ((Ieee.double.read x).sum (Ieee.double.read y)).map Ieee.double.write = some r := hr
        cases hs : (Ieee.double.read x).sum (Ieee.double.read y) with
        | none => rw [hs] at hr; cases hr
        | some d =>
          rw [hs] at hr; cases hr
          have := write_small (by omega) (sum_small h1 h2 hs)
          exact this.mono (by omega)
      · have hr : ((Ieee.double.read x).sum (Ieee.double.read y).opposite).map Ieee.double.write = some r := hr
        cases hs : (Ieee.double.read x).sum (Ieee.double.read y).opposite with
        | none => rw [hs] at hr; cases hr
        | some d =>
          rw [hs] at hr; cases hr
          have := write_small (by omega) (sum_small h1 (opposite_small h2) hs)
          exact this.mono (by omega)

theorem ar_small_mul {k l : Int} {a b : Option Nat} (ha : SmV k a) (hb : SmV l b) (hk : -1021 ≤ k + l) : SmV (k + l + 1) (ar .mul .f64 a b) := by
  intro r hr
  unfold ar at hr
  cases a with
  | none => cases hr
  | some x =>
    cases b with
    | none => cases hr
    | some y =>
      have hr : ((Ieee.double.read x).product (Ieee.double.read y)).map Ieee.double.write = some r := hr
      cases hs : (Ieee.double.read x).product (Ieee.double.read y) with
      | none => rw [hs] at hr; cases hr
      | some d =>
        rw [hs] at hr; cases hr
        exact write_small hk (product_small (ha x rfl) (hb y rfl) hs)

/-- At least 2 ^ b, of a value. -/
def BgV (b : Int) (v : Option Nat) : Prop := ∀ x, v = some x → Bg b (Ieee.double.read x)

theorem ar_small_quo {k l : Int} {a b : Option Nat} (ha : SmV k a) (hb : BgV l b) (hk : -1021 ≤ k - l) : SmV (k - l + 1) (ar .quo .f64 a b) := by
  intro r hr
  unfold ar at hr
  cases a with
  | none => cases hr
  | some x =>
    cases b with
    | none => cases hr
    | some y =>
      have hr : ((Ieee.double.read x).quotient (52 + 2) (Ieee.double.read y)).map Ieee.double.write = some r := hr
      cases hs : (Ieee.double.read x).quotient (52 + 2) (Ieee.double.read y) with
      | none => rw [hs] at hr; cases hr
      | some d =>
        rw [hs] at hr; cases hr
        exact write_small hk (quotient_small (ha x rfl) (hb y rfl) hs)

theorem sq_small {k : Int} {a : Option Nat} (ha : SmV k a) (hk : -2000 ≤ k) : SmV (k / 2 + 4) (sqV a) := by
  intro r hr
  unfold sqV at hr
  cases a with
  | none => cases hr
  | some x =>
    have hr : ((Ieee.double.read x).root (52 + 2)).map Ieee.double.write = some r := hr
    cases hs : (Ieee.double.read x).root (52 + 2) with
    | none => rw [hs] at hr; cases hr
    | some d =>
      rw [hs] at hr; cases hr
      have := write_small (by omega) (root_small (ha x rfl) hs)
      exact this.mono (by omega)

/-- A widened float32. -/
theorem widen_small (x : Nat) : SmV 129 (cv .f32 .f64 (val .f32 x)) := by
  intro r hr
  unfold cv at hr
  cases hv : val .f32 x with
  | none => rw [hv] at hr; cases hr
  | some b =>
    rw [hv] at hr
    have hr : floatToFloatBits .f32 b .f64 = some r := hr
    unfold floatToFloatBits at hr
    rw [if_neg (by decide)] at hr
    cases hd : FloatKind.f32.decode b with
    | nan p q => rw [hd] at hr; cases hr
    | infinity p =>
      rw [hd] at hr; cases hr
      have : Sm 128 (.infinity p) := fun n m p e => by cases e
      exact write_small (by omega) this
    | number p m e =>
      rw [hd] at hr
      simp only at hr
      split at hr
      · cases hr
      · cases hr
        have h1 := read_number Ieee.single sgl (x := b) hd
        obtain ⟨c1, c2, c3, c4, c5, c6, c7, c8, c9, c10⟩ := bare
        rw [c3, c1, c7] at h1
        have : Sm 128 (.number p m e) := fun n' m' p' e' => by
          cases e'
          by_cases h0 : m = 0
          · exact .inl h0
          · have := log2_lt (n := 24) h0 (by omega)
            right; omega
        exact write_small (by omega) this

/-- What is far below the greatest float32 is narrowed by itself. -/
theorem fits_small {v : Option Nat} (h : SmV 127 v) : Fits .f64 .f32 v := by
  intro x e n m p hd
  refine .inr ?_
  exact nearest_finite Ieee.single sgl n m p 127 (by decide) (h x e n m p hd) (by decide)
end Go.Proofs.Ytcclmlabcihdoaa.Fl
