/-
  Plain laws on the size of float64 values, exact at the powers of two: what is at most (at least) a number of the format stays so when it is rounded; sums, products, quotients and roots of bounded values. No conditions.
-/
import Derived.Test.YtcclmlabcihdoaaMag
namespace Go.Proofs.Ytcclmlabcihdoaa.Fl
open Go

/-- The size of 'm * 2 ^ p', in units of 2 ^ -4000. -/
def mg (m : Nat) (p : Int) : Nat := m * 2 ^ (p + 4000).toNat

theorem mg_zero (p : Int) : mg 0 p = 0 := by simp [mg]
theorem mg_le_same {m n : Nat} {p : Int} (h : m ≤ n) : mg m p ≤ mg n p := Nat.mul_le_mul_right _ h
theorem mg_shift (m k : Nat) (p : Int) (hp : -4000 ≤ p) : mg (m * 2 ^ k) p = mg m (p + k) := by
  unfold mg
  rw [Nat.mul_assoc, ← Nat.pow_add, show k + (p + 4000).toNat = (p + k + 4000).toNat from by omega]
theorem mg_pow (k : Nat) (p : Int) (hp : -4000 ≤ p) : mg (2 ^ k) p = 2 ^ (p + k + 4000).toNat := by
  unfold mg
  rw [← Nat.pow_add, show k + (p + 4000).toNat = (p + k + 4000).toNat from by omega]
theorem mg_lt {m a : Nat} {p : Int} (hp : -4000 ≤ p) (h : m < 2 ^ a) : mg m p < 2 ^ (p + a + 4000).toNat := by
  rw [← mg_pow a p hp]
  exact Nat.mul_lt_mul_of_pos_right h (Nat.two_pow_pos _)
theorem mg_log {m : Nat} (hm : m ≠ 0) {p : Int} (hp : -4000 ≤ p) : 2 ^ (p + m.log2 + 4000).toNat ≤ mg m p := by
  rw [← mg_pow m.log2 p hp]
  exact mg_le_same (log2_bounds hm).1
theorem pow_lt_pow {a b : Nat} (h : 2 ^ a < 2 ^ b) : a < b := (Nat.pow_lt_pow_iff_right (by omega)).1 h
theorem pow_le_pow {a b : Nat} (h : 2 ^ a ≤ 2 ^ b) : a ≤ b := (Nat.pow_le_pow_iff_right (by omega)).1 h

theorem cut_up (neg : Bool) (n drop C : Nat) (h : n ≤ C * 2 ^ drop) : Ieee.Toward.even.cut neg n drop ≤ C := by
  unfold Ieee.Toward.cut
  simp only [Nat.one_shiftLeft]
  by_cases hd : drop ≤ n.log2 + 2
  · rw [Nat.min_eq_left hd]
    have hp : 0 < 2 ^ drop := Nat.two_pow_pos _
    have h1 := Nat.div_add_mod n (2 ^ drop)
    generalize n / 2 ^ drop = low at *
    generalize n % 2 ^ drop = rest at *
    generalize 2 ^ drop = g at *
    have hlow : low ≤ C := by
      exact Nat.le_of_mul_le_mul_left (show g * low ≤ g * C from by rw [Nat.mul_comm g C]; omega) hp
    cases hb : (decide (g < 2 * rest) || (g == 2 * rest && low % 2 == 1)) with
    | false => simpa using hlow
    | true =>
      have hr : 0 < rest := by
        simp only [Bool.or_eq_true, decide_eq_true_eq, Bool.and_eq_true, beq_iff_eq] at hb
        omega
      have : low < C := by
        exact Nat.lt_of_mul_lt_mul_left (show g * low < g * C from by rw [Nat.mul_comm g C]; omega)
      show low + 1 ≤ C
      omega
  · have hn : n < 2 ^ (n.log2 + 1) := Nat.lt_log2_self
    rw [Nat.min_eq_right (by omega), Nat.pow_succ]
    rw [Nat.div_eq_of_lt (by omega), Nat.mod_eq_of_lt (by omega)]
    rw [decide_eq_false (by omega)]
    rw [show (2 ^ (n.log2 + 1) * 2 == 2 * n) = false from by rw [beq_eq_false_iff_ne]; omega]
    simp

theorem cut_lo (neg : Bool) (n drop C : Nat) (h : C * 2 ^ drop ≤ n) : C ≤ Ieee.Toward.even.cut neg n drop := by
  unfold Ieee.Toward.cut
  simp only [Nat.one_shiftLeft]
  refine Nat.le_trans ?_ (Nat.le_add_right _ _)
  by_cases hd : drop ≤ n.log2 + 2
  · rw [Nat.min_eq_left hd]
    exact (Nat.le_div_iff_mul_le (Nat.two_pow_pos _)).2 h
  · have hn : n < 2 ^ (n.log2 + 1) := Nat.lt_log2_self
    have h2 : 2 ^ (n.log2 + 1) ≤ 2 ^ drop := Nat.pow_le_pow_right (by omega) (by omega)
    have : C = 0 := by
      rcases Nat.eq_zero_or_pos C with h0 | h0
      · exact h0
      · have := Nat.mul_le_mul_right (2 ^ drop) (show 1 ≤ C from h0); omega
    rw [this]; exact Nat.zero_le _

/-- The place and the digits that are kept. -/
def lastOf (m : Nat) (p : Int) : Int := max (p + m.log2 - 52) (-1074)
def keptOf (neg : Bool) (m : Nat) (p : Int) : Nat := Ieee.Toward.even.cut neg (m <<< (p - lastOf m p).toNat) (lastOf m p - p).toNat

theorem nearest_kept (neg : Bool) {m : Nat} (p : Int) (hm : m ≠ 0) : Ieee.double.nearest neg m p = Ieee.double.word neg (min ((lastOf m p + 1074).toNat * 4503599627370496 + keptOf neg m p) Ieee.double.infRung) := by
  unfold Ieee.Format.nearest
  rw [if_neg hm]
  obtain ⟨c1, c2, c3, c4, c5, c6, c7, c8, c9, c10⟩ := bare
  rw [c8, c10, c6, c4]
  unfold keptOf lastOf
  have e : ∀ a : Int, a - -1074 = a + 1074 := fun a => by omega
  simp only [e]
  rfl

theorem last_ge (m : Nat) (p : Int) : -1074 ≤ lastOf m p := by unfold lastOf; omega

theorem kept_same_up (neg : Bool) {m : Nat} {p : Int} (hp : -4000 ≤ p) {C : Nat} (h : mg m p ≤ mg C (lastOf m p)) : keptOf neg m p ≤ C := by
  have hL := last_ge m p
  unfold keptOf
  refine cut_up _ _ _ _ ?_
  generalize lastOf m p = L at *
  unfold mg at h
  by_cases h1 : L ≤ p
  · rw [show (L - p).toNat = 0 from by omega, Nat.shiftLeft_eq]
    have e : (p + 4000).toNat = (p - L).toNat + (L + 4000).toNat := by omega
    rw [e, Nat.pow_add, ← Nat.mul_assoc] at h
    have := Nat.le_of_mul_le_mul_right h (Nat.two_pow_pos _)
    omega
  · rw [show (p - L).toNat = 0 from by omega, Nat.shiftLeft_zero]
    have e : (L + 4000).toNat = (L - p).toNat + (p + 4000).toNat := by omega
    rw [e, Nat.pow_add, ← Nat.mul_assoc] at h
    exact Nat.le_of_mul_le_mul_right h (Nat.two_pow_pos _)

theorem kept_same_lo (neg : Bool) {m : Nat} {p : Int} (hp : -4000 ≤ p) {C : Nat} (h : mg C (lastOf m p) ≤ mg m p) : C ≤ keptOf neg m p := by
  have hL := last_ge m p
  unfold keptOf
  refine cut_lo _ _ _ _ ?_
  generalize lastOf m p = L at *
  unfold mg at h
  by_cases h1 : L ≤ p
  · rw [show (L - p).toNat = 0 from by omega, Nat.shiftLeft_eq]
    have e : (p + 4000).toNat = (p - L).toNat + (L + 4000).toNat := by omega
    rw [e, Nat.pow_add, ← Nat.mul_assoc] at h
    have := Nat.le_of_mul_le_mul_right h (Nat.two_pow_pos _)
    omega
  · rw [show (p - L).toNat = 0 from by omega, Nat.shiftLeft_zero]
    have e : (L + 4000).toNat = (L - p).toNat + (p + 4000).toNat := by omega
    rw [e, Nat.pow_add, ← Nat.mul_assoc] at h
    exact Nat.le_of_mul_le_mul_right h (Nat.two_pow_pos _)

theorem kept_full (neg : Bool) {m : Nat} {p : Int} (hp : -4000 ≤ p) (hm : m ≠ 0) (h : lastOf m p ≠ -1074) : 2 ^ 52 ≤ keptOf neg m p := by
  refine kept_same_lo neg hp ?_
  have e : lastOf m p = p + m.log2 - 52 := by unfold lastOf at *; omega
  have h1 := mg_log hm hp
  rw [mg_pow 52 (lastOf m p) (by have := last_ge m p; omega), e]
  rw [show (p + (m.log2 : Int) - 52 + ((52 : Nat) : Int) + 4000) = p + m.log2 + 4000 from by omega]
  exact h1

theorem kept_up (neg : Bool) {m : Nat} {p : Int} (hp : -4000 ≤ p) (hm : m ≠ 0) {c : Nat} {e : Int} (hc : c < 2 ^ 53) (he : -1074 ≤ e) (h : mg m p ≤ mg c e) : mg (keptOf neg m p) (lastOf m p) ≤ mg c e := by
  have hL := last_ge m p
  by_cases h1 : lastOf m p ≤ e
  · have e1 : mg c e = mg (c * 2 ^ (e - lastOf m p).toNat) (lastOf m p) := by
      rw [mg_shift _ _ _ (by omega)]; congr 1; omega
    rw [e1] at h ⊢
    exact mg_le_same (kept_same_up neg hp h)
  · exfalso
    have e2 : lastOf m p = p + m.log2 - 52 := by unfold lastOf at *; omega
    have h2 := mg_log hm hp
    have h3 := mg_lt (a := 53) (show -4000 ≤ e by omega) hc
    have h4 := pow_lt_pow (Nat.lt_of_le_of_lt (Nat.le_trans h2 h) h3)
    omega

theorem kept_lo (neg : Bool) {m : Nat} {p : Int} (hp : -4000 ≤ p) (hm : m ≠ 0) {c : Nat} {e : Int} (hc : c < 2 ^ 53) (he : -1074 ≤ e) (h : mg c e ≤ mg m p) : mg c e ≤ mg (keptOf neg m p) (lastOf m p) := by
  have hL := last_ge m p
  by_cases h1 : lastOf m p ≤ e
  · have e1 : mg c e = mg (c * 2 ^ (e - lastOf m p).toNat) (lastOf m p) := by
      rw [mg_shift _ _ _ (by omega)]; congr 1; omega
    rw [e1] at h ⊢
    exact mg_le_same (kept_same_lo neg hp h)
  · have hf := kept_full neg hp hm (by omega)
    have h3 := mg_lt (a := 53) (show -4000 ≤ e by omega) hc
    have h4 : mg (2 ^ 52) (lastOf m p) ≤ mg (keptOf neg m p) (lastOf m p) := mg_le_same hf
    rw [mg_pow 52 _ (by omega)] at h4
    have h5 : 2 ^ (e + (53 : Nat) + 4000).toNat ≤ 2 ^ (lastOf m p + (52 : Nat) + 4000).toNat := Nat.pow_le_pow_right (by omega) (by omega)
    omega

theorem read_kept (neg : Bool) {K : Nat} {L : Int} (hK : K ≤ 2 ^ 53) (hL : -1074 ≤ L) (h52 : K < 2 ^ 52 → L = -1074) (hmax : L ≤ 900) :
    ∃ m' p', Ieee.double.read (Ieee.double.word neg (min ((L + 1074).toNat * 4503599627370496 + K) Ieee.double.infRung)) = .number neg m' p' ∧ -1074 ≤ p' ∧ mg m' p' = mg K L := by
  obtain ⟨c1, c2, c3, c4, c5, c6, c7, c8, c9, c10⟩ := bare
  have hb : ((L + 1074).toNat * 4503599627370496 + K) < Ieee.double.infRung := by rw [c4]; omega
  rw [Nat.min_eq_left (by omega)]
  by_cases h1 : K < 2 ^ 52
  · have hL2 := h52 h1
    subst hL2
    refine ⟨K, -1074, ?_, by omega, rfl⟩
    have e : ((-1074 : Int) + 1074).toNat * 4503599627370496 + K = K := by
      rw [show ((-1074 : Int) + 1074).toNat = 0 from rfl, Nat.zero_mul, Nat.zero_add]
    rw [e, read_word_small _ _ (by omega) (by rw [c6]; omega), c8]
  · rw [read_word_normal _ _ (by rw [c6]; omega) hb, c6, c8]
    by_cases h2 : K = 2 ^ 53
    · refine ⟨2 ^ 52, L + 1, ?_, by omega, ?_⟩
      · have e1 : 4503599627370496 + ((L + 1074).toNat * 4503599627370496 + K) % 4503599627370496 = 2 ^ 52 := by omega
        have e2 : -1074 + ((((L + 1074).toNat * 4503599627370496 + K) / 4503599627370496 - 1 : Nat) : Int) = L + 1 := by omega
        rw [e1, e2]
      · rw [h2, mg_pow 52 _ (by omega), mg_pow 53 _ (by omega)]
        congr 1; omega
    · refine ⟨K, L, ?_, by omega, rfl⟩
      congr 1
      · omega
      · omega

/-- What is rounded keeps every bound that the format has. -/
theorem nearest_bd (neg : Bool) {m : Nat} {p : Int} (hp : -4000 ≤ p) {c : Nat} {e : Int} (hc : c < 2 ^ 53) (he : -1074 ≤ e) (he2 : e ≤ 900) (h : mg m p ≤ mg c e) :
    ∃ m' p', Ieee.double.read (Ieee.double.nearest neg m p) = .number neg m' p' ∧ -1074 ≤ p' ∧
      (∀ c e, c < 2 ^ 53 → -1074 ≤ e → mg m p ≤ mg c e → mg m' p' ≤ mg c e) ∧ (∀ c e, c < 2 ^ 53 → -1074 ≤ e → mg c e ≤ mg m p → mg c e ≤ mg m' p') := by
  obtain ⟨c1, c2, c3, c4, c5, c6, c7, c8, c9, c10⟩ := bare
  by_cases hm : m = 0
  · subst hm
    refine ⟨0, -1074, ?_, by omega, fun c e _ _ _ => by rw [mg_zero]; omega, fun c e _ _ h => by rw [mg_zero] at *; exact h⟩
    have : Ieee.double.nearest neg 0 p = Ieee.double.word neg 0 := by simp [Ieee.Format.nearest]
    rw [this, read_word_small _ neg (by omega) (by omega), c8]
  · have hL := last_ge m p
    have hK : keptOf neg m p ≤ 2 ^ 53 := by
      have := kept_le Ieee.double neg p hm
      rw [c8, c10, c6] at this
      unfold keptOf lastOf
      rw [show ((52 : Nat) : Int) = 52 from rfl] at this
      omega
    have h52 : keptOf neg m p < 2 ^ 52 → lastOf m p = -1074 := by
      intro h1
      by_cases h2 : lastOf m p = -1074
      · exact h2
      · have := kept_full neg hp hm h2; omega
    have hmax : lastOf m p ≤ 900 := by
      by_cases h1 : lastOf m p = -1074
      · omega
      · have h2 := kept_full neg hp hm h1
        have h3 := kept_up neg hp hm hc he h
        have h4 : mg (2 ^ 52) (lastOf m p) ≤ mg (keptOf neg m p) (lastOf m p) := mg_le_same h2
        rw [mg_pow 52 _ (by omega)] at h4
        have h5 := mg_lt (a := 53) (show -4000 ≤ e by omega) hc
        have h6 := pow_lt_pow (Nat.lt_of_le_of_lt (Nat.le_trans h4 h3) h5)
        omega
    obtain ⟨m', p', hr, hp', hv⟩ := read_kept neg hK hL h52 hmax
    rw [nearest_kept neg p hm]
    exact ⟨m', p', hr, hp', fun c e hc he h => by rw [hv]; exact kept_up neg hp hm hc he h, fun c e hc he h => by rw [hv]; exact kept_lo neg hp hm hc he h⟩

/-! ### Values that are numbers -/

/-- The value is this number. -/
def Num (v : Option Nat) (s : Bool) (m : Nat) (p : Int) : Prop := ∃ x, v = some x ∧ Ieee.double.read x = .number s m p

theorem Num.bd {v : Option Nat} {s : Bool} {m : Nat} {p : Int} (h : Num v s m p) : m < 2 ^ 53 ∧ -1074 ≤ p ∧ p ≤ 971 := by
  obtain ⟨x, rfl, hx⟩ := h
  obtain ⟨c1, c2, c3, c4, c5, c6, c7, c8, c9, c10⟩ := bare
  obtain ⟨h1, h2, h3, h4⟩ := read_number Ieee.double dbl hx
  rw [c6, c8, c4] at *
  exact ⟨by omega, by omega, by omega⟩

/-- At most 2 ^ k. -/
def Le (k : Int) (v : Option Nat) : Prop := ∃ s m p, Num v s m p ∧ mg m p ≤ 2 ^ (k + 4000).toNat
/-- From nought to 2 ^ k. -/
def Up (k : Int) (v : Option Nat) : Prop := ∃ m p, Num v false m p ∧ mg m p ≤ 2 ^ (k + 4000).toNat
/-- At least 2 ^ k. -/
def Ge (k : Int) (v : Option Nat) : Prop := ∃ m p, Num v false m p ∧ 2 ^ (k + 4000).toNat ≤ mg m p
/-- At least 2 ^ k, of either sign. -/
def Far (k : Int) (v : Option Nat) : Prop := ∃ s m p, Num v s m p ∧ 2 ^ (k + 4000).toNat ≤ mg m p

theorem Le.mono {k l : Int} {v : Option Nat} (h : Le k v) (hl : k ≤ l) : Le l v := by
  obtain ⟨s, m, p, hn, hb⟩ := h
  exact ⟨s, m, p, hn, Nat.le_trans hb (Nat.pow_le_pow_right (by omega) (by omega))⟩
theorem Up.le {k : Int} {v : Option Nat} (h : Up k v) : Le k v := by obtain ⟨m, p, hn, hb⟩ := h; exact ⟨false, m, p, hn, hb⟩
theorem Up.mono {k l : Int} {v : Option Nat} (h : Up k v) (hl : k ≤ l) : Up l v := by
  obtain ⟨m, p, hn, hb⟩ := h
  exact ⟨m, p, hn, Nat.le_trans hb (Nat.pow_le_pow_right (by omega) (by omega))⟩
theorem Ge.far {k : Int} {v : Option Nat} (h : Ge k v) : Far k v := by obtain ⟨m, p, hn, hb⟩ := h; exact ⟨false, m, p, hn, hb⟩

theorem Num.is {v : Option Nat} {s : Bool} {m : Nat} {p : Int} (h : Num v s m p) : ∃ x, v = some x ∧ val .f64 x = some x := by
  obtain ⟨x, rfl, hx⟩ := h
  refine ⟨x, rfl, ?_⟩
  unfold val
  have : (FloatKind.f64.decode x).isNaN = false := by
    show (Ieee.double.read x).isNaN = false
    rw [hx]; rfl
  rw [this]; rfl

theorem num_const {x : Nat} {s : Bool} {m : Nat} {p : Int} (h : Ieee.double.read x = .number s m p) : Num (val .f64 x) s m p := by
  have : (FloatKind.f64.decode x).isNaN = false := by
    show (Ieee.double.read x).isNaN = false
    rw [h]; rfl
  refine ⟨x, ?_, h⟩
  unfold val
  rw [this]; rfl

theorem le_const {v : Option Nat} {s : Bool} {m : Nat} {p : Int} {k : Int} (a : Nat) (h : Num v s m p) (hm : m ≤ 2 ^ a) (hk : p + a ≤ k) : Le k v := by
  have hb := h.bd
  refine ⟨s, m, p, h, ?_⟩
  have : mg m p ≤ mg (2 ^ a) p := mg_le_same hm
  rw [mg_pow a p (by omega)] at this
  exact Nat.le_trans this (Nat.pow_le_pow_right (by omega) (by omega))
theorem ge_const {v : Option Nat} {m : Nat} {p : Int} {k : Int} (a : Nat) (h : Num v false m p) (hm : 2 ^ a ≤ m) (hk : k ≤ p + a) : Ge k v := by
  have hb := h.bd
  refine ⟨m, p, h, ?_⟩
  have : mg (2 ^ a) p ≤ mg m p := mg_le_same hm
  rw [mg_pow a p (by omega)] at this
  exact Nat.le_trans (Nat.pow_le_pow_right (by omega) (by omega)) this

/-- A number that is written, and is at most 2 ^ k. -/
theorem write_le {s : Bool} {m : Nat} {p : Int} {k : Int} (hp : -4000 ≤ p) (hk : -1074 ≤ k) (hk2 : k ≤ 900) (h : mg m p ≤ 2 ^ (k + 4000).toNat) :
    ∃ m' p', Num (some (Ieee.double.write (.number s m p))) s m' p' ∧ mg m' p' ≤ 2 ^ (k + 4000).toNat ∧ (∀ l : Int, -1074 ≤ l → 2 ^ (l + 4000).toNat ≤ mg m p → 2 ^ (l + 4000).toNat ≤ mg m' p') := by
  have e1 : ∀ l : Int, -1074 ≤ l → mg 1 l = 2 ^ (l + 4000).toNat := fun l hl => by simp [mg]
  obtain ⟨m', p', hr, hp', hu, hl⟩ := nearest_bd s hp (c := 1) (e := k) (by omega) hk hk2 (by rw [e1 k hk]; exact h)
  refine ⟨m', p', ⟨_, rfl, hr⟩, ?_, fun l hl1 h1 => ?_⟩
  · have := hu 1 k (by omega) hk (by rw [e1 k hk]; exact h)
    rw [e1 k hk] at this; exact this
  · have := hl 1 l (by omega) hl1 (by rw [e1 l hl1]; exact h1)
    rw [e1 l hl1] at this; exact this

theorem ar_mul_num {a b : Option Nat} {s t : Bool} {m n : Nat} {p q : Int} (ha : Num a s m p) (hb : Num b t n q) : ar .mul .f64 a b = some (Ieee.double.write (.number (s ^^ t) (m * n) (p + q))) := by
  obtain ⟨x, rfl, hx⟩ := ha
  obtain ⟨y, rfl, hy⟩ := hb
  show ((Ieee.double.read x).product (Ieee.double.read y)).map Ieee.double.write = _
  rw [hx, hy]; rfl

theorem mg_mul (m n : Nat) (p q : Int) (hp : -2000 ≤ p) (hq : -2000 ≤ q) (z : Nat) (hz : (z : Int) = 4000) : mg (m * n) (p + q) * 2 ^ z = mg m p * mg n q := by
  unfold mg
  have e : (p + q + 4000).toNat + z = (p + 4000).toNat + (q + 4000).toNat := by omega
  calc m * n * 2 ^ (p + q + 4000).toNat * 2 ^ z = m * n * 2 ^ ((p + q + 4000).toNat + z) := by rw [Nat.mul_assoc, ← Nat.pow_add]
    _ = m * n * (2 ^ (p + 4000).toNat * 2 ^ (q + 4000).toNat) := by rw [e, Nat.pow_add]
    _ = m * 2 ^ (p + 4000).toNat * (n * 2 ^ (q + 4000).toNat) := by rw [Nat.mul_mul_mul_comm]

theorem mul_bd {m n : Nat} {p q k l : Int} (hp : -2000 ≤ p) (hq : -2000 ≤ q) (hk : -2000 ≤ k) (hl : -2000 ≤ l) (h1 : mg m p ≤ 2 ^ (k + 4000).toNat) (h2 : mg n q ≤ 2 ^ (l + 4000).toNat) : mg (m * n) (p + q) ≤ 2 ^ (k + l + 4000).toNat := by
  have h3 := Nat.mul_le_mul h1 h2
  obtain ⟨z, hz⟩ : ∃ z : Nat, (z : Int) = 4000 := ⟨4000, rfl⟩
  rw [← mg_mul m n p q hp hq z hz, ← Nat.pow_add, show (k + 4000).toNat + (l + 4000).toNat = (k + l + 4000).toNat + z from by omega, Nat.pow_add] at h3
  exact Nat.le_of_mul_le_mul_right h3 (Nat.two_pow_pos _)

theorem Le.mul {a b : Option Nat} {k l : Int} (ha : Le k a) (hb : Le l b) (hk : -1074 ≤ k) (hl : -1074 ≤ l) (h : -1074 ≤ k + l) (h' : k + l ≤ 900) : Le (k + l) (ar .mul .f64 a b) := by
  obtain ⟨s, m, p, h1, h2⟩ := ha
  obtain ⟨t, n, q, h3, h4⟩ := hb
  have b1 := h1.bd
  have b2 := h3.bd
  rw [ar_mul_num h1 h3]
  obtain ⟨m', p', hn, hb, _⟩ := write_le (s := s ^^ t) (m := m * n) (p := p + q) (k := k + l) (by omega) h h' (mul_bd (by omega) (by omega) (by omega) (by omega) h2 h4)
  exact ⟨_, m', p', hn, hb⟩

theorem Up.mul {a b : Option Nat} {k l : Int} (ha : Up k a) (hb : Up l b) (hk : -1074 ≤ k) (hl : -1074 ≤ l) (h : -1074 ≤ k + l) (h' : k + l ≤ 900) : Up (k + l) (ar .mul .f64 a b) := by
  obtain ⟨m, p, h1, h2⟩ := ha
  obtain ⟨n, q, h3, h4⟩ := hb
  have b1 := h1.bd
  have b2 := h3.bd
  rw [ar_mul_num h1 h3]
  obtain ⟨m', p', hn, hb, _⟩ := write_le (s := false ^^ false) (m := m * n) (p := p + q) (k := k + l) (by omega) h h' (mul_bd (by omega) (by omega) (by omega) (by omega) h2 h4)
  exact ⟨m', p', hn, hb⟩

/-- A signed size. -/
def sv (s : Bool) (x : Nat) : Int := if s then -(x : Int) else x
theorem sv_abs (s : Bool) (x : Nat) : (sv s x).natAbs = x := by cases s <;> simp [sv]
theorem signed_mg (s : Bool) (m : Nat) (p base : Int) (h : base ≤ p) (hb : -4000 ≤ base) : Ieee.signed s m (p - base).toNat * ((2 ^ (base + 4000).toNat : Nat) : Int) = sv s (mg m p) := by
  have e : (p - base).toNat + (base + 4000).toNat = (p + 4000).toNat := by omega
  have e2 : mg m p = m * 2 ^ (p - base).toNat * 2 ^ (base + 4000).toNat := by
    unfold mg
    rw [← e, Nat.pow_add, Nat.mul_assoc]
  rw [e2]
  unfold Ieee.signed sv
  rw [Nat.shiftLeft_eq]
  cases s
  · simp only [Bool.false_eq_true, if_false]; push_cast; rfl
  · simp only [if_true]; push_cast; rw [Int.neg_mul]

/-- The exact sum: its sign, its digits, its place. -/
theorem sum_num {a b : Ieee.Datum} {s t : Bool} {m n : Nat} {p q : Int} (ha : a = .number s m p) (hb : b = .number t n q) (hp : -4000 ≤ p) (hq : -4000 ≤ q) :
    ∃ u N B, a.sum b = some (.number u N B) ∧ B = min p q ∧ sv u (mg N B) = sv s (mg m p) + sv t (mg n q) ∧ (s = false → t = false → u = false) := by
  subst ha; subst hb
  refine ⟨_, _, _, rfl, rfl, ?_, ?_⟩
  · have h1 := signed_mg s m p (min p q) (by omega) (by omega)
    have h2 := signed_mg t n q (min p q) (by omega) (by omega)
    rw [← h1, ← h2, ← Int.add_mul]
    generalize Ieee.signed s m (p - min p q).toNat + Ieee.signed t n (q - min p q).toNat = z
    unfold mg
    generalize 2 ^ (min p q + 4000).toNat = g
    by_cases hz : z = 0
    · subst hz; simp [sv]
    · rw [if_neg hz]
      unfold sv
      by_cases hneg : z < 0
      · rw [decide_eq_true hneg]
        simp only [if_true]
        push_cast
        rw [show ((z.natAbs : Nat) : Int) = -z from by omega, Int.neg_mul, Int.neg_neg]
      · rw [decide_eq_false hneg]
        simp only [Bool.false_eq_true, if_false]
        push_cast
        rw [show ((z.natAbs : Nat) : Int) = z from by omega]
  · rintro rfl rfl
    rw [signed_pos, signed_pos]
    generalize m * 2 ^ (p - min p q).toNat = A
    generalize n * 2 ^ (q - min p q).toNat = A'
    split
    · rfl
    · exact decide_eq_false (by omega)

theorem ar_add_num {a b : Option Nat} {s t : Bool} {m n : Nat} {p q : Int} (ha : Num a s m p) (hb : Num b t n q) :
    ∃ u N B, ar .add .f64 a b = some (Ieee.double.write (.number u N B)) ∧ B = min p q ∧ sv u (mg N B) = sv s (mg m p) + sv t (mg n q) ∧ (s = false → t = false → u = false) := by
  have b1 := ha.bd
  have b2 := hb.bd
  obtain ⟨x, rfl, hx⟩ := ha
  obtain ⟨y, rfl, hy⟩ := hb
  obtain ⟨u, N, B, h1, h2, h3, h4⟩ := sum_num hx hy (by omega) (by omega)
  refine ⟨u, N, B, ?_, h2, h3, h4⟩
  show ((Ieee.double.read x).sum (Ieee.double.read y)).map Ieee.double.write = _
  rw [h1]; rfl

theorem ar_sub_num {a b : Option Nat} {s t : Bool} {m n : Nat} {p q : Int} (ha : Num a s m p) (hb : Num b t n q) :
    ∃ u N B, ar .sub .f64 a b = some (Ieee.double.write (.number u N B)) ∧ B = min p q ∧ sv u (mg N B) = sv s (mg m p) + sv (!t) (mg n q) ∧ (s = false → t = true → u = false) := by
  have b1 := ha.bd
  have b2 := hb.bd
  obtain ⟨x, rfl, hx⟩ := ha
  obtain ⟨y, rfl, hy⟩ := hb
  have hy' : (Ieee.double.read y).opposite = .number (!t) n q := by rw [hy]; rfl
  obtain ⟨u, N, B, h1, h2, h3, h4⟩ := sum_num hx hy' (by omega) (by omega)
  refine ⟨u, N, B, ?_, h2, h3, fun e1 e2 => h4 e1 (by rw [e2]; rfl)⟩
  show ((Ieee.double.read x).sum (Ieee.double.read y).opposite).map Ieee.double.write = _
  rw [h1]; rfl

theorem Le.add {op : BinOp} (hop : op = .add ∨ op = .sub) {a b : Option Nat} {k : Int} (ha : Le k a) (hb : Le k b) (h : -1074 ≤ k) (h' : k ≤ 899) : Le (k + 1) (ar op .f64 a b) := by
  obtain ⟨s, m, p, h1, h2⟩ := ha
  obtain ⟨t, n, q, h3, h4⟩ := hb
  have b1 := h1.bd
  have b2 := h3.bd
  have hk : 2 ^ (k + 1 + 4000).toNat = 2 * 2 ^ (k + 4000).toNat := by
    rw [show (k + 1 + 4000).toNat = (k + 4000).toNat + 1 from by omega, Nat.pow_succ, Nat.mul_comm]
  rcases hop with rfl | rfl
  · obtain ⟨u, N, B, e, hB, hv, _⟩ := ar_add_num h1 h3
    rw [e]
    have h5 : mg N B ≤ 2 ^ (k + 1 + 4000).toNat := by
      have e1 := sv_abs u (mg N B)
      have e2 := sv_abs s (mg m p)
      have e3 := sv_abs t (mg n q)
      rw [hk]
      omega
    obtain ⟨m', p', hn, hb, _⟩ := write_le (s := u) (m := N) (p := B) (k := k + 1) (by omega) (by omega) (by omega) h5
    exact ⟨u, m', p', hn, hb⟩
  · obtain ⟨u, N, B, e, hB, hv, _⟩ := ar_sub_num h1 h3
    rw [e]
    have h5 : mg N B ≤ 2 ^ (k + 1 + 4000).toNat := by
      have e1 := sv_abs u (mg N B)
      have e2 := sv_abs s (mg m p)
      have e3 := sv_abs (!t) (mg n q)
      rw [hk]
      omega
    obtain ⟨m', p', hn, hb, _⟩ := write_le (s := u) (m := N) (p := B) (k := k + 1) (by omega) (by omega) (by omega) h5
    exact ⟨u, m', p', hn, hb⟩

/-- A sum of two numbers that are not below nought. -/
theorem Up.add {a b : Option Nat} {k l : Int} (ha : Ge l a) (ha' : Up k a) (hb : Up k b) (hl : -1074 ≤ l) (h : -1074 ≤ k) (h' : k ≤ 899) : Ge l (ar .add .f64 a b) ∧ Up (k + 1) (ar .add .f64 a b) := by
  obtain ⟨m0, p0, ⟨x0, hx0, hr0⟩, hlo⟩ := ha
  obtain ⟨m, p, h1, h2⟩ := ha'
  obtain ⟨n, q, h3, h4⟩ := hb
  have b1 := h1.bd
  have b2 := h3.bd
  have hk : 2 ^ (k + 1 + 4000).toNat = 2 * 2 ^ (k + 4000).toNat := by
    rw [show (k + 1 + 4000).toNat = (k + 4000).toNat + 1 from by omega, Nat.pow_succ, Nat.mul_comm]
  have hlo' : 2 ^ (l + 4000).toNat ≤ mg m p := by
    obtain ⟨x, hx, hr⟩ := h1
    rw [hx0] at hx
    cases hx
    rw [hr0] at hr
    cases hr
    exact hlo
  obtain ⟨u, N, B, e, hB, hv, hs⟩ := ar_add_num h1 h3
  obtain rfl := hs rfl rfl
  rw [e]
  have h5 : mg N B = mg m p + mg n q := by
    unfold sv at hv
    simp only [Bool.false_eq_true, if_false] at hv
    omega
  obtain ⟨m', p', hn, hb, hlow⟩ := write_le (s := false) (m := N) (p := B) (k := k + 1) (by omega) (by omega) (by omega) (by omega)
  exact ⟨⟨m', p', hn, hlow l hl (by omega)⟩, ⟨m', p', hn, hb⟩⟩

/-! ### Quotients and roots -/

/-- The quotient's digits, where the dividend is at most 2 ^ k times the divisor. -/
theorem quo_core {m n U V : Nat} {i j : Int} (hi : -1074 ≤ i) (hi2 : i ≤ 971) (hj : -1074 ≤ j) (hj2 : j ≤ 971) (hm : m < 2 ^ 53) (hn : n < 2 ^ 53) (hn0 : n ≠ 0)
    (h : mg m i * 2 ^ U ≤ mg n j * 2 ^ V) :
    mg (2 * ((m <<< (54 + n.log2 - m.log2)) / n) + ((m <<< (54 + n.log2 - m.log2)) % n != 0).toNat) (i - j - ((54 + n.log2 - m.log2 : Nat) : Int) - 1) ≤ 2 ^ ((V : Int) - U + 4000).toNat := by
  by_cases hm0 : m = 0
  · subst hm0
    have : (0 <<< (54 + n.log2 - Nat.log2 0)) = 0 := by simp
    rw [this]
    simp [mg]
  have hlm := log2_lt hm0 hm
  have hln := log2_lt hn0 hn
  have h0 : n ≤ m * 2 ^ (54 + n.log2 - m.log2) := by
    have h1 := (log2_bounds hm0).1
    have h2 := (log2_bounds hn0).2
    calc n ≤ 2 ^ (n.log2 + 1) := Nat.le_of_lt h2
      _ ≤ 2 ^ (m.log2 + (54 + n.log2 - m.log2)) := Nat.pow_le_pow_right (by omega) (by omega)
      _ = 2 ^ m.log2 * 2 ^ (54 + n.log2 - m.log2) := by rw [Nat.pow_add]
      _ ≤ m * 2 ^ (54 + n.log2 - m.log2) := Nat.mul_le_mul_right _ h1
  generalize hmore : 54 + n.log2 - m.log2 = more at *
  have hmr : more ≤ 106 := by omega
  rw [Nat.shiftLeft_eq]
  -- the power by which the whole digits are bounded is not below one
  have h1 : m * 2 ^ more * 2 ^ ((i + 4000).toNat + U) ≤ n * 2 ^ ((j + 4000).toNat + V + more) := by
    unfold mg at h
    have := Nat.mul_le_mul_right (2 ^ more) h
    calc m * 2 ^ more * 2 ^ ((i + 4000).toNat + U) = m * 2 ^ (i + 4000).toNat * 2 ^ U * 2 ^ more := by
            rw [Nat.pow_add, Nat.mul_assoc, Nat.mul_assoc, Nat.mul_assoc]; congr 1
            rw [Nat.mul_comm (2 ^ more), Nat.mul_assoc]
      _ ≤ n * 2 ^ (j + 4000).toNat * 2 ^ V * 2 ^ more := this
      _ = n * 2 ^ ((j + 4000).toNat + V + more) := by rw [Nat.pow_add, Nat.pow_add, Nat.mul_assoc, Nat.mul_assoc, Nat.mul_assoc]
  have hT : (i + 4000).toNat + U ≤ (j + 4000).toNat + V + more := by
    by_cases hc : (i + 4000).toNat + U ≤ (j + 4000).toNat + V + more
    · exact hc
    · exfalso
      have h2 : n * 2 ^ ((i + 4000).toNat + U) ≤ n * 2 ^ ((j + 4000).toNat + V + more) := Nat.le_trans (Nat.mul_le_mul_right _ h0) h1
      have h3 := pow_le_pow (Nat.le_of_mul_le_mul_left h2 (by omega))
      exact hc h3
  obtain ⟨T, hT2⟩ : ∃ T, (j + 4000).toNat + V + more = ((i + 4000).toNat + U) + T := ⟨(j + 4000).toNat + V + more - ((i + 4000).toNat + U), by omega⟩
  have h4 : m * 2 ^ more ≤ n * 2 ^ T := by
    rw [hT2, Nat.pow_add 2 ((i + 4000).toNat + U) T, Nat.mul_comm (2 ^ ((i + 4000).toNat + U)) (2 ^ T), ← Nat.mul_assoc] at h1
    exact Nat.le_of_mul_le_mul_right h1 (Nat.two_pow_pos _)
  generalize m * 2 ^ more = D at *
  have h5 := Nat.div_add_mod D n
  have h6 : D / n ≤ 2 ^ T := by
    have := Nat.div_le_div_right (c := n) h4
    rw [Nat.mul_comm n, Nat.mul_div_cancel _ (by omega)] at this
    exact this
  have h7 : 2 * (D / n) + (D % n != 0).toNat ≤ 2 ^ (T + 1) := by
    rw [Nat.pow_succ]
    by_cases hr : D % n = 0
    · rw [hr]; simp; omega
    · have hb : (D % n != 0) = true := by simpa using hr
      rw [hb]
      have : D / n < 2 ^ T := by
        rcases Nat.lt_or_ge (D / n) (2 ^ T) with hlt | hge
        · exact hlt
        · have := Nat.mul_le_mul_left n hge
          omega
      simp only [Bool.toNat_true]
      omega
  refine Nat.le_trans (mg_le_same h7) ?_
  rw [mg_pow _ _ (by omega)]
  exact Nat.pow_le_pow_right (by omega) (by omega)

theorem ar_quo_num {a b : Option Nat} {s t : Bool} {m n : Nat} {i j : Int} (ha : Num a s m i) (hb : Num b t n j) (hn0 : n ≠ 0) :
    ar .quo .f64 a b = some (Ieee.double.write (.number (s ^^ t) (2 * ((m <<< (54 + n.log2 - m.log2)) / n) + ((m <<< (54 + n.log2 - m.log2)) % n != 0).toNat) (i - j - ((54 + n.log2 - m.log2 : Nat) : Int) - 1))) := by
  obtain ⟨x, rfl, hx⟩ := ha
  obtain ⟨y, rfl, hy⟩ := hb
  show ((Ieee.double.read x).quotient (52 + 2) (Ieee.double.read y)).map Ieee.double.write = _
  rw [hx, hy]
  unfold Ieee.Datum.quotient
  simp only [if_neg hn0]
  rfl

theorem quo_bd {a b : Option Nat} {s t : Bool} {m n : Nat} {i j : Int} (ha : Num a s m i) (hb : Num b t n j) (hn0 : n ≠ 0) {U V : Nat} (h : mg m i * 2 ^ U ≤ mg n j * 2 ^ V)
    (hk : -1074 ≤ (V : Int) - U) (hk2 : (V : Int) - U ≤ 900) : ∃ m' p', Num (ar .quo .f64 a b) (s ^^ t) m' p' ∧ mg m' p' ≤ 2 ^ ((V : Int) - U + 4000).toNat := by
  have b1 := ha.bd
  have b2 := hb.bd
  have hc := quo_core (m := m) (n := n) (U := U) (V := V) (i := i) (j := j) (by omega) (by omega) (by omega) (by omega) b1.1 b2.1 hn0 h
  have hln := log2_lt hn0 b2.1
  rw [ar_quo_num ha hb hn0]
  obtain ⟨m', p', h1, h2, _⟩ := write_le (s := s ^^ t) (k := (V : Int) - U) (by omega) hk hk2 hc
  exact ⟨m', p', h1, h2⟩

theorem far_ne {m : Nat} {p l : Int} (h : 2 ^ (l + 4000).toNat ≤ mg m p) : m ≠ 0 := by
  intro e
  rw [e, mg_zero] at h
  have := Nat.two_pow_pos (l + 4000).toNat
  omega

theorem quo_pre {m n : Nat} {i j k l : Int} (h2 : mg m i ≤ 2 ^ (k + 4000).toNat) (h4 : 2 ^ (l + 4000).toNat ≤ mg n j) : mg m i * 2 ^ (l + 4000).toNat ≤ mg n j * 2 ^ (k + 4000).toNat := by
  rw [Nat.mul_comm (mg n j)]
  exact Nat.mul_le_mul h2 h4

theorem Le.quo {a b : Option Nat} {k l : Int} (ha : Le k a) (hb : Far l b) (hk : -1074 ≤ k) (hl : -1074 ≤ l) (h : -1074 ≤ k - l) (h' : k - l ≤ 900) : Le (k - l) (ar .quo .f64 a b) := by
  obtain ⟨s, m, i, h1, h2⟩ := ha
  obtain ⟨t, n, j, h3, h4⟩ := hb
  obtain ⟨m', p', h5, h6⟩ := quo_bd h1 h3 (far_ne h4) (quo_pre h2 h4) (by omega) (by omega)
  rw [show (((k + 4000).toNat : Nat) : Int) - ((l + 4000).toNat : Nat) = k - l from by omega] at h6
  exact ⟨_, m', p', h5, h6⟩

theorem Up.quo {a b : Option Nat} {k l : Int} (ha : Up k a) (hb : Ge l b) (hk : -1074 ≤ k) (hl : -1074 ≤ l) (h : -1074 ≤ k - l) (h' : k - l ≤ 900) : Up (k - l) (ar .quo .f64 a b) := by
  obtain ⟨m, i, h1, h2⟩ := ha
  obtain ⟨n, j, h3, h4⟩ := hb
  obtain ⟨m', p', h5, h6⟩ := quo_bd h1 h3 (far_ne h4) (quo_pre h2 h4) (by omega) (by omega)
  rw [show (((k + 4000).toNat : Nat) : Int) - ((l + 4000).toNat : Nat) = k - l from by omega] at h6
  exact ⟨m', p', h5, h6⟩

/-- A quotient by a number that is not smaller: at most one. -/
theorem quo_one {a b : Option Nat} {m n : Nat} {i j : Int} (ha : Num a false m i) (hb : Num b false n j) (hn0 : n ≠ 0) (h : mg m i ≤ mg n j) : Up 0 (ar .quo .f64 a b) := by
  obtain ⟨m', p', h5, h6⟩ := quo_bd ha hb hn0 (U := 0) (V := 0) (by simpa using h) (by omega) (by omega)
  rw [show ((0 : Nat) : Int) - ((0 : Nat) : Int) + 4000 = 0 + 4000 from rfl] at h6
  exact ⟨m', p', h5, h6⟩

/-- What Le says, in the words of Sm. -/
theorem Le.sm {k : Int} {v : Option Nat} (h : Le k v) (hk : -1074 ≤ k) : SmV (k + 1) v := by
  obtain ⟨s, m, p, hn, hb⟩ := h
  have b1 := hn.bd
  obtain ⟨x, rfl, hx⟩ := hn
  intro y e
  cases e
  intro n' m' p' e
  rw [hx] at e
  cases e
  by_cases hm : m = 0
  · exact .inl hm
  · refine .inr ?_
    have := pow_le_pow (Nat.le_trans (mg_log hm (p := p) (by omega)) hb)
    omega

theorem Le.fits {k : Int} {v : Option Nat} (h : Le k v) (hk : -1074 ≤ k) (hk2 : k ≤ 126) : Fits .f64 .f32 v := fits_small ((h.sm hk).mono (by omega))

/-- The root of a number that is not below nought. -/
theorem Up.root {a : Option Nat} {k : Int} (ha : Up k a) (hk : -1000 ≤ k) (hk2 : k ≤ 900) : Up (k / 2 + 5) (sqV a) := by
  have hs := sq_small (ha.le.sm (by omega)) (by omega)
  obtain ⟨m, p, ⟨x, rfl, hx⟩, h2⟩ := ha
  have e : sqV (some x) = ((Ieee.double.read x).root (52 + 2)).map Ieee.double.write := rfl
  have key : ∀ m' p', (Ieee.double.read x).root (52 + 2) = some (.number false m' p') → -4000 ≤ p' → Sm ((k + 1) / 2 + 3) (.number false m' p') → Up (k / 2 + 5) (sqV (some x)) := by
    intro m' p' e2 hp' hsm
    rw [e, e2]
    have h5 : mg m' p' ≤ 2 ^ (k / 2 + 5 + 4000).toNat := by
      by_cases hm' : m' = 0
      · rw [hm', mg_zero]; exact Nat.zero_le _
      · have h6 := (hsm false m' p' rfl).resolve_left hm'
        have h7 := mg_lt (m := m') (a := m'.log2 + 1) hp' Nat.lt_log2_self
        refine Nat.le_trans (Nat.le_of_lt h7) (Nat.pow_le_pow_right (by omega) (by omega))
    obtain ⟨m'', p'', hn, hb, _⟩ := write_le (s := false) (m := m') (p := p') (k := k / 2 + 5) hp' (by omega) (by omega) h5
    exact ⟨m'', p'', hn, hb⟩
  have hsm : ∀ d, (Ieee.double.read x).root (52 + 2) = some d → Sm ((k + 1) / 2 + 3) d := by
    intro d hd
    refine root_small ?_ hd
    rw [hx]
    intro n' m' p' e'
    cases e'
    by_cases hm : m = 0
    · exact .inl hm
    · refine .inr ?_
      have hb := (Num.bd (v := some x) ⟨x, rfl, hx⟩)
      have := pow_le_pow (Nat.le_trans (mg_log hm (p := p) (by omega)) h2)
      omega
  have hb := (Num.bd (v := some x) ⟨x, rfl, hx⟩)
  by_cases hm : m = 0
  · have e2 : (Ieee.double.read x).root (52 + 2) = some (.number false m p) := by
      rw [hx]; unfold Ieee.Datum.root; simp only [if_pos hm]
    exact key m p e2 (by omega) (hsm _ e2)
  · have e2 : ∃ m' p', (Ieee.double.read x).root (52 + 2) = some (.number false m' p') ∧ -4000 ≤ p' := by
      rw [hx]
      unfold Ieee.Datum.root
      simp only [if_neg hm, Bool.false_eq_true, if_false]
      refine ⟨_, _, rfl, ?_⟩
      omega
    obtain ⟨m', p', e3, hp'⟩ := e2
    exact key m' p' e3 hp' (hsm _ e3)

/-- A float32 number, widened: the same number. -/
theorem widen_num {x : Nat} {s : Bool} {m : Nat} {p : Int} (h : Ieee.single.read x = .number s m p) :
    ∃ m' p', Num (cv .f32 .f64 (val .f32 x)) s m' p' ∧ mg m' p' = mg m p ∧ mg m p ≤ 2 ^ ((128 : Int) + 4000).toNat := by
  obtain ⟨c1, c2, c3, c4, c5, c6, c7, c8, c9, c10⟩ := bare
  obtain ⟨h1, h2, h3, h4⟩ := read_number Ieee.single sgl h
  rw [c3, c1, c7] at *
  obtain ⟨m', p', hr, hp, hm⟩ := widen_number h
  have hv : val .f32 x = some x := by
    unfold val
    have : (FloatKind.f32.decode x).isNaN = false := by
      show (Ieee.single.read x).isNaN = false
      rw [h]; rfl
    rw [this]; rfl
  have hc : cv .f32 .f64 (val .f32 x) = some (Ieee.double.nearest s m p) := by
    rw [hv]
    show floatToFloatBits .f32 x .f64 = _
    unfold floatToFloatBits
    rw [if_neg (by decide)]
    have h' : FloatKind.f32.decode x = .number s m p := h
    rw [h']
    have : (FloatKind.f64.decode (FloatKind.f64.encode (.number s m p))).isInfinity = false := by
      show (Ieee.double.read (Ieee.double.nearest s m p)).isInfinity = false
      rw [hr]; rfl
    simp only [this]
    rfl
  have hnum : Num (cv .f32 .f64 (val .f32 x)) s m' p' := ⟨_, hc, hr⟩
  have hb := hnum.bd
  refine ⟨m', p', hnum, ?_, ?_⟩
  · rw [hm, Nat.shiftLeft_eq, mg_shift _ _ _ (by omega)]
    congr 1; omega
  · have h5 := mg_lt (m := m) (a := 24) (p := p) (by omega) (by omega)
    refine Nat.le_trans (Nat.le_of_lt h5) (Nat.pow_le_pow_right (by omega) ?_)
    omega
theorem widen_le {x : Nat} {s : Bool} {m : Nat} {p : Int} (h : Ieee.single.read x = .number s m p) : Le 128 (cv .f32 .f64 (val .f32 x)) := by
  obtain ⟨m', p', hn, he, hlt⟩ := widen_num h
  exact ⟨s, m', p', hn, by rw [he]; exact hlt⟩
end Go.Proofs.Ytcclmlabcihdoaa.Fl
