/-
  Plain laws on floats for these proofs: what a float stands for, where a NaN counts as nothing (its bits are drawn), and the steps of a walk over + - * / and conversions of floats. Nothing of the program stands here; no conditions.
-/
import Derived.WalkKit
import Derived.WalkLawsBesides
import Derived.Laws.FloatArith
import Derived.Laws.Externs
import Derived.Deep.Draws
namespace Go.Proofs.Ytcclmlabcihdoaa.Fl
open Go

/-- A fact kept from the walk. -/
theorem hid {p : Prop} (h : p) : RowKit.Hid p := h

theorem cut_zero (way : Ieee.Toward) (neg : Bool) (n : Nat) : way.cut neg n 0 = n := by
  unfold Ieee.Toward.cut
  cases way <;> simp [Nat.mod_one]

theorem nearest_exact (f : Ieee.Format) (neg : Bool) (m : Nat) (p : Int) (hm : m ≠ 0) (hlog : m.log2 ≤ f.fractionBits) (hp : f.leastPlace ≤ p) :
    f.nearest neg m p = f.word neg (min ((max (p + m.log2 - f.fractionBits) f.leastPlace - f.leastPlace).toNat * f.binade + m <<< (p - max (p + m.log2 - f.fractionBits) f.leastPlace).toNat) f.infRung) := by
  unfold Ieee.Format.nearest
  rw [if_neg hm]
  have h : (max (p + m.log2 - f.fractionBits) f.leastPlace - p).toNat = 0 := by omega
  simp only [h, cut_zero]

theorem log2_bounds {m : Nat} (hm : m ≠ 0) : 2 ^ m.log2 ≤ m ∧ m < 2 ^ (m.log2 + 1) := ⟨Nat.log2_self_le hm, Nat.lt_log2_self⟩

/-- The shifted significand of a number that the format has: below two binades. -/
theorem shift_lt (f : Ieee.Format) {m : Nat} {p : Int} (hm : m ≠ 0) (hlog : m.log2 ≤ f.fractionBits) :
    m <<< (p - max (p + m.log2 - f.fractionBits) f.leastPlace).toNat < 2 * f.binade := by
  have h1 := (log2_bounds hm).2
  rw [Nat.shiftLeft_eq]
  unfold Ieee.Format.binade
  have h2 : (p - max (p + m.log2 - f.fractionBits) f.leastPlace).toNat ≤ f.fractionBits - m.log2 := by omega
  calc m * 2 ^ (p - max (p + m.log2 - f.fractionBits) f.leastPlace).toNat
      < 2 ^ (m.log2 + 1) * 2 ^ (p - max (p + m.log2 - f.fractionBits) f.leastPlace).toNat := Nat.mul_lt_mul_of_pos_right h1 (Nat.two_pow_pos _)
    _ ≤ 2 ^ (m.log2 + 1) * 2 ^ (f.fractionBits - m.log2) := Nat.mul_le_mul_left _ (Nat.pow_le_pow_right (by omega) h2)
    _ = 2 * 2 ^ f.fractionBits := by rw [← Nat.pow_add, show m.log2 + 1 + (f.fractionBits - m.log2) = f.fractionBits + 1 from by omega, Nat.pow_succ, Nat.mul_comm]

theorem read_rung (f : Ieee.Format) (neg : Bool) {rung : Nat} (h : rung < f.signWeight) :
    f.word neg rung / f.signWeight % 2 = neg.toNat ∧ f.word neg rung % f.signWeight = rung := by
  have hp : 0 < f.signWeight := Nat.two_pow_pos _
  unfold Ieee.Format.word
  cases neg
  · simp [Nat.div_eq_of_lt h, Nat.mod_eq_of_lt h]
  · simp [Nat.add_div_left _ hp, Nat.div_eq_of_lt h, Nat.mod_eq_of_lt h]

theorem binade_pos (f : Ieee.Format) : 0 < f.binade := Nat.two_pow_pos _

theorem read_word_small (f : Ieee.Format) (neg : Bool) {rung : Nat} (hi : f.binade ≤ f.infRung) (h : rung < f.binade) : f.read (f.word neg rung) = .number neg rung f.leastPlace := by
  have hs : rung < f.signWeight := Nat.lt_of_lt_of_le h (Nat.le_of_lt (Nat.lt_of_le_of_lt hi f.infRung_lt))
  have h2 := read_rung f neg hs
  unfold Ieee.Format.read
  simp only [h2.1, h2.2, if_pos h]
  cases neg <;> rfl

theorem read_word_normal (f : Ieee.Format) (neg : Bool) {rung : Nat} (h : f.binade ≤ rung) (h' : rung < f.infRung) : f.read (f.word neg rung) = .number neg (f.binade + rung % f.binade) (f.leastPlace + (rung / f.binade - 1 : Nat)) := by
  have h2 := read_rung f neg (Nat.lt_trans h' f.infRung_lt)
  unfold Ieee.Format.read
  simp only [h2.1, h2.2, if_neg (Nat.not_lt.2 h), if_pos h']
  cases neg <;> rfl

theorem read_word_inf (f : Ieee.Format) (neg : Bool) (hi : f.binade ≤ f.infRung) : f.read (f.word neg f.infRung) = .infinity neg := by
  have h2 := read_rung f neg f.infRung_lt
  unfold Ieee.Format.read
  simp only [h2.1, h2.2, if_neg (Nat.not_lt.2 hi), if_neg (Nat.lt_irrefl _), if_true]
  cases neg <;> rfl

/-- A number that the format has reads back as the same number. -/
theorem read_nearest (f : Ieee.Format) (neg : Bool) (m : Nat) (p : Int) (hi : f.binade ≤ f.infRung) (hm : m ≠ 0) (hlog : m.log2 ≤ f.fractionBits) (hp : f.leastPlace ≤ p)
    (hmax : (max (p + m.log2 - f.fractionBits) f.leastPlace - f.leastPlace).toNat * f.binade + 2 * f.binade ≤ f.infRung) :
    f.read (f.nearest neg m p) = .number neg (m <<< (p - max (p + m.log2 - f.fractionBits) f.leastPlace).toNat) (max (p + m.log2 - f.fractionBits) f.leastPlace) := by
  have h1 := shift_lt f hm hlog (p := p)
  rw [nearest_exact f neg m p hm hlog hp]
  have hB := binade_pos f
  by_cases hl : f.leastPlace < p + m.log2 - f.fractionBits
  · -- the significand is full
    have hmx : max (p + m.log2 - f.fractionBits) f.leastPlace = p + m.log2 - f.fractionBits := by omega
    rw [hmx] at h1 hmax ⊢
    have hfull : f.binade ≤ m <<< (p - (p + m.log2 - f.fractionBits)).toNat := by
      rw [Nat.shiftLeft_eq, show (p - (p + m.log2 - f.fractionBits)).toNat = f.fractionBits - m.log2 from by omega]
      calc f.binade = 2 ^ m.log2 * 2 ^ (f.fractionBits - m.log2) := by rw [← Nat.pow_add, show m.log2 + (f.fractionBits - m.log2) = f.fractionBits from by omega]; rfl
        _ ≤ m * 2 ^ (f.fractionBits - m.log2) := Nat.mul_le_mul_right _ (log2_bounds hm).1
    generalize hK : m <<< (p - (p + m.log2 - f.fractionBits)).toNat = K at *
    generalize hE : (p + m.log2 - f.fractionBits - f.leastPlace).toNat = E at *
    rw [Nat.min_eq_left (by omega), read_word_normal f neg (by have : 0 ≤ E * f.binade := Nat.zero_le _; omega) (by omega)]
    have hmod : (E * f.binade + K) % f.binade = K - f.binade := by
      rw [Nat.add_comm, Nat.add_mul_mod_self_right, Nat.mod_eq_sub_mod hfull, Nat.mod_eq_of_lt (by omega)]
    have hdiv : (E * f.binade + K) / f.binade = E + 1 := by
      rw [Nat.add_comm, Nat.add_mul_div_right _ _ hB, Nat.add_comm]
      congr 1
      rw [Nat.div_eq_sub_div hB hfull, Nat.div_eq_of_lt (by omega)]
    rw [hmod, hdiv]
    congr 1
    · omega
    · omega
  · have hmx : max (p + m.log2 - f.fractionBits) f.leastPlace = f.leastPlace := by omega
    rw [hmx] at h1 hmax ⊢
    generalize hK : m <<< (p - f.leastPlace).toNat = K at *
    simp only [Int.sub_self, Int.toNat_zero, Nat.zero_mul, Nat.zero_add] at hmax ⊢
    rw [Nat.min_eq_left (by omega)]
    by_cases hk : K < f.binade
    · rw [read_word_small f neg hi hk]
    · rw [read_word_normal f neg (by omega) (by omega)]
      have hmod : K % f.binade = K - f.binade := by rw [Nat.mod_eq_sub_mod (by omega), Nat.mod_eq_of_lt (by omega)]
      have hdiv : K / f.binade = 1 := by rw [Nat.div_eq_sub_div hB (by omega), Nat.div_eq_of_lt (by omega)]
      rw [hmod, hdiv]
      congr 1
      · omega
      · simp

/-- What a word of the format reads as, if it is a number. -/
theorem read_number (f : Ieee.Format) (hi : 2 * f.binade ≤ f.infRung) {x : Nat} {neg : Bool} {m : Nat} {p : Int} (h : f.read x = .number neg m p) :
    m < 2 * f.binade ∧ f.leastPlace ≤ p ∧ (p - f.leastPlace).toNat * f.binade + 2 * f.binade ≤ f.infRung ∧ (m < f.binade → p = f.leastPlace) := by
  have hB := binade_pos f
  unfold Ieee.Format.read at h
  simp only at h
  split at h
  · rename_i hr
    cases h
    exact ⟨by omega, by omega, by simpa using hi, fun _ => rfl⟩
  · rename_i hr
    split at h
    · rename_i hr2
      cases h
      have := Nat.mod_lt (x % f.signWeight) hB
      refine ⟨by omega, by omega, ?_, fun h => by omega⟩
      have h3 : (x % f.signWeight) / f.binade < 2 ^ f.exponentBits - 1 := (Nat.div_lt_iff_lt_mul hB).2 hr2
      have h4 : 1 ≤ (x % f.signWeight) / f.binade := (Nat.le_div_iff_mul_le hB).2 (by omega)
      generalize (x % f.signWeight) / f.binade = d at *
      rw [show (f.leastPlace + ((d - 1 : Nat) : Int) - f.leastPlace).toNat = d - 1 from by omega, ← Nat.add_mul]
      exact Nat.mul_le_mul_right _ (by omega)
    · split at h <;> cases h

theorem bare : Ieee.single.infRung = 2139095040 ∧ Ieee.single.signWeight = 2147483648 ∧ Ieee.single.binade = 8388608 ∧ Ieee.double.infRung = 9218868437227405312 ∧ Ieee.double.signWeight = 9223372036854775808 ∧ Ieee.double.binade = 4503599627370496 ∧ Ieee.single.leastPlace = -149 ∧ Ieee.double.leastPlace = -1074 ∧ Ieee.single.fractionBits = 23 ∧ Ieee.double.fractionBits = 52 := by decide

theorem log2_lt {m n : Nat} (hm : m ≠ 0) (h : m < 2 ^ n) : m.log2 < n := (Nat.log2_lt hm).2 h

/-- A float32 as a float64: the same number. -/
theorem widen_number {x : Nat} {neg : Bool} {m : Nat} {p : Int} (h : Ieee.single.read x = .number neg m p) :
    ∃ m' p', Ieee.double.read (Ieee.double.nearest neg m p) = .number neg m' p' ∧ p' ≤ p ∧ m' = m <<< (p - p').toNat := by
  obtain ⟨c1, c2, c3, c4, c5, c6, c7, c8, c9, c10⟩ := bare
  obtain ⟨h1, h2, h3, h4⟩ := read_number Ieee.single (by omega) h
  rw [c3, c1, c7] at h3
  by_cases hm : m = 0
  · subst hm
    refine ⟨0, -1074, ?_, by omega, by simp⟩
    unfold Ieee.Format.nearest
    rw [if_pos rfl, read_word_small _ _ (by omega) (by omega), c8]
  · have hl := log2_lt (n := 24) hm (by omega)
    refine ⟨_, _, read_nearest Ieee.double neg m p (by omega) hm (by omega) (by omega) ?_, by omega, rfl⟩
    have hE : (max (p + m.log2 - Ieee.double.fractionBits) Ieee.double.leastPlace - Ieee.double.leastPlace).toNat ≤ 1500 := by omega
    generalize (max (p + m.log2 - Ieee.double.fractionBits) Ieee.double.leastPlace - Ieee.double.leastPlace).toNat = E at hE
    exact Nat.le_trans (Nat.add_le_add_right (Nat.mul_le_mul_right _ hE) _) (by decide)

/-- A float's value: nothing where it is a NaN, else its bits. -/
def val (k : FloatKind) (x : Nat) : Option Nat := if (k.decode x).isNaN then none else some x





theorem read_not_nan (f : Ieee.Format) (neg : Bool) {rung : Nat} (h : rung ≤ f.infRung) : (f.read (f.word neg rung)).isNaN = false := by
  have h2 := read_rung f neg (Nat.lt_of_le_of_lt h f.infRung_lt)
  unfold Ieee.Format.read
  simp only [h2.1, h2.2]
  split
  · rfl
  · split
    · rfl
    · split
      · rfl
      · omega

theorem nearest_not_nan (f : Ieee.Format) (neg : Bool) (m : Nat) (p : Int) : (f.read (f.nearest neg m p)).isNaN = false := by
  unfold Ieee.Format.nearest
  split
  · exact read_not_nan f neg (Nat.zero_le _)
  · exact read_not_nan f neg (Nat.min_le_right _ _)

theorem write_not_nan (f : Ieee.Format) (d : Ieee.Datum) (h : d.isNaN = false) : (f.read (f.write d)).isNaN = false := by
  cases d with
  | number neg m p => exact nearest_not_nan f neg m p
  | infinity neg => exact read_not_nan f neg (Nat.le_refl _)
  | nan neg t => simp [Ieee.Datum.isNaN] at h

theorem sum_not_nan {a b d : Ieee.Datum} (h : a.sum b = some d) : d.isNaN = false := by
  unfold Ieee.Datum.sum at h
  split at h <;> (try split at h) <;> cases h <;> rfl
theorem product_not_nan {a b d : Ieee.Datum} (h : a.product b = some d) : d.isNaN = false := by
  unfold Ieee.Datum.product at h
  split at h <;> (try split at h) <;> cases h <;> rfl
theorem quotient_not_nan {n : Nat} {a b d : Ieee.Datum} (h : a.quotient n b = some d) : d.isNaN = false := by
  unfold Ieee.Datum.quotient at h
  split at h <;> (try split at h) <;> (try split at h) <;> cases h <;> rfl
theorem root_not_nan {n : Nat} {a d : Ieee.Datum} (h : a.root n = some d) : d.isNaN = false := by
  unfold Ieee.Datum.root at h
  split at h <;> (try split at h) <;> (try split at h) <;> cases h <;> rfl

theorem map_write_not_nan {f : Ieee.Format} {o : Option Ieee.Datum} (ho : ∀ d, o = some d → d.isNaN = false) {r : Nat} (h : o.map f.write = some r) : (f.read r).isNaN = false := by
  cases o with
  | none => cases h
  | some d => cases h; exact write_not_nan f d (ho d rfl)

def isAr : BinOp → Bool
  | .add | .sub | .mul | .quo => true
  | _ => false

theorem floatBits_not_nan {op : BinOp} {k : FloatKind} {x y r : Nat} (h : floatBits op k x y = some r) : (k.decode r).isNaN = false := by
  unfold floatBits at h
  split at h
  · exact map_write_not_nan (fun d hd => sum_not_nan hd) h
  · exact map_write_not_nan (fun d hd => sum_not_nan hd) h
  · exact map_write_not_nan (fun d hd => product_not_nan hd) h
  · exact map_write_not_nan (fun d hd => quotient_not_nan hd) h
  · cases h

theorem floatBits_nan_left {op : BinOp} {k : FloatKind} {x y : Nat} (h : (k.decode x).isNaN = true) : floatBits op k x y = none := by
  have hx : ∃ s t, k.format.read x = .nan s t := by
    unfold FloatKind.decode at h
    cases hd : k.format.read x <;> simp [hd, Ieee.Datum.isNaN] at h
    exact ⟨_, _, rfl⟩
  obtain ⟨s, t, hx⟩ := hx
  cases op <;> simp [floatBits, Ieee.Format.add, Ieee.Format.sub, Ieee.Format.mul, Ieee.Format.div, hx, Ieee.Datum.sum, Ieee.Datum.product, Ieee.Datum.quotient]

theorem floatBits_nan_right {op : BinOp} {k : FloatKind} {x y : Nat} (h : (k.decode y).isNaN = true) : floatBits op k x y = none := by
  have hx : ∃ s t, k.format.read y = .nan s t := by
    unfold FloatKind.decode at h
    cases hd : k.format.read y <;> simp [hd, Ieee.Datum.isNaN] at h
    exact ⟨_, _, rfl⟩
  obtain ⟨s, t, hx⟩ := hx
  cases op <;> simp [floatBits, Ieee.Format.add, Ieee.Format.sub, Ieee.Format.mul, Ieee.Format.div, hx] <;> cases k.format.read x <;> rfl

/-- An operation of arithmetic on values: nothing where the result is a NaN. -/
def ar (op : BinOp) (k : FloatKind) (a b : Option Nat) : Option Nat := a.bind fun x => b.bind fun y => floatBits op k x y

theorem ar_val (op : BinOp) (k : FloatKind) (x y : Nat) : ar op k (val k x) (val k y) = floatBits op k x y := by
  unfold ar val
  by_cases hx : (k.decode x).isNaN = true
  · simp [hx, floatBits_nan_left hx]
  · by_cases hy : (k.decode y).isNaN = true
    · simp [hx, hy, floatBits_nan_right hy]
    · simp [hx, hy]

theorem read_nan (f : Ieee.Format) (hb : f.binade ≤ f.infRung) (s n rest : Nat) (hlt : f.infRung + 1 + rest < f.signWeight) (hn : n = s * f.signWeight + (f.infRung + 1 + rest)) : (f.read n).isNaN = true := by
  have h2 : n % f.signWeight = f.infRung + 1 + rest := by
    rw [hn, Nat.add_comm, Nat.add_mul_mod_self_right, Nat.mod_eq_of_lt hlt]
  unfold Ieee.Format.read
  simp only [h2]
  rw [if_neg (by omega), if_neg (by omega), if_neg (by omega)]
  rfl



theorem cut_nan (k : FloatKind) (q : Question) (hq : (∃ x y, q = .nanBits k x y) ∨ ∃ x, q = .nanConv k x) (t : Nat) : (k.decode (q.cut t)).isNaN = true := by
  obtain ⟨h1, h2, h3, h4, h5, h6, _⟩ := bare
  have a1 : (FloatKind.f32.format.read ((t % 2) * 2 ^ 31 + 0x7f800000 + 1 + (t / 2) % (2 ^ 23 - 1))).isNaN = true :=
    read_nan Ieee.single (by omega) (t % 2) _ ((t / 2) % (2 ^ 23 - 1)) (by omega) (by rw [h1, h2]; omega)
  have a2 : (FloatKind.f64.format.read ((t % 2) * 2 ^ 63 + 0x7ff0000000000000 + 1 + (t / 2) % (2 ^ 52 - 1))).isNaN = true :=
    read_nan Ieee.double (by omega) (t % 2) _ ((t / 2) % (2 ^ 52 - 1)) (by omega) (by rw [h4, h5]; omega)
  rcases hq with ⟨x, y, rfl⟩ | ⟨x, rfl⟩ <;> cases k
  · exact a1
  · exact a2
  · exact a1
  · exact a2

theorem val_of_not_nan {k : FloatKind} {x : Nat} (h : (k.decode x).isNaN = false) : val k x = some x := by simp [val, h]
theorem val_of_nan {k : FloatKind} {x : Nat} (h : (k.decode x).isNaN = true) : val k x = none := by simp [val, h]

/-- The relation that a walk carries: the bits r stand for the value v. -/
def Is (k : FloatKind) (v : Option Nat) (r : Nat) : Prop := val k r = v

section
variable {P : Program} (w : World)

theorem run_choose (q : Question) (hq : q.forced = false) : (choose q).run P w = .ok (q.cut (w.tape w.drawn q)) w.drew := by
  simp [choose, Sem.run, hq]

theorem run_ar (op : BinOp) (hop : isAr op = true) (t : TypeId) (k : FloatKind) (x y : Nat) :
    ∃ r n, (binOp op t (.float k x) (.float k y)).run P w = .ok (.float k r) (w.drewN n) ∧ Is k (ar op k (val k x) (val k y)) r := by
  rw [ar_val]
  cases h : floatBits op k x y with
  | some r => exact ⟨r, 0, run_float_arith w op t k x y r h, val_of_not_nan (floatBits_not_nan h)⟩
  | none =>
    refine ⟨_, 1, ?_, val_of_nan (cut_nan k (.nanBits k x y) (.inl ⟨x, y, rfl⟩) (w.tape w.drawn (.nanBits k x y)))⟩
    unfold floatBits at h
    cases op <;> simp [isAr] at hop <;> simp only at h <;> simp [binOp, Op.floatArith, h] <;> rfl

theorem wpList_ar {ops : Array Oper} {rest : List Oper} {o : Oper} {a : Act} {Q : Exit → Act → World → Prop}
    (hg : o.guard = none) (op : BinOp) (t yt : TypeId) (l r : Operand) (hop : o.op = Op.binOp op t l r yt) (k : FloatKind) (x y : Nat) (hl : a.eval l = .float k x) (hr : a.eval r = .float k y) (hq : isAr op = true)
    {u v : Option Nat} (hx : Is k u x) (hy : Is k v y)
    (hK : ∀ r n, Is k (ar op k u v) r → wpList P ops Q rest (a.put o.dst (.float k r)) (w.drewN n)) :
    wpList P ops Q (o :: rest) a w := by
  refine wpList_plain hg fun K hK' => ?_
  obtain ⟨z, n, hrun, hz⟩ := run_ar (P := P) w op hq t k x y
  rw [show val k x = u from hx, show val k y = v from hy] at hz
  have he : ∀ u v, eqGuard op t l r u v = pure () := by intro u v; cases op <;> simp [isAr] at hq <;> rfl
  unfold Oper.wp
  simp [execOp, hop, hl, hr, hrun, he, Result.andThen]
  exact hK' _ _ (hK z n hz)
end

/-- A conversion between the two kinds, on values. -/
def cv (s k : FloatKind) (a : Option Nat) : Option Nat := a.bind fun x => floatToFloatBits s x k

/-- The conversion does not take a finite number for an infinity. -/
def Fits (s k : FloatKind) (a : Option Nat) : Prop := ∀ x, a = some x → ∀ n m e, s.decode x = .number n m e → s = k ∨ (k.decode (k.encode (.number n m e))).isInfinity = false

section
variable {P : Program} (w : World)
theorem run_cv (src dst : TypeId) (s k : FloatKind) (x : Nat) (hs : (P.underlying src).isSome = true) (hd : P.underlying dst = some (.float k)) (hfit : Fits s k (val s x)) :
    ∃ r n, (convert src dst (.float s x)).run P w = .ok (.float k r) (w.drewN n) ∧ Is k (cv s k (val s x)) r := by
  by_cases hsk : s = k
  · subst hsk
    refine ⟨x, 0, run_convert_float_float w src dst s s x x hs hd (by simp [floatToFloatBits]), ?_⟩
    unfold Is cv val
    split <;> simp [floatToFloatBits]
  · by_cases hn : (s.decode x).isNaN = true
    · obtain ⟨u, hs'⟩ := Option.isSome_iff_exists.1 hs
      refine ⟨(Question.nanConv k x).cut (w.tape w.drawn (.nanConv k x)), 1, ?_, ?_⟩
      · cases hx : s.decode x with
        | nan p q => cases u <;> simp [convert, run_underlying hs', run_underlying hd, Conv.floatToFloat, hsk, hx, Question.forced] <;> rfl
        | number p q e => simp [hx, Ieee.Datum.isNaN] at hn
        | infinity p => simp [hx, Ieee.Datum.isNaN] at hn
      · rw [val_of_nan hn]
        exact val_of_nan (cut_nan k _ (.inr ⟨x, rfl⟩) _)
    · have hn' : (s.decode x).isNaN = false := by simpa using hn
      rw [val_of_not_nan hn'] at hfit ⊢
      have hsome : ∃ r, floatToFloatBits s x k = some r ∧ (k.decode r).isNaN = false := by
        unfold floatToFloatBits
        rw [if_neg hsk]
        cases hx : s.decode x with
        | nan p q => simp [hx, Ieee.Datum.isNaN] at hn
        | infinity p => exact ⟨_, rfl, write_not_nan _ _ rfl⟩
        | number p q e =>
          have := (hfit x rfl p q e hx).resolve_left hsk
          exact ⟨k.encode (.number p q e), by simp [this], write_not_nan _ _ rfl⟩
      obtain ⟨r, hr, hrn⟩ := hsome
      refine ⟨r, 0, run_convert_float_float w src dst s k x r hs hd hr, ?_⟩
      simp [Is, cv, hr, val_of_not_nan hrn]

theorem wpList_cv {ops : Array Oper} {rest : List Oper} {o : Oper} {a : Act} {Q : Exit → Act → World → Prop}
    (hg : o.guard = none) (src dst : TypeId) (l : Operand) (hop : o.op = Op.convert src dst l) (s k : FloatKind) (x : Nat) (hl : a.eval l = .float s x) (hs : (P.underlying src).isSome = true) (hd : P.underlying dst = some (.float k))
    {u : Option Nat} (hx : Is s u x) (hfit : Fits s k u)
    (hK : ∀ r n, Is k (cv s k u) r → wpList P ops Q rest (a.put o.dst (.float k r)) (w.drewN n)) :
    wpList P ops Q (o :: rest) a w := by
  refine wpList_plain hg fun K hK' => ?_
  obtain ⟨z, n, hrun, hz⟩ := run_cv (P := P) w src dst s k x hs hd (by rw [show val s x = u from hx]; exact hfit)
  rw [show val s x = u from hx] at hz
  unfold Oper.wp
  simp [execOp, hop, hl, hrun, Result.andThen]
  exact hK' _ _ (hK z n hz)
end

theorem fits_same (k : FloatKind) (a : Option Nat) : Fits k k a := fun _ _ _ _ _ _ => .inl rfl

theorem fits_widen (a : Option Nat) : Fits .f32 .f64 a := by
  intro x _ n m e h
  refine .inr ?_
  obtain ⟨m', p', hr, _⟩ := widen_number (x := x) h
  show (Ieee.double.read (Ieee.double.nearest n m e)).isInfinity = false
  rw [hr]
  rfl

/-- How two values stand to each other. -/
def ord (k : FloatKind) (a b : Option Nat) : Option Ordering := a.bind fun x => b.bind fun y => k.format.order x y

theorem decode_nan {k : FloatKind} {x : Nat} (h : (k.decode x).isNaN = true) : ∃ s t, k.format.read x = .nan s t := by
  unfold FloatKind.decode at h
  cases hd : k.format.read x <;> simp [hd, Ieee.Datum.isNaN] at h
  exact ⟨_, _, rfl⟩

theorem ord_val (k : FloatKind) (x y : Nat) : ord k (val k x) (val k y) = k.format.order x y := by
  unfold ord val
  by_cases hx : (k.decode x).isNaN = true
  · obtain ⟨s, t, h⟩ := decode_nan hx
    simp [hx, Ieee.Format.order, h, Ieee.Datum.order]
  · by_cases hy : (k.decode y).isNaN = true
    · obtain ⟨s, t, h⟩ := decode_nan hy
      simp [hx, hy, Ieee.Format.order, h]
      cases k.format.read x <;> rfl
    · simp [hx, hy]

theorem Is.order {k : FloatKind} {v : Option Nat} {r : Nat} (h : Is k v r) (c : Nat) : k.format.order r c = ord k v (val k c) := by
  rw [← ord_val, show val k r = v from h]
theorem Is.order' {k : FloatKind} {v : Option Nat} {r : Nat} (h : Is k v r) (c : Nat) : k.format.order c r = ord k (val k c) v := by
  rw [← ord_val, show val k r = v from h]
theorem Is.two {k : FloatKind} {v u : Option Nat} {r s : Nat} (h : Is k v r) (h' : Is k u s) : k.format.order r s = ord k v u := by
  rw [← ord_val, show val k r = v from h, show val k s = u from h']

theorem val_some {k : FloatKind} {x r : Nat} (h : val k x = some r) : r = x ∧ (k.decode x).isNaN = false := by
  unfold val at h
  split at h
  · cases h
  · rename_i hn; cases h; exact ⟨rfl, by simpa using hn⟩

theorem Is.some_eq {k : FloatKind} {b r : Nat} (h : Is k (some b) r) : r = b := (val_some h).1.symm

theorem order_self_nan {k : FloatKind} {x : Nat} (h : val k x = none) : k.format.order x x = none := by
  rw [← ord_val, h]; rfl

theorem order_self {k : FloatKind} {x : Nat} (h : val k x = some x) : k.format.order x x = some .eq := by
  have hn := (val_some h).2
  unfold FloatKind.decode at hn
  unfold Ieee.Format.order
  cases hd : k.format.read x with
  | number s m i => simp [Ieee.Datum.order]
  | infinity s => simp [Ieee.Datum.order]
  | nan s t => simp [hd, Ieee.Datum.isNaN] at hn

/-- What a call that only computes leaves: a value; a float of a known value. The world has drawn, no more. -/
def Ret (v : Value) (w : World) (e : Ending) (w' : World) : Prop := e = .returned v ∧ ∃ n, w' = w.drewN n
def RetF (k : FloatKind) (v : Option Nat) (w : World) (e : Ending) (w' : World) : Prop := ∃ r, Is k v r ∧ e = .returned (.float k r) ∧ ∃ n, w' = w.drewN n

theorem ret_bool {a b : Bool} (h : a = b) : Ending.returned (.bool a) = .returned (.bool b) := by rw [h]
theorem ret_int {k : IntKind} {a b : Int} (h : a = b) : Ending.returned (.int k a) = .returned (.int k b) := by rw [h]

theorem same_gt {k : FloatKind} {v : Option Nat} {r s c : Nat} (h : Is k v r) (h' : Is k v s) : ((k.format.order r c == some .gt) == (k.format.order s c == some .gt)) = true := by
  rw [h.order, h'.order]; simp

/-- Whether a float32 is finite, as the program asks it. -/
def fin (v : Option Nat) : Bool := ord .f32 (ar .sub .f32 v v) (val .f32 0) == some .eq

theorem is_fin {v : Option Nat} {r : Nat} (h : Is .f32 (ar .sub .f32 v v) r) : (FloatKind.f32.format.order r 0 == some .eq) = fin v := by
  rw [h.order]; rfl

theorem self_ne {k : FloatKind} (x : Nat) : (k.format.order x x != some .eq) = (val k x).isNone := by
  cases hv : val k x with
  | none => rw [order_self_nan hv]; rfl
  | some b =>
    obtain rfl := (val_some hv).1
    rw [order_self hv]; rfl

/-- The bits as both sides tell them. -/
def bitsV : Option Nat → Int
  | none => 2143289344
  | some b => b

theorem andNot_top (x : Nat) (hx : x < 4294967296) : (bits .andNot .u32 (x : Int) 2147483648).toNat = x % 2147483648 := by
  have h := u32_andNot_nat x 2147483648 hx (by decide)
  have e : x &&& (4294967295 - 2147483648) = x % 2147483648 := Nat.and_two_pow_sub_one_eq_mod x 31
  rw [e] at h
  rw [show (2147483648 : Int) = ((2147483648 : Nat) : Int) from rfl, h, Int.toNat_natCast]

theorem and_top (x : Nat) (hx : x < 4294967296) : (bits .and .u32 (x : Int) 2147483648).toNat = x / 2147483648 * 2147483648 := by
  have h := u32_and_nat x 2147483648 hx (by decide)
  have e : x &&& 2147483648 = x / 2147483648 % 2 * 2147483648 := nat_bit 31 x
  rw [show (2147483648 : Int) = ((2147483648 : Nat) : Int) from rfl, h, Int.toNat_natCast, e]
  omega

theorem i64_and_nat (a b : Nat) (ha : a < 9223372036854775808) (hb : b < 9223372036854775808) : bits .and .i64 (a : Int) (b : Int) = ((a &&& b : Nat) : Int) := by
  have hx : a &&& b < 2 ^ 63 := Nat.and_lt_two_pow _ (by omega)
  show IntKind.i64.wrap ((BitVec.ofInt 64 (a : Int) &&& BitVec.ofInt 64 (b : Int)).toNat : Int) = _
  rw [BitVec.toNat_and, ofInt_u64 a (by omega), ofInt_u64 b (by omega), IntWalk.i64_in _ (by omega)]

theorem and_exp (x : Nat) (hx : x < 4294967296) : bits .and .i64 (x : Int) 2139095040 = ((x % 2147483648 / 8388608 * 8388608 : Nat) : Int) := by
  have h := i64_and_nat x 2139095040 (by omega) (by decide)
  have e : x &&& 2139095040 = x % 2147483648 / 8388608 * 8388608 := nat_midmask 31 23 x (by decide)
  rw [e] at h
  exact h

theorem compare_lt (a b : Int) : (compare a b == .lt) = decide (a < b) := by
  simp only [compare, compareOfLessAndEq]
  split
  · simp [*]
  · split <;> simp [*]

theorem signed_pos (m u : Nat) : Ieee.signed false m u = ((m * 2 ^ u : Nat) : Int) := by
  simp [Ieee.signed, Nat.shiftLeft_eq]

/-- A number that is not below nought is below the least full one just where its word is. -/
theorem order_least (f : Ieee.Format) (hi : 2 * f.binade ≤ f.infRung) {n : Nat} (hn : n < f.signWeight) (hnan : (f.read n).isNaN = false) :
    (f.order n f.binade == some .lt) = decide (n < f.binade) := by
  have hB := binade_pos f
  have hw : ∀ r, f.word false r = r := fun r => rfl
  have h2 : f.read f.binade = .number false f.binade f.leastPlace := by
    have := read_word_normal f false (rung := f.binade) (Nat.le_refl _) (by omega)
    rw [hw] at this
    rw [this, Nat.mod_self, Nat.div_self hB]
    simp
  unfold Ieee.Format.order
  rw [h2]
  by_cases h1 : n < f.binade
  · have := read_word_small f false (by omega) h1
    rw [hw] at this
    rw [this]
    simp only [Ieee.Datum.order, Int.min_self, Int.sub_self, Int.toNat_zero, signed_pos, Nat.pow_zero, Nat.mul_one]
    rw [show (some (compare (n : Int) (f.binade : Int)) == some Ordering.lt) = (compare (n : Int) (f.binade : Int) == .lt) from rfl, compare_lt]
    simp
  · have h1' : f.binade ≤ n := by omega
    by_cases h3 : n < f.infRung
    · have := read_word_normal f false h1' h3
      rw [hw] at this
      rw [this]
      generalize n / f.binade - 1 = u
      have e1 : (min (f.leastPlace + (u : Nat)) f.leastPlace) = f.leastPlace := by omega
      have e2 : (f.leastPlace + (u : Int) - f.leastPlace).toNat = u := by omega
      simp only [Ieee.Datum.order, e1, e2, Int.sub_self, Int.toNat_zero, signed_pos, Nat.pow_zero, Nat.mul_one]
      rw [show ∀ a b : Int, (some (compare a b) == some Ordering.lt) = (compare a b == .lt) from fun _ _ => rfl, compare_lt]
      have h4 : f.binade * 1 ≤ (f.binade + n % f.binade) * 2 ^ u := Nat.mul_le_mul (by omega) (Nat.two_pow_pos _)
      rw [decide_eq_false (by omega), decide_eq_false h1]
    · by_cases h4 : n = f.infRung
      · subst h4
        have := read_word_inf f false (by omega)
        rw [hw] at this
        rw [this, decide_eq_false h1]
        rfl
      · exfalso
        unfold Ieee.Format.read at hnan
        rw [Nat.mod_eq_of_lt hn] at hnan
        simp only [if_neg h1, if_neg h3, if_neg h4] at hnan
        simp [Ieee.Datum.isNaN] at hnan

theorem nan_iff (f : Ieee.Format) (v : Nat) : (f.read v).isNaN = decide (f.infRung < v % f.signWeight ∧ f.binade ≤ v % f.signWeight) := by
  unfold Ieee.Format.read
  simp only
  split
  · simp only [Ieee.Datum.isNaN]; symm; apply decide_eq_false; omega
  · split
    · simp only [Ieee.Datum.isNaN]; symm; apply decide_eq_false; omega
    · split
      · simp only [Ieee.Datum.isNaN]; symm; apply decide_eq_false; omega
      · simp only [Ieee.Datum.isNaN]; symm; apply decide_eq_true; omega

/-- A float32 below the least full one: by its bits. -/
theorem lt_least (v : Nat) (hv : (FloatKind.f32.decode v).isNaN = false) : (FloatKind.f32.format.order (v % 2147483648) 8388608 == some .lt) = decide (v % 2147483648 < 8388608) := by
  obtain ⟨c1, c2, c3, c4, c5, c6, c7, c8, c9, c10⟩ := bare
  have h := order_least Ieee.single (by omega) (n := v % 2147483648) (by omega) (by
    have h0 : (Ieee.single.read v).isNaN = false := hv
    rw [nan_iff, c1, c2, c3] at h0 ⊢
    rw [Nat.mod_mod]
    exact h0)
  rw [c3] at h
  exact h
theorem lt_least_nan (v : Nat) (hv : (FloatKind.f32.decode v).isNaN = true) : (FloatKind.f32.format.order (v % 2147483648) 8388608 == some .lt) = false := by
  obtain ⟨c1, c2, c3, c4, c5, c6, c7, c8, c9, c10⟩ := bare
  have h : (FloatKind.f32.decode (v % 2147483648)).isNaN = true := by
    have h0 : (Ieee.single.read v).isNaN = true := hv
    show (Ieee.single.read (v % 2147483648)).isNaN = true
    rw [nan_iff, c1, c2, c3] at h0 ⊢
    rw [Nat.mod_mod]
    exact h0
  obtain ⟨s, t, hr⟩ := decode_nan h
  simp [Ieee.Format.order, hr, Ieee.Datum.order]
/-- Whether a float32 is subnormal, by its value. -/
def subn (v : Option Nat) : Bool := ord .f32 v (val .f32 0) != some .eq && (match v with | none => false | some b => decide (b % 2147483648 < 8388608))

theorem subn_bits (x : Nat) (hx : x < 4294967296) : (bits .and .i64 (bitsV (val .f32 x)) 2139095040 == 0) = (match val .f32 x with | none => false | some b => decide (b % 2147483648 < 8388608)) := by
  cases hv : val .f32 x with
  | none => decide +kernel
  | some b =>
    obtain rfl := (val_some hv).1
    show (bits .and .i64 ((b : Nat) : Int) 2139095040 == 0) = _
    rw [and_exp b hx, Bool.eq_iff_iff, beq_iff_eq, decide_eq_true_eq]
    omega

theorem subn_abs (x : Nat) : (FloatKind.f32.format.order (x % 2147483648) 8388608 == some .lt) = (match val .f32 x with | none => false | some b => decide (b % 2147483648 < 8388608)) := by
  cases hv : val .f32 x with
  | none => exact lt_least_nan x (by unfold val at hv; split at hv <;> simp_all)
  | some b =>
    obtain rfl := (val_some hv).1
    exact lt_least b (val_some hv).2

theorem nan_bits : val .f32 2143289344 = none := by decide +kernel

theorem same_bits (x y : Nat) : (match val .f32 x, val .f32 y with | none, none => true | some b, some c => ((b : Int) == (c : Int)) | _, _ => false) = (bitsV (val .f32 x) == bitsV (val .f32 y)) := by
  have key : ∀ z c, val .f32 z = some c → ((2143289344 : Int) == (c : Int)) = false ∧ ((c : Int) == (2143289344 : Int)) = false := by
    intro z c h
    obtain rfl := (val_some h).1
    have hne : c ≠ 2143289344 := by intro e; rw [e, nan_bits] at h; cases h
    constructor <;> (rw [beq_eq_false_iff_ne]; omega)
  cases hv : val .f32 x with
  | none =>
    cases hu : val .f32 y with
    | none => rfl
    | some c => exact (key y c hu).1.symm
  | some b =>
    cases hu : val .f32 y with
    | none => exact (key x b hv).2.symm
    | some c => rfl

/-- A law's call: it says yes, and nothing that was there has turned. -/
def Yes (w : World) (e : Ending) (w' : World) : Prop := e = .returned (.bool true) ∧ RowKit.Below w.heap.size w w'

theorem below_draws (w : World) (n : Nat) : RowKit.Below w.heap.size w (w.drewN n) := ⟨rfl, rfl, rfl, Nat.le_refl _, fun _ _ => rfl⟩

@[go_sem] theorem alloc_drewN (w : World) (o : Obj) (n : Nat) : (w.drewN n).alloc o = (w.alloc o).drewN n := rfl
@[go_sem] theorem setCell_drewN (w : World) (a : Addr) (v : Value) (n : Nat) : (w.drewN n).setCell a v = (w.setCell a v).drewN n := rfl
@[go_sem] theorem shape_drewN (w : World) (r n : Nat) : (w.drewN n).shape? r = w.shape? r := rfl

theorem below_drewN {B : Nat} {a w : World} (h : RowKit.Below B a w) (n : Nat) : RowKit.Below B a (w.drewN n) := h.trans ⟨rfl, rfl, rfl, Nat.le_refl _, fun _ _ => rfl⟩

/-- A vector of three floats, as a value. -/
def vec (x y z : Nat) : Value := .agg #[.float .f32 x, .float .f32 y, .float .f32 z]

@[go_sem] theorem run_store_float (P : Program) (w : World) (a : Addr) (m : Mode) (k : FloatKind) (b : Nat) : (store a (.float k b) m).run P w = stored P w a (.float k b) m := run_store P w a _ m rfl
@[go_sem] theorem run_store_complex (P : Program) (w : World) (a : Addr) (m : Mode) (k : FloatKind) (b c : Nat) : (store a (.complex k b c) m).run P w = stored P w a (.complex k b c) m := run_store P w a _ m rfl

/-- A call that hands back a vector of these values, in new memory. -/
def RetV (p q r : Option Nat) (w : World) (e : Ending) (w' : World) : Prop :=
  ∃ a b c, Is .f32 p a ∧ Is .f32 q b ∧ Is .f32 r c ∧ e = .returned (.agg #[.float .f32 a, .float .f32 b, .float .f32 c]) ∧ RowKit.Below w.heap.size w w'
/-- A call that hands back one value, and may have made memory. -/
def RetB (v : Value) (w : World) (e : Ending) (w' : World) : Prop := e = .returned v ∧ RowKit.Below w.heap.size w w'
def RetFB (k : FloatKind) (v : Option Nat) (w : World) (e : Ending) (w' : World) : Prop := ∃ r, Is k v r ∧ e = .returned (.float k r) ∧ RowKit.Below w.heap.size w w'

theorem below_of_draws {w : World} {n : Nat} {w' : World} (h : w' = w.drewN n) : RowKit.Below w.heap.size w w' := by subst h; exact below_draws _ _

/-- What a world holds behind a call that made memory. -/
theorem bcell {W w1 : World} (hb : RowKit.Below W.heap.size W w1) : (∀ b o, b < W.heap.size → w1.cell? ⟨b, o, none⟩ = W.cell? ⟨b, o, none⟩) ∧ (∀ b o, b < W.heap.size → w1.frozen? ⟨b, o, none⟩ = W.frozen? ⟨b, o, none⟩) :=
  ⟨fun b o h => hb.cell (p := ⟨b, o, none⟩) h, fun b o h => hb.frozen (p := ⟨b, o, none⟩) h⟩

theorem ret_vec {a b c a' b' c' : Nat} (h1 : a = a') (h2 : b = b') (h3 : c = c') : Ending.returned (.agg #[.float .f32 a, .float .f32 b, .float .f32 c]) = .returned (.agg #[.float .f32 a', .float .f32 b', .float .f32 c']) := by rw [h1, h2, h3]

end Go.Proofs.Ytcclmlabcihdoaa.Fl
