/-
  Logarithms: what the two sides' halving and doubling, and the sum behind it, come to, by the bits of a float64. No conditions but those of each law.
-/
import Derived.Test.YtcclmlabcihdoaaSinT
import Derived.Test.YtcclmlabcihdoaaPha
namespace Go.Proofs.Ytcclmlabcihdoaa.Fl
open Go

abbrev twoF : Nat := 4611686018427387904
abbrev lnF : Nat := 4604418534313441775
abbrev decF : Nat := 4631308968768463603

/-! ### Words of normal numbers -/
theorem read_norm {x : Nat} (h : 4503599627370496 ≤ x) (h' : x < 9218868437227405312) : Ieee.double.read x = .number false (4503599627370496 + x % 4503599627370496) (-1074 + (x / 4503599627370496 - 1 : Nat)) := by
  obtain ⟨c1, c2, c3, c4, c5, c6, c7, c8, c9, c10⟩ := bare
  have := read_word_normal Ieee.double false (rung := x) (by rw [c6]; exact h) (by rw [c4]; exact h')
  rw [c6, c8] at this
  exact this
theorem read_sub {x : Nat} (h : x < 4503599627370496) : Ieee.double.read x = .number false x (-1074) := by
  obtain ⟨c1, c2, c3, c4, c5, c6, c7, c8, c9, c10⟩ := bare
  have := read_word_small Ieee.double false (rung := x) (by omega) (by rw [c6]; exact h)
  rw [c8] at this
  exact this
theorem norm_word {r : Nat} (h : 4503599627370496 ≤ r) (h' : r < 9218868437227405312) : Ieee.double.nearest false (4503599627370496 + r % 4503599627370496) (-1074 + (r / 4503599627370496 - 1 : Nat)) = r := by
  obtain ⟨c1, c2, c3, c4, c5, c6, c7, c8, c9, c10⟩ := bare
  have := nearest_high Ieee.double false (r := r) (by rw [c6]; exact h) (by rw [c4]; exact h')
  rw [c6, c8] at this
  exact this
theorem norm_log (q : Nat) (h : q < 4503599627370496) : (4503599627370496 + q).log2 = 52 := (Nat.log2_eq_iff (by omega)).2 ⟨by omega, by omega⟩

theorem two_read : Ieee.double.read twoF = .number false (2 ^ 52) (-51) := by decide +kernel

/-- Doubled: one binade up. -/
theorem dbl_word {x : Nat} (h : 4503599627370496 ≤ x) (h' : x + 4503599627370496 < 9218868437227405312) : floatBits .mul .f64 x twoF = some (x + 4503599627370496) := by
  have hr := read_norm h (by omega)
  have e := ar_mul_num (a := some x) (b := some twoF) ⟨x, rfl, hr⟩ ⟨twoF, rfl, two_read⟩
  have e' : floatBits .mul .f64 x twoF = _ := e
  rw [e']
  refine congrArg some ?_
  have hm := Nat.mod_lt x (show 0 < 4503599627370496 by decide)
  show Ieee.double.nearest false ((4503599627370496 + x % 4503599627370496) * 2 ^ 52) (-1074 + (x / 4503599627370496 - 1 : Nat) + -51) = x + 4503599627370496
  have h2 := nearest_shift Ieee.double false (4503599627370496 + x % 4503599627370496) 52 (-1074 + ((x + 4503599627370496) / 4503599627370496 - 1 : Nat)) (by rw [norm_log _ hm, bare.2.2.2.2.2.2.2.2.2]; omega) (by rw [bare.2.2.2.2.2.2.2.1]; omega)
  have h3 : (-1074 : Int) + ((x + 4503599627370496) / 4503599627370496 - 1 : Nat) - (52 : Nat) = -1074 + (x / 4503599627370496 - 1 : Nat) + -51 := by
    have : (x + 4503599627370496) / 4503599627370496 = x / 4503599627370496 + 1 := Nat.add_div_right _ (by decide)
    have : 1 ≤ x / 4503599627370496 := (Nat.le_div_iff_mul_le (by decide)).2 (by omega)
    omega
  rw [h3] at h2
  rw [h2]
  have h4 := norm_word (r := x + 4503599627370496) (by omega) h'
  rw [Nat.add_mod_right] at h4
  exact h4

/-- Halved: one binade down. -/
theorem half_word {x : Nat} (h : 2 * 4503599627370496 ≤ x) (h' : x < 9218868437227405312) : floatBits .quo .f64 x twoF = some (x - 4503599627370496) := by
  have hr := read_norm (by omega) h'
  have e := ar_quo_num (a := some x) (b := some twoF) ⟨x, rfl, hr⟩ ⟨twoF, rfl, two_read⟩ (by decide)
  have e' : floatBits .quo .f64 x twoF = _ := e
  rw [e']
  refine congrArg some ?_
  have hm := Nat.mod_lt x (show 0 < 4503599627370496 by decide)
  have hl : (2 ^ 52 : Nat).log2 = 52 := Nat.log2_two_pow
  rw [norm_log _ hm, hl]
  have d1 : (4503599627370496 + x % 4503599627370496) <<< (54 + 52 - 52) / 2 ^ 52 = (4503599627370496 + x % 4503599627370496) * 4 := by
    rw [Nat.shiftLeft_eq, show (2 : Nat) ^ (54 + 52 - 52) = 4 * 2 ^ 52 from by decide, ← Nat.mul_assoc, Nat.mul_div_cancel _ (by decide)]
  have d2 : (4503599627370496 + x % 4503599627370496) <<< (54 + 52 - 52) % 2 ^ 52 = 0 := by
    rw [Nat.shiftLeft_eq, show (2 : Nat) ^ (54 + 52 - 52) = 4 * 2 ^ 52 from by decide, ← Nat.mul_assoc, Nat.mul_mod_left]
  rw [d1, d2]
  have d3 : 2 * ((4503599627370496 + x % 4503599627370496) * 4) + ((0 : Nat) != 0).toNat = (4503599627370496 + x % 4503599627370496) * 2 ^ 3 := by
    simp only [bne_self_eq_false, Bool.toNat_false]; omega
  rw [d3]
  have e3 : ∀ M P, Ieee.double.write (.number (false ^^ false) M P) = Ieee.double.nearest false M P := fun _ _ => rfl
  rw [e3]
  have hd : 2 ≤ x / 4503599627370496 := (Nat.le_div_iff_mul_le (by decide)).2 (by omega)
  have hdx : (x - 4503599627370496) / 4503599627370496 = x / 4503599627370496 - 1 := by
    have := Nat.sub_mul_div x 4503599627370496 1
    rw [Nat.mul_one] at this
    exact this
  have h2 := nearest_shift Ieee.double false (4503599627370496 + x % 4503599627370496) 3 (-1074 + ((x - 4503599627370496) / 4503599627370496 - 1 : Nat)) (by rw [norm_log _ hm, bare.2.2.2.2.2.2.2.2.2]; omega) (by rw [bare.2.2.2.2.2.2.2.1]; omega)
  have h3 : (-1074 : Int) + ((x - 4503599627370496) / 4503599627370496 - 1 : Nat) - (3 : Nat) = -1074 + (x / 4503599627370496 - 1 : Nat) - -51 - ((54 + 52 - 52 : Nat) : Int) - 1 := by
    rw [hdx]; omega
  rw [h3] at h2
  rw [h2]
  have h4 := norm_word (r := x - 4503599627370496) (by omega) (by omega)
  have h5 : (x - 4503599627370496) % 4503599627370496 = x % 4503599627370496 := by
    have := Nat.mod_eq_sub_mod (show 4503599627370496 ≤ x by omega)
    exact this.symm
  rw [h5] at h4
  exact h4

/-- The size of a word's number. -/
def mgw (x : Nat) : Nat := if x < 4503599627370496 then mg x (-1074) else mg (4503599627370496 + x % 4503599627370496) (-1074 + (x / 4503599627370496 - 1 : Nat))
theorem read_mgw {x : Nat} (h : x < 9218868437227405312) : ∃ m p, Ieee.double.read x = .number false m p ∧ mg m p = mgw x := by
  unfold mgw
  by_cases h1 : x < 4503599627370496
  · rw [if_pos h1]; exact ⟨_, _, read_sub h1, rfl⟩
  · rw [if_neg h1]; exact ⟨_, _, read_norm (by omega) h, rfl⟩

theorem mgw_lt {x y : Nat} (h : x < y) : mgw x < mgw y := by
  have key : ∀ {a b : Nat} {p : Int}, a < b → mg a p < mg b p := fun {a b p} h => Nat.mul_lt_mul_of_pos_right h (Nat.two_pow_pos _)
  have up : ∀ {a : Nat} {p q : Int}, p ≤ q → mg a p ≤ mg a q := fun {a p q} h => Nat.mul_le_mul_left _ (Nat.pow_le_pow_right (by omega) (by omega))
  have hmx := Nat.mod_lt x (show 0 < 4503599627370496 by decide)
  have hmy := Nat.mod_lt y (show 0 < 4503599627370496 by decide)
  have hx := Nat.div_add_mod x 4503599627370496
  have hy := Nat.div_add_mod y 4503599627370496
  unfold mgw
  by_cases h1 : y < 4503599627370496
  · rw [if_pos h1, if_pos (by omega)]; exact key h
  · rw [if_neg h1]
    by_cases h2 : x < 4503599627370496
    · rw [if_pos h2]
      exact Nat.lt_of_lt_of_le (key (show x < 4503599627370496 + y % 4503599627370496 by omega)) (up (by omega))
    · rw [if_neg h2]
      have hd : x / 4503599627370496 ≤ y / 4503599627370496 := Nat.div_le_div_right (by omega)
      have h1x : 1 ≤ x / 4503599627370496 := (Nat.le_div_iff_mul_le (by decide)).2 (by omega)
      by_cases he : x / 4503599627370496 = y / 4503599627370496
      · rw [he]
        refine key ?_
        rw [he] at hx
        omega
      · have e1 : mg (4503599627370496 + x % 4503599627370496) (-1074 + (x / 4503599627370496 - 1 : Nat)) < mg (2 ^ 53) (-1074 + (x / 4503599627370496 - 1 : Nat)) := key (by omega)
        have e2 : mg (2 ^ 53) (-1074 + (x / 4503599627370496 - 1 : Nat)) = mg (2 ^ 52) (-1074 + ((x / 4503599627370496 : Nat) : Int)) := by
          rw [mg_pow 53 _ (by omega), mg_pow 52 _ (by omega)]; congr 1; omega
        have e3 : mg (2 ^ 52) (-1074 + ((x / 4503599627370496 : Nat) : Int)) ≤ mg (2 ^ 52) (-1074 + (y / 4503599627370496 - 1 : Nat)) := up (by omega)
        have e4 : mg (2 ^ 52) (-1074 + (y / 4503599627370496 - 1 : Nat)) ≤ mg (4503599627370496 + y % 4503599627370496) (-1074 + (y / 4503599627370496 - 1 : Nat)) := mg_le_same (by omega)
        rw [e2] at e1
        exact Nat.lt_of_lt_of_le e1 (Nat.le_trans e3 e4)
theorem mgw_le {x y : Nat} (h : x ≤ y) : mgw x ≤ mgw y := by
  rcases Nat.lt_or_eq_of_le h with h | rfl
  · exact Nat.le_of_lt (mgw_lt h)
  · exact Nat.le_refl _

/-- Words of numbers that are not negative stand to each other as the numbers do. -/
theorem order_words {x y : Nat} (hx : x < 9218868437227405312) (hy : y < 9218868437227405312) : FloatKind.f64.format.order x y = some (compare (x : Int) (y : Int)) := by
  obtain ⟨m, p, hr, e1⟩ := read_mgw hx
  obtain ⟨n, q, hq, e2⟩ := read_mgw hy
  refine (order_num hr hq).trans ?_
  rw [e1, e2]
  have f1 : sv false (mgw x) = mgw x := rfl
  have f2 : sv false (mgw y) = mgw y := rfl
  rw [f1, f2]
  congr 1
  rcases Nat.lt_trichotomy x y with h | rfl | h
  · have := mgw_lt h
    rw [lt_compare (by omega), lt_compare (by omega)]
  · rw [eq_compare rfl, eq_compare rfl]
  · have := mgw_lt h
    rw [gt_compare (by omega), gt_compare (by omega)]

/-! ### Halving and doubling -/

/-- What is left, and the power of two that was taken out. -/
def redX (y : Nat) : Nat := ((4604930618986332160 : Int) + ((y : Int) - 4604930618986332160) % 4503599627370496).toNat
def redE (y : Nat) : Int := ((y : Int) - 4604930618986332160) / 4503599627370496
theorem red_is {y x : Nat} {k : Int} (h : (x : Int) = y - k * 4503599627370496) (h1 : 4604930618986332160 ≤ x) (h2 : x < 4609434218613702656) : x = redX y ∧ k = redE y := by
  unfold redX redE
  omega
theorem redX_bd (y : Nat) : 4604930618986332160 ≤ redX y ∧ redX y < 4609434218613702656 := by unfold redX; omega

/-- The counts, as floats. -/
def flI (k : Int) : Nat := floatOfInt .f64 k
def cntB (n : Nat) : Bool := floatBits .add .f64 (flI ((n : Int) - 1030)) oneF == some (flI ((n : Int) - 1030 + 1)) && floatBits .sub .f64 (flI ((n : Int) - 1030)) oneF == some (flI ((n : Int) - 1030 - 1))
def cntAll : Nat → Bool
  | 0 => true
  | n + 1 => cntB n && cntAll n
theorem cntAll_get : ∀ {N n : Nat}, cntAll N = true → n < N → cntB n = true
  | 0, n, _, h => by omega
  | N + 1, n, h, hn => by
    unfold cntAll at h
    rw [Bool.and_eq_true] at h
    by_cases e : n = N
    · rw [e]; exact h.1
    · exact cntAll_get h.2 (by omega)
theorem cnt_all : cntAll 2061 = true := by decide +kernel
theorem cnt_step {k : Int} (h : -1030 ≤ k) (h' : k ≤ 1030) : floatBits .add .f64 (flI k) oneF = some (flI (k + 1)) ∧ floatBits .sub .f64 (flI k) oneF = some (flI (k - 1)) := by
  have := cntAll_get cnt_all (n := (k + 1030).toNat) (by omega)
  unfold cntB at this
  rw [show (((k + 1030).toNat : Nat) : Int) - 1030 = k from by omega] at this
  simpa using this
theorem flI_zero : flI 0 = 0 := by decide +kernel

theorem flI_le {k : Int} (h : -2048 ≤ k) (h' : k ≤ 2048) : LeN 11 (flI k) := by
  have hb : mg k.natAbs 0 ≤ 2 ^ ((11 : Int) + 4000).toNat := by
    have := mg_pow 11 0 (by omega)
    rw [show (0 : Int) + ((11 : Nat) : Int) + 4000 = 11 + 4000 from rfl] at this
    rw [← this]
    exact mg_le_same (by omega)
  obtain ⟨m', p', hn, hb2, _⟩ := write_le (s := decide (k < 0)) (m := k.natAbs) (p := 0) (k := 11) (by omega) (by omega) (by omega) hb
  exact ⟨_, m', p', hn, hb2⟩

/-! ### The sum -/
theorem c75_read : Ieee.double.read 4604930618986332160 = .number false (3 * 2 ^ 51) (-53) := by decide +kernel
theorem c15_read : Ieee.double.read 4609434218613702656 = .number false (3 * 2 ^ 51) (-52) := by decide +kernel
theorem ln_read : Ieee.double.read lnF = .number false 6243314768165359 (-53) := by decide +kernel
theorem dec_read : Ieee.double.read decF = .number false 6112151458964211 (-47) := by decide +kernel
theorem two_le : LeN 1 twoF := len_const 1 52 two_read (by decide) (by decide)
theorem ln_le : LeN 0 lnF := len_const 0 53 ln_read (by decide) (by decide)
theorem dec_le : LeN 6 decF := len_const 6 53 dec_read (by decide) (by decide)

theorem mgw_c75 : mgw 4604930618986332160 = mg 3 (-2) := by
  have e : mgw 4604930618986332160 = mg (3 * 2 ^ 51) (-53) := by
    unfold mgw
    rw [if_neg (by decide)]
    congr 1
  rw [e, mg_shift 3 51 (-53) (by omega)]; congr 1
theorem mgw_c15 : mgw 4609434218613702656 = mg 3 (-1) := by
  have e : mgw 4609434218613702656 = mg (3 * 2 ^ 51) (-52) := by
    unfold mgw
    rw [if_neg (by decide)]
    congr 1
  rw [e, mg_shift 3 51 (-52) (by omega)]; congr 1

/-- What is made of a number from 3/4 to 3/2. -/
theorem log_ends {x : Nat} (h1 : 4604930618986332160 ≤ x) (h2 : x < 4609434218613702656) :
    floatBits .sub .f64 x oneF = some (fb .sub x oneF) ∧ LeN (-1) (fb .sub x oneF) ∧ floatBits .add .f64 x oneF = some (fb .add x oneF) ∧ Far 0 (some (fb .add x oneF)) := by
  obtain ⟨m, p, hr, e1⟩ := read_mgw (x := x) (by omega)
  have b1 := mgw_le h1
  have b2 := mgw_le (Nat.le_of_lt h2)
  rw [mgw_c75] at b1
  rw [mgw_c15] at b2
  have hn1 : Num (some x) false m p := ⟨x, rfl, hr⟩
  have hn2 : Num (some oneF) false (2 ^ 52) (-52) := ⟨oneF, rfl, one_read⟩
  have bd1 := hn1.bd
  obtain ⟨g, hg⟩ : ∃ g, g = 2 ^ ((-2 : Int) + 4000).toNat := ⟨_, rfl⟩
  have g3 : mg 3 (-2) = 3 * g := by unfold mg; rw [hg]
  have g6 : mg 3 (-1) = 6 * g := by
    rw [show (-1 : Int) = -2 + ((1 : Nat) : Int) from rfl, ← mg_shift 3 1 (-2) (by omega), show 3 * 2 ^ 1 = 6 from rfl]; unfold mg; rw [hg]
  have g4 : mg (2 ^ 52) (-52) = 4 * g := by
    rw [show (2 : Nat) ^ 52 = 4 * 2 ^ 50 from by decide, mg_shift 4 50 (-52) (by omega), show (-52 : Int) + ((50 : Nat) : Int) = -2 from rfl]; unfold mg; rw [hg]
  have p1 : 2 ^ ((-1 : Int) + 4000).toNat = 2 * g := by
    have : mg 2 (-2) = 2 ^ ((-2 : Int) + ((1 : Nat) : Int) + 4000).toNat := mg_pow 1 (-2) (by omega)
    rw [show (-2 : Int) + ((1 : Nat) : Int) = -1 from rfl] at this
    rw [← this, hg]; unfold mg; rfl
  have p2 : 2 ^ ((2 : Int) + 4000).toNat = 16 * g := by
    have : mg 16 (-2) = 2 ^ ((-2 : Int) + ((4 : Nat) : Int) + 4000).toNat := mg_pow 4 (-2) (by omega)
    rw [show (-2 : Int) + ((4 : Nat) : Int) = 2 from rfl] at this
    rw [← this, hg]; unfold mg; rfl
  have p0 : 2 ^ ((0 : Int) + 4000).toNat = 4 * g := by
    have : mg 4 (-2) = 2 ^ ((-2 : Int) + ((2 : Nat) : Int) + 4000).toNat := mg_pow 2 (-2) (by omega)
    rw [show (-2 : Int) + ((2 : Nat) : Int) = 0 from rfl] at this
    rw [← this, hg]; unfold mg; rfl
  clear hg
  obtain ⟨u, N, B, e, hB, hval, _⟩ := ar_sub_num hn1 hn2
  obtain ⟨u', N', B', e', hB', hval', hs'⟩ := ar_add_num hn1 hn2
  obtain rfl := hs' rfl rfl
  have v1 := sv_abs u (mg N B)
  have hsv : sv u (mg N B) = (mgw x : Int) - 4 * g := by
    rw [hval, e1, g4]; unfold sv; simp; omega
  have hsv' : mg N' B' = mgw x + 4 * g := by
    rw [e1, g4] at hval'
    unfold sv at hval'
    simp only [Bool.false_eq_true, if_false] at hval'
    omega
  have hle : mg N B ≤ 2 ^ ((-1 : Int) + 4000).toNat := by rw [p1]; omega
  have hle' : mg N' B' ≤ 2 ^ ((2 : Int) + 4000).toNat := by rw [p2]; omega
  obtain ⟨m2, p2', hn, hb, _⟩ := write_le (s := u) (m := N) (p := B) (k := -1) (by omega) (by omega) (by omega) hle
  obtain ⟨m3, p3', hn', hb', hlo⟩ := write_le (s := false) (m := N') (p := B') (k := 2) (by omega) (by omega) (by omega) hle'
  have r1 := fb_of_le (op := .sub) (a := x) (b := oneF) (k := -1) (by rw [e]; exact ⟨u, m2, p2', hn, hb⟩)
  have r2 := fb_of_le (op := .add) (a := x) (b := oneF) (k := 2) (by rw [e']; exact ⟨false, m3, p3', hn', hb'⟩)
  refine ⟨r1.1, r1.2, r2.1, ?_⟩
  have ef : some (fb .add x oneF) = some (Ieee.double.write (.number false N' B')) := by rw [← r2.1]; exact e'
  rw [ef]
  exact ⟨false, m3, p3', hn', hlo 0 (by omega) (by rw [p0]; omega)⟩

/-- The divisors 25, 23 .. 1. -/
def farL (j : Nat) : Bool := match Ieee.double.read (flI (25 - 2 * (j : Int))) with
  | .number false m p => decide (2 ^ 52 ≤ m) && decide (-52 ≤ p)
  | _ => false
theorem dL_far_fin : ∀ j : Fin 13, farL j.val = true := by decide +kernel
theorem dL_far {j : Nat} (h : j < 13) : Far 0 (some (flI (25 - 2 * (j : Int)))) := by
  have h := dL_far_fin ⟨j, h⟩
  unfold farL at h
  split at h
  · rename_i m p hr
    simp only [Bool.and_eq_true, decide_eq_true_eq] at h
    exact far_const 0 52 hr h.1 (by omega)
  · cases h

/-- The sum by Horner's rule, after some rounds. -/
def logQ (u : Nat) : Nat → Nat
  | 0 => 0
  | j + 1 => fb .add (fb .quo oneF (flI (25 - 2 * (j : Int)))) (fb .mul u (logQ u j))
theorem log_round {u : Nat} (hu : LeN (-2) u) {j : Nat} (hj : j < 13) (hp : LeN 1 (logQ u j)) :
    floatBits .quo .f64 oneF (flI (25 - 2 * (j : Int))) = some (fb .quo oneF (flI (25 - 2 * (j : Int)))) ∧
    floatBits .mul .f64 u (logQ u j) = some (fb .mul u (logQ u j)) ∧
    floatBits .add .f64 (fb .quo oneF (flI (25 - 2 * (j : Int)))) (fb .mul u (logQ u j)) = some (logQ u (j + 1)) ∧ LeN 1 (logQ u (j + 1)) := by
  obtain ⟨h1, h2⟩ := LeN.quo one_le (dL_far hj) (by omega) (by omega) (by omega) (by omega)
  obtain ⟨h3, h4⟩ := LeN.mul hu hp (by omega) (by omega) (by omega) (by omega)
  obtain ⟨h5, h6⟩ := LeN.add (op := .add) (.inl rfl) (h2.mono (show (0 : Int) - 0 ≤ 0 by omega)) (h4.mono (show (-2 : Int) + 1 ≤ 0 by omega)) (by omega) (by omega)
  exact ⟨h1, h3, h5, h6.mono (by omega)⟩
theorem logQ_le {u : Nat} (hu : LeN (-2) u) : ∀ {j : Nat}, j ≤ 13 → LeN 1 (logQ u j)
  | 0, _ => zero_len.mono (by decide)
  | j + 1, h => (log_round hu (j := j) (by omega) (logQ_le hu (by omega))).2.2.2

/-- The logarithm of a normal number. -/
def sL (y : Nat) : Nat := fb .quo (fb .sub (redX y) oneF) (fb .add (redX y) oneF)
def uL (y : Nat) : Nat := fb .mul (sL y) (sL y)
def qL (y : Nat) : Nat := fb .mul (sL y) (logQ (uL y) 13)
def aL (y : Nat) : Nat := fb .mul twoF (qL y)
def bL (y : Nat) : Nat := fb .mul (flI (redE y)) lnF
def logN (y : Nat) : Nat := fb .add (aL y) (bL y)

theorem log_facts {y : Nat} (h1 : 4503599627370496 ≤ y) (h2 : y < 9218868437227405312) :
    floatBits .sub .f64 (redX y) oneF = some (fb .sub (redX y) oneF) ∧ floatBits .add .f64 (redX y) oneF = some (fb .add (redX y) oneF) ∧
    floatBits .quo .f64 (fb .sub (redX y) oneF) (fb .add (redX y) oneF) = some (sL y) ∧ floatBits .mul .f64 (sL y) (sL y) = some (uL y) ∧ LeN (-2) (uL y) ∧
    floatBits .mul .f64 (sL y) (logQ (uL y) 13) = some (qL y) ∧ floatBits .mul .f64 twoF (qL y) = some (aL y) ∧ floatBits .mul .f64 (flI (redE y)) lnF = some (bL y) ∧
    floatBits .add .f64 (aL y) (bL y) = some (logN y) ∧ LeN 12 (logN y) := by
  obtain ⟨x1, x2⟩ := redX_bd y
  obtain ⟨a1, a2, a3, a4⟩ := log_ends x1 x2
  obtain ⟨a5, a6⟩ := LeN.quo a2 a4 (by decide) (by decide) (by decide) (by decide)
  have s1 : LeN (-1) (sL y) := a6.mono (by decide)
  obtain ⟨a7, a8⟩ := LeN.mul (a := sL y) (b := sL y) s1 s1 (by decide) (by decide) (by decide) (by decide)
  have u1 : LeN (-2) (uL y) := a8.mono (by decide)
  have q1 := logQ_le u1 (j := 13) (by decide)
  obtain ⟨a9, a10⟩ := LeN.mul (a := sL y) s1 q1 (by decide) (by decide) (by decide) (by decide)
  have q2 : LeN 0 (qL y) := a10.mono (by decide)
  obtain ⟨a11, a12⟩ := LeN.mul (b := qL y) two_le q2 (by decide) (by decide) (by decide) (by decide)
  have e1 : LeN 11 (flI (redE y)) := flI_le (by unfold redE; omega) (by unfold redE; omega)
  obtain ⟨a13, a14⟩ := LeN.mul e1 ln_le (by decide) (by decide) (by decide) (by decide)
  have a15 : LeN 11 (aL y) := a12.mono (by decide)
  have a16 : LeN 11 (bL y) := a14.mono (by decide)
  obtain ⟨a17, a18⟩ := LeN.add (op := .add) (.inl rfl) a15 a16 (by decide) (by decide)
  exact ⟨a1, a3, a5, a7, u1, a9, a11, a13, a17, a18.mono (by decide)⟩
end Go.Proofs.Ytcclmlabcihdoaa.Fl
