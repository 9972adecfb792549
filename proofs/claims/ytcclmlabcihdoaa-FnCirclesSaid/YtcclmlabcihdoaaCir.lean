/-
  FnCircles' law. Conditions: the two slices read as rows of bytes.
-/
import Derived.Test.YtcclmlabcihdoaaCirW
import Derived.Test.YtcclmlabcihdoaaCirF
import Derived.Test.YtcclmlabcihdoaaCirP1
import Derived.Test.YtcclmlabcihdoaaCirP2
import Derived.Test.YtcclmlabcihdoaaCirP3
import Derived.Test.YtcclmlabcihdoaaCirP4
namespace Go.Proofs.Ytcclmlabcihdoaa.Fl
open Go Go.RowKit
theorem point_all {j : Nat} (h : j < 64) : Point j := pointC_eq (allN_eq points_true j h)
theorem lack_all {n : Nat} (h : n < 256) : Lack n := lackC_eq (allN_eq lacks_true n h)
theorem prod_all {i j : Nat} (hi : i < 64) (hj : j < 64) : Prod i j := by
  rcases Nat.lt_or_ge i 16 with h1 | h1
  · exact pairsC_eq pairs_1 (by omega) (by omega) hj
  rcases Nat.lt_or_ge i 32 with h2 | h2
  · exact pairsC_eq pairs_2 (by omega) (by omega) hj
  rcases Nat.lt_or_ge i 48 with h3 | h3
  · exact pairsC_eq pairs_3 (by omega) (by omega) hj
  · exact pairsC_eq pairs_4 (by omega) (by omega) hj
theorem quart_all {n : Nat} (h : n % 16 = 0) (hn : n < 64) : Quart n := by
  have := quartC_eq (allN_eq quarts_true (n / 16) (by omega))
  rw [show 16 * (n / 16) = n from by omega] at this
  exact this
theorem ang_i_ok : AngOk 1065353216 0 oneF 0 1048576000 := angB_ok ang_i.1 (isB_eq ang_i.2)
/-- What the tenths of a product keep to. -/
theorem tens {j k : Nat} (hj : j < 200) (hk : k < 200) : ∃ A B C : Int, tenN (wN ((j + 1) * 8)) = A ∧ tenN (wN ((k + 1) * 8)) = B ∧ tenN (wN ((j + 1) * (k + 1))) = C ∧ -1000 ≤ A ∧ A < 65536 ∧ -1000 ≤ B ∧ B < 65536 ∧ -1000 ≤ C ∧ C < 65536 ∧ A + B - C ≤ 1 ∧ C - A - B ≤ 1 := by
  have h := ten_law hj hk
  have hT : ∀ N, tT N < 65536 := fun N => Nat.mod_lt _ (by decide)
  have a := ten_prod (n := j + 1) (m := 8) (by omega) (by omega) (by decide) (by decide)
  have b := ten_prod (n := k + 1) (m := 8) (by omega) (by omega) (by decide) (by decide)
  have c := ten_prod (n := j + 1) (m := k + 1) (by omega) (by omega) (by omega) (by omega)
  have t1 := hT ((j + 1) * 8); have t2 := hT ((k + 1) * 8); have t3 := hT ((j + 1) * (k + 1))
  refine ⟨_, _, _, rfl, rfl, rfl, ?_, ?_, ?_, ?_, ?_, ?_, h.1, h.2⟩ <;> omega
theorem quarter_bits : (bitsV (val .f32 1048576000) == bitsV (val .f32 0)) = false := by decide +kernel
/-- The turns of a number of 64ths, as the law makes them. -/
theorem fa_quo {q : Nat} (h : q < 511) : floatBits .quo .f64 (floatOfInt .f64 ((q : Int) - 256)) c64 = some (fa ((q : Int) - 256)) := (turnC_eq (allN_eq turns_true q h)).1
end Go.Proofs.Ytcclmlabcihdoaa.Fl
namespace Go.Proofs.Ytcclmlabcihdoaa
open Go.RowKit Go.Proofs.Ytcclmlabcihdoaa.Fl

theorem phasor_at {q : Nat} (h : q < 511) (w : World) : Calls Try.prog 33 #[.float .f64 (fa ((q : Int) - 256))] w (Rc (rT (q % 64)) (iT (q % 64)) w) := by
  obtain ⟨h1, h2, h3, h4⟩ := turnC_eq (allN_eq turns_true q h)
  have hp := point_all (j := q % 64) (by omega)
  obtain ⟨e1, e2⟩ := reN_part h4
  have := implPhasor_mid _ w h2 h3
  rw [e1, e2, hp.re, hp.im] at this
  exact this

theorem runF32 {P : Program} {op : BinOp} (t : TypeId) {x y r : Nat} (h : floatBits op .f32 x y = some r) : ∀ w : World, (binOp op t (.float .f32 x) (.float .f32 y)).run P w = .ok (.float .f32 r) w := fun w => run_float_arith w op t .f32 x y r h
theorem ten_at {x y : Nat} (h : TenOk x y) (w : World) : Calls Try.prog 31 #[.float .f32 x] w (Rt (tenN y) true w) := by
  obtain ⟨m, p, hd, hm⟩ := h.ex
  exact implTen_pos x y w hd hm h.wide h.low h.high

set_option maxHeartbeats 4000000 in
set_option maxRecDepth 100000 in
theorem FnCircles_walk (a0 : Option Addr) (len0 cap0 : Nat) (z0 : List Int) (a1 : Option Addr) (len1 cap1 : Nat) (z1 : List Int) (w : World) (h0 : RowU w a0 len0 z0) (h1 : RowU w a1 len1 z1) :
    Calls Try.prog 12 #[.slice a0 len0 cap0, .slice a1 len1 cap1] w (Yes w) := by
  have H0 := hid h0; have H1 := hid h1
  clear h0 h1
  go_enter Try.func12, Try.ntmps12
  go_wp2_with fail
  refine (b10Long_any _ _ _ _ _ _ _).mono ?_
  generalize (decide ((len0 : Int) > 1048576) || decide ((len1 : Int) > 1048576)) = long
  rintro e w' ⟨rfl, rfl⟩
  cases long with
  | true =>
    go_wp2_with fail
    go_ret
    exact ⟨rfl, Below.refl _ _⟩
  | false =>
    go_wp2_with fail
    refine (b10At_row _ _ _ _ _ _ _ H0.out (.inl rfl) (.inl rfl)).mono ?_
    rintro e w' ⟨v, rfl, hv0, hv1, rfl⟩
    obtain ⟨n, rfl⟩ : ∃ n : Nat, v = n := ⟨v.toNat, by omega⟩
    go_wp2_with fail
    refine (b10At_row _ _ _ _ _ _ _ H0.out (.inr rfl) (.inl rfl)).mono ?_
    rintro e w' ⟨v, rfl, hm0, hm1, rfl⟩
    obtain ⟨m, rfl⟩ : ∃ m : Nat, v = m := ⟨v.toNat, by omega⟩
    have en : (n : Int) - 128 = ((n + 128 : Nat) : Int) - 256 := by omega
    have em : (m : Int) - 128 = ((m + 128 : Nat) : Int) - 256 := by omega
    have enm : (n : Int) - 128 + ((m : Int) - 128) = ((n + m : Nat) : Int) - 256 := by omega
    have f1 := fa_quo (q := n + 128) (by omega)
    have f2 := fa_quo (q := m + 128) (by omega)
    have f3 := fa_quo (q := n + m) (by omega)
    rw [← en] at f1
    rw [← em] at f2
    rw [← enm] at f3
    have r1 := runF (P := Try.prog) 26 f1
    have r2 := runF (P := Try.prog) 26 f2
    have r3 := runF (P := Try.prog) 26 f3
    have G1 := hid (fun W : World => phasor_at (q := n + 128) (by omega) W)
    have G2 := hid (fun W : World => phasor_at (q := m + 128) (by omega) W)
    have G3 := hid (fun W : World => phasor_at (q := n + m) (by omega) W)
    rw [← en, show (n + 128) % 64 = n % 64 from by omega] at G1
    rw [← em, show (m + 128) % 64 = m % 64 from by omega] at G2
    rw [← enm] at G3
    clear f1 f2 f3 en em enm
    have P1 := point_all (j := n % 64) (by omega)
    have P2 := point_all (j := m % 64) (by omega)
    have P3 := point_all (j := (n + m) % 64) (by omega)
    have A1 := hid P1.ang
    obtain ⟨pa, pb, pc, pd, pe, pg, p1, p2, p3, p4, p5, p6, p7⟩ := P1.pow
    obtain ⟨lt, ls, lq, lg, l1, l2, l3, l4, l5, l6, l7, l8⟩ := lack_all (n := n) (by omega)
    obtain ⟨ac, bd, re, ad, bc, im, m1, m2, m3, m4, m5, m6, m7, m8⟩ := prod_all (i := n % 64) (j := m % 64) (by omega) (by omega)
    rw [show (n % 64 + m % 64) % 64 = (n + m) % 64 from by omega] at m7 m8
    obtain ⟨zr, yr, gr, k1, k2, k3, k4⟩ := m7
    obtain ⟨zi, yi, gi, k5, k6, k7, k8⟩ := m8
    have hQ : n % 16 = 0 → ∃ g, Gap (rW (n % 64)) 0 g ∧ ((Ieee.double.order g 0 == some .eq) = true ∨ (Ieee.double.order g oneF == some .eq) = true) := fun h => quart_all (by omega) (by omega)
    obtain ⟨aw, ha1, ha2⟩ := P1.turn
    have w1 := P1.ang.cx; have w2 := P1.ang.cy
    have w3 := P2.ang.cx; have w4 := P2.ang.cy
    have w5 := P3.ang.cx; have w6 := P3.ang.cy
    clear P1 P2 P3
    generalize rT (n % 64) = r1' at *
    generalize iT (n % 64) = i1 at *
    generalize rT (m % 64) = r2' at *
    generalize iT (m % 64) = i2 at *
    generalize rT ((n + m) % 64) = r3' at *
    generalize iT ((n + m) % 64) = i3 at *
    generalize rW (n % 64) = R1 at *
    generalize iW (n % 64) = I1 at *
    generalize rW (m % 64) = R2 at *
    generalize iW (m % 64) = I2 at *
    generalize rW ((n + m) % 64) = R3 at *
    generalize iW ((n + m) % 64) = I3 at *
    generalize aT (n % 64) = at1 at *
    generalize aW (n % 64) = aw1 at *
    go_wp2_with fail
    refine (G1.out _).mono ?_
    rintro e w' ⟨rfl, rfl⟩
    go_wp2_with fail
    refine (G2.out _).mono ?_
    rintro e w' ⟨rfl, rfl⟩
    go_wp2_with fail
    refine (G3.out _).mono ?_
    rintro e w' ⟨rfl, rfl⟩
    go_wp2_with fail
    refine (angleOf_at _ A1.out).mono ?_
    rintro e w1' ⟨r, hr, rfl, hb⟩
    obtain rfl := hr.some_eq
    have Hb := hid hb
    clear hr hb
    have B1 := hid (fun W : World => powerOf_at W w1 w2 p1 p2 p3 p4)
    have B2 := hid (fun W : World => b10Gap_at W p6)
    have B3 := hid (fun W : World => mulComplex_at W w1 w2 w3 w4 m1 m2 m3 m4 m5 m6 k1 k5)
    have B4 := hid (fun W : World => b10Near_at W k2 k6 w5 w6 k3 k7 k4 k8)
    have l1 : floatBits .sub .f64 aw1 (floatOfInt .f64 ((n : Int) - 128)) = some lt := l1
    have l7 : Gap lt (floatOfInt .f64 (lq - 10000)) lg := l7
    have B5 := hid (fun W : World => b10Gap_at W l7)
    have q1 : ∀ W : World, (convert 22 26 (.float .f32 r)).run Try.prog W = .ok (.float .f64 aw) W := fun W => run_convert_float_float W 22 26 .f32 .f64 r aw (by rw [Try.underlying22]; rfl) Try.underlying26 ha1
    have q2 : ∀ W : World, (convert 22 26 (.float .f32 pd)).run Try.prog W = .ok (.float .f64 pe) W := fun W => run_convert_float_float W 22 26 .f32 .f64 pd pe (by rw [Try.underlying22]; rfl) Try.underlying26 p5
    have q3 : ∀ W : World, (convert 22 26 (.float .f32 r1')).run Try.prog W = .ok (.float .f64 R1) W := fun W => run_convert_float_float W 22 26 .f32 .f64 r1' R1 (by rw [Try.underlying22]; rfl) Try.underlying26 w1
    have q4 : ∀ W : World, (convert 26 2 (.float .f64 ls)).run Try.prog W = .ok (.int .i64 lq) W := fun W => run_convert_float_int W 26 2 .f64 .i64 ls lq (by rw [Try.underlying26]; rfl) Try.underlying2 l3
    have s1 := runF (P := Try.prog) 26 ha2
    have s2 := runF (P := Try.prog) 26 l1
    have s3 := runF (P := Try.prog) 26 l2
    have t1 : (FloatKind.f64.format.order pg gapF == some .gt) = false := p7
    have t2 : (FloatKind.f64.format.order lg gap2F == some .gt) = false := l8
    clear w1 w2 w3 w4 w5 w6 p1 p2 p3 p4 p5 p6 p7 m1 m2 m3 m4 m5 m6 k1 k2 k3 k4 k5 k6 k7 k8 l1 l2 l3 l7 l8 ha1 ha2
    go_wp2_with fail
    refine (B1.out _).mono ?_
    rintro e w' ⟨rfl, rfl⟩
    go_wp2_with fail
    refine (B2.out _).mono ?_
    rintro e w' ⟨rfl, rfl⟩
    go_wp2_with fail
    refine (B3.out _).mono ?_
    rintro e w' ⟨rfl, rfl⟩
    go_wp2_with fail
    refine (B4.out _).mono ?_
    rintro e w' ⟨rfl, rfl⟩
    go_wp2_with fail
    refine (B5.out _).mono ?_
    rintro e w' ⟨rfl, rfl⟩
    clear B1 B2 B3 B4 B5 G1 G2 G3 A1 s1 s2 s3 q1 q2 q4 r1 r2 r3
    by_cases hq : n % 16 = 0
    · have hq' : ((n : Int) - 128).tmod 16 = 0 := Int.tmod_eq_zero_of_dvd (by omega)
      obtain ⟨g, hg, ho⟩ := hQ hq
      have B6 := hid (fun W : World => b10Gap_at W hg)
      clear hg hQ
      have go1 : FloatKind.f64.format.order g 0 = some .eq ∨ (FloatKind.f64.format.order g 0 ≠ some .eq ∧ FloatKind.f64.format.order g oneF = some .eq) := by
        by_cases h : FloatKind.f64.format.order g 0 = some .eq
        · exact .inl h
        · refine .inr ⟨h, ?_⟩
          rcases ho with ho | ho
          · exact absurd (beq_iff_eq.1 ho) h
          · exact beq_iff_eq.1 ho
      clear ho
      go_wp2_with fail
      refine (B6.out _).mono ?_
      rintro e w' ⟨rfl, rfl⟩
      rcases go1 with g1 | ⟨g1, g2⟩
      · have g1' : (FloatKind.f64.format.order g 0 != some .eq) = false := by rw [g1]; rfl
        clear g1
        go_wp2_with fail
        refine (b10At_row _ _ _ _ _ _ _ (H1.out.below Hb.out) (.inl rfl) (.inr rfl)).mono ?_
        rintro e w' ⟨v, rfl, hj0, hj1, rfl⟩
        obtain ⟨j, rfl⟩ : ∃ j : Nat, v = j := ⟨v.toNat, by omega⟩
        have e1 := runF32 (P := Try.prog) 22 (eighth_at (n := j) (by omega))
        go_wp2_with fail
        refine (b10At_row _ _ _ _ _ _ _ (H1.out.below Hb.out) (.inr rfl) (.inr rfl)).mono ?_
        rintro e w' ⟨v, rfl, hk0, hk1, rfl⟩
        obtain ⟨k, rfl⟩ : ∃ k : Nat, v = k := ⟨v.toNat, by omega⟩
        have e2 := runF32 (P := Try.prog) 22 (eighth_at (n := k) (by omega))
        obtain ⟨f3, o3⟩ := pN_ok (n := j + 1) (m := k + 1) (by omega) (by omega) (by omega) (by omega)
        have e3 := runF32 (P := Try.prog) 22 f3
        obtain ⟨A, B, C, ta, tb, tc, b1, b2, b3, b4, b5, b6, b7, b8⟩ := tens (j := j) (k := k) (by omega) (by omega)
        have T1 := hid (fun W : World => ten_at (eN_ok (n := j + 1) (by omega) (by omega)) W)
        have T2 := hid (fun W : World => ten_at (eN_ok (n := k + 1) (by omega) (by omega)) W)
        have T3 := hid (fun W : World => ten_at o3 W)
        have T4 := hid (fun W : World => ten_at one_ok W)
        rw [ta] at T1
        rw [tb] at T2
        rw [tc] at T3
        rw [ten_one] at T4
        clear ta tb tc f3 o3
        generalize eN (j + 1) = x at *
        generalize eN (k + 1) = y at *
        generalize pN (j + 1) (k + 1) = z at *
        go_wp2_with fail
        refine (T1.out _).mono ?_
        rintro e w' ⟨rfl, n1, rfl⟩
        go_wp2_with fail
        refine (T2.out _).mono ?_
        rintro e w' ⟨rfl, n2, rfl⟩
        go_wp2_with fail
        refine (T3.out _).mono ?_
        rintro e w' ⟨rfl, n3, rfl⟩
        go_wp2_with fail
        refine (T4.out _).mono ?_
        rintro e w' ⟨rfl, n4, rfl⟩
        go_wp2_with fail
        refine (angleOf_at _ ang_i_ok).mono ?_
        rintro e w2' ⟨r2, hr2, rfl, hb2⟩
        obtain rfl := hr2.some_eq
        go_wp2_with fail
        refine (specSameNumber_any _ _ _ (by decide) (by decide)).mono ?_
        rw [quarter_bits]
        rintro e w' ⟨rfl, n5, rfl⟩
        go_wp2_with fail
        go_ret
        have hz : w.heap.size ≤ (w1'.drewN (n1 + n2 + n3 + n4)).heap.size := Hb.out.size
        exact ⟨rfl, below_drewN ((below_drewN Hb.out _).trans (hb2.mono hz)) _⟩
      · have g1' : (FloatKind.f64.format.order g 0 != some .eq) = true := bne_iff_ne.2 g1
        have g2' : (FloatKind.f64.format.order g oneF != some .eq) = false := by rw [g2]; rfl
        clear g1 g2
        go_wp2_with fail
        refine (B6.out _).mono ?_
        rintro e w' ⟨rfl, rfl⟩
        go_wp2_with fail
        refine (b10At_row _ _ _ _ _ _ _ (H1.out.below Hb.out) (.inl rfl) (.inr rfl)).mono ?_
        rintro e w' ⟨v, rfl, hj0, hj1, rfl⟩
        obtain ⟨j, rfl⟩ : ∃ j : Nat, v = j := ⟨v.toNat, by omega⟩
        have e1 := runF32 (P := Try.prog) 22 (eighth_at (n := j) (by omega))
        go_wp2_with fail
        refine (b10At_row _ _ _ _ _ _ _ (H1.out.below Hb.out) (.inr rfl) (.inr rfl)).mono ?_
        rintro e w' ⟨v, rfl, hk0, hk1, rfl⟩
        obtain ⟨k, rfl⟩ : ∃ k : Nat, v = k := ⟨v.toNat, by omega⟩
        have e2 := runF32 (P := Try.prog) 22 (eighth_at (n := k) (by omega))
        obtain ⟨f3, o3⟩ := pN_ok (n := j + 1) (m := k + 1) (by omega) (by omega) (by omega) (by omega)
        have e3 := runF32 (P := Try.prog) 22 f3
        obtain ⟨A, B, C, ta, tb, tc, b1, b2, b3, b4, b5, b6, b7, b8⟩ := tens (j := j) (k := k) (by omega) (by omega)
        have T1 := hid (fun W : World => ten_at (eN_ok (n := j + 1) (by omega) (by omega)) W)
        have T2 := hid (fun W : World => ten_at (eN_ok (n := k + 1) (by omega) (by omega)) W)
        have T3 := hid (fun W : World => ten_at o3 W)
        have T4 := hid (fun W : World => ten_at one_ok W)
        rw [ta] at T1
        rw [tb] at T2
        rw [tc] at T3
        rw [ten_one] at T4
        clear ta tb tc f3 o3
        generalize eN (j + 1) = x at *
        generalize eN (k + 1) = y at *
        generalize pN (j + 1) (k + 1) = z at *
        go_wp2_with fail
        refine (T1.out _).mono ?_
        rintro e w' ⟨rfl, n1, rfl⟩
        go_wp2_with fail
        refine (T2.out _).mono ?_
        rintro e w' ⟨rfl, n2, rfl⟩
        go_wp2_with fail
        refine (T3.out _).mono ?_
        rintro e w' ⟨rfl, n3, rfl⟩
        go_wp2_with fail
        refine (T4.out _).mono ?_
        rintro e w' ⟨rfl, n4, rfl⟩
        go_wp2_with fail
        refine (angleOf_at _ ang_i_ok).mono ?_
        rintro e w2' ⟨r2, hr2, rfl, hb2⟩
        obtain rfl := hr2.some_eq
        go_wp2_with fail
        refine (specSameNumber_any _ _ _ (by decide) (by decide)).mono ?_
        rw [quarter_bits]
        rintro e w' ⟨rfl, n5, rfl⟩
        go_wp2_with fail
        go_ret
        have hz : w.heap.size ≤ (w1'.drewN (n1 + n2 + n3 + n4)).heap.size := Hb.out.size
        exact ⟨rfl, below_drewN ((below_drewN Hb.out _).trans (hb2.mono hz)) _⟩
    · have hq' : ((n : Int) - 128).tmod 16 ≠ 0 := fun h => hq (by have := Int.dvd_of_tmod_eq_zero h; omega)
      clear hQ
      go_wp2_with fail
      refine (b10At_row _ _ _ _ _ _ _ (H1.out.below Hb.out) (.inl rfl) (.inr rfl)).mono ?_
      rintro e w' ⟨v, rfl, hj0, hj1, rfl⟩
      obtain ⟨j, rfl⟩ : ∃ j : Nat, v = j := ⟨v.toNat, by omega⟩
      have e1 := runF32 (P := Try.prog) 22 (eighth_at (n := j) (by omega))
      go_wp2_with fail
      refine (b10At_row _ _ _ _ _ _ _ (H1.out.below Hb.out) (.inr rfl) (.inr rfl)).mono ?_
      rintro e w' ⟨v, rfl, hk0, hk1, rfl⟩
      obtain ⟨k, rfl⟩ : ∃ k : Nat, v = k := ⟨v.toNat, by omega⟩
      have e2 := runF32 (P := Try.prog) 22 (eighth_at (n := k) (by omega))
      obtain ⟨f3, o3⟩ := pN_ok (n := j + 1) (m := k + 1) (by omega) (by omega) (by omega) (by omega)
      have e3 := runF32 (P := Try.prog) 22 f3
      obtain ⟨A, B, C, ta, tb, tc, b1, b2, b3, b4, b5, b6, b7, b8⟩ := tens (j := j) (k := k) (by omega) (by omega)
      have T1 := hid (fun W : World => ten_at (eN_ok (n := j + 1) (by omega) (by omega)) W)
      have T2 := hid (fun W : World => ten_at (eN_ok (n := k + 1) (by omega) (by omega)) W)
      have T3 := hid (fun W : World => ten_at o3 W)
      have T4 := hid (fun W : World => ten_at one_ok W)
      rw [ta] at T1
      rw [tb] at T2
      rw [tc] at T3
      rw [ten_one] at T4
      clear ta tb tc f3 o3
      generalize eN (j + 1) = x at *
      generalize eN (k + 1) = y at *
      generalize pN (j + 1) (k + 1) = z at *
      go_wp2_with fail
      refine (T1.out _).mono ?_
      rintro e w' ⟨rfl, n1, rfl⟩
      go_wp2_with fail
      refine (T2.out _).mono ?_
      rintro e w' ⟨rfl, n2, rfl⟩
      go_wp2_with fail
      refine (T3.out _).mono ?_
      rintro e w' ⟨rfl, n3, rfl⟩
      go_wp2_with fail
      refine (T4.out _).mono ?_
      rintro e w' ⟨rfl, n4, rfl⟩
      go_wp2_with fail
      refine (angleOf_at _ ang_i_ok).mono ?_
      rintro e w2' ⟨r2, hr2, rfl, hb2⟩
      obtain rfl := hr2.some_eq
      go_wp2_with fail
      refine (specSameNumber_any _ _ _ (by decide) (by decide)).mono ?_
      rw [quarter_bits]
      rintro e w' ⟨rfl, n5, rfl⟩
      go_wp2_with fail
      go_ret
      have hz : w.heap.size ≤ (w1'.drewN (n1 + n2 + n3 + n4)).heap.size := Hb.out.size
      exact ⟨rfl, below_drewN ((below_drewN Hb.out _).trans (hb2.mono hz)) _⟩
end Go.Proofs.Ytcclmlabcihdoaa
