/-
  Angles in turns: what both sides make of two numbers that are not both nought. Conditions: those of each contract.
-/
import Derived.Test.YtcclmlabcihdoaaLogW
namespace Go.Proofs.Ytcclmlabcihdoaa.Fl
open Go

abbrev eightF : Nat := 4620693217682128896
theorem eight_read : Ieee.double.read eightF = .number false (2 ^ 52) (-49) := by decide +kernel
theorem eight_le : LeN 3 eightF := len_const 3 52 eight_read (by decide) (by decide)
theorem turn_far : Far 2 (some turnF) := far_const 2 52 turn_read (by decide) (by decide)

/-- The root, by its bits. -/
def sq (x : Nat) : Nat := (Ieee.double.sqrt x).getD 0
theorem sq_of_up {x : Nat} {k : Int} (h : Up k (sqV (some x))) : sqV (some x) = some (sq x) ∧ Up k (some (sq x)) := by
  obtain ⟨m, p, ⟨y, hy, hr⟩, hb⟩ := h
  have hy' : Ieee.double.sqrt x = some y := hy
  unfold sq
  rw [hy']
  exact ⟨hy, m, p, ⟨y, rfl, hr⟩, hb⟩

theorem one_up : Up 0 (some oneF) := by
  refine ⟨2 ^ 52, -52, ⟨oneF, rfl, one_read⟩, ?_⟩
  rw [mg_pow 52 (-52) (by omega)]
  exact Nat.pow_le_pow_right (by omega) (by omega)
theorem one_ge : Ge 0 (some oneF) := by
  refine ⟨2 ^ 52, -52, ⟨oneF, rfl, one_read⟩, ?_⟩
  rw [mg_pow 52 (-52) (by omega)]
  exact Nat.pow_le_pow_right (by omega) (by omega)

/-- One halving of the angle. -/
def vv (v : Nat) : Nat := fb .mul v v
def ov (v : Nat) : Nat := fb .add oneF (vv v)
def rv (v : Nat) : Nat := sq (ov v)
def dv (v : Nat) : Nat := fb .add oneF (rv v)
def tv (v : Nat) : Nat := fb .quo v (dv v)
theorem tv_facts {v : Nat} (h : Up 0 (some v)) :
    floatBits .mul .f64 v v = some (vv v) ∧ floatBits .add .f64 oneF (vv v) = some (ov v) ∧ sqV (some (ov v)) = some (rv v) ∧ val .f64 (ov v) = some (ov v) ∧
    floatBits .add .f64 oneF (rv v) = some (dv v) ∧ floatBits .quo .f64 v (dv v) = some (tv v) ∧ Up 0 (some (tv v)) := by
  obtain ⟨a1, a2⟩ := fb_of_up (Up.mul h h (by decide) (by decide) (by decide) (by decide))
  have a2' : Up 0 (some (vv v)) := a2.mono (by decide)
  have a3 := Up.add one_ge one_up a2' (by decide) (by decide) (by decide)
  obtain ⟨a4, a5⟩ := fb_of_up a3.2
  have a5' : Up 1 (some (ov v)) := a5.mono (by decide)
  obtain ⟨a6, a7⟩ := sq_of_up (Up.root a5' (by decide) (by decide))
  have a7' : Up 5 (some (rv v)) := a7.mono (by decide)
  have a8 := Up.add (one_ge) (one_up.mono (show (0 : Int) ≤ 5 by decide)) a7' (by decide) (by decide) (by decide)
  obtain ⟨a9, a10⟩ := fb_of_up a8.2
  have a11 : Ge 0 (some (dv v)) := by
    have e : ar .add .f64 (some oneF) (some (rv v)) = some (dv v) := a9
    rw [← e]; exact a8.1
  have a12 := Up.quo h a11 (by decide) (by decide) (by decide) (by decide)
  obtain ⟨a13, a14⟩ := fb_of_up a12
  exact ⟨a1, a4, a6, (LeN.mk a5'.le).val, a9, a13, a14.mono (by decide)⟩
def tA (t : Nat) : Nat → Nat
  | 0 => t
  | j + 1 => tv (tA t j)
theorem tA_up {t : Nat} (h : Up 0 (some t)) : ∀ j, Up 0 (some (tA t j))
  | 0 => h
  | j + 1 => (tv_facts (tA_up h j)).2.2.2.2.2.2

/-- The divisors 15, 13 .. 1. -/
def farA (j : Nat) : Bool := match Ieee.double.read (flI (15 - 2 * (j : Int))) with
  | .number false m p => decide (2 ^ 52 ≤ m) && decide (-52 ≤ p)
  | _ => false
theorem dA_far_fin : ∀ j : Fin 8, farA j.val = true := by decide +kernel
theorem dA_far {j : Nat} (h : j < 8) : Far 0 (some (flI (15 - 2 * (j : Int)))) := by
  have h := dA_far_fin ⟨j, h⟩
  unfold farA at h
  split at h
  · rename_i m p hr
    simp only [Bool.and_eq_true, decide_eq_true_eq] at h
    exact far_const 0 52 hr h.1 (by omega)
  · cases h
def angP (u : Nat) : Nat → Nat
  | 0 => 0
  | j + 1 => fb .sub (fb .quo oneF (flI (15 - 2 * (j : Int)))) (fb .mul u (angP u j))
theorem ang_round {u : Nat} (hu : LeN 0 u) {j : Nat} (hj : j < 8) (hp : LeN j (angP u j)) :
    floatBits .quo .f64 oneF (flI (15 - 2 * (j : Int))) = some (fb .quo oneF (flI (15 - 2 * (j : Int)))) ∧
    floatBits .mul .f64 u (angP u j) = some (fb .mul u (angP u j)) ∧
    floatBits .sub .f64 (fb .quo oneF (flI (15 - 2 * (j : Int)))) (fb .mul u (angP u j)) = some (angP u (j + 1)) ∧ LeN ((j + 1 : Nat) : Int) (angP u (j + 1)) := by
  obtain ⟨h1, h2⟩ := LeN.quo one_le (dA_far hj) (by omega) (by omega) (by omega) (by omega)
  obtain ⟨h3, h4⟩ := LeN.mul hu hp (by omega) (by omega) (by omega) (by omega)
  obtain ⟨h5, h6⟩ := LeN.add (op := .sub) (.inr rfl) (h2.mono (show (0 : Int) - 0 ≤ j by omega)) (h4.mono (show (0 : Int) + j ≤ j by omega)) (by omega) (by omega)
  exact ⟨h1, h3, h5, h6.mono (by omega)⟩
theorem angP_le {u : Nat} (hu : LeN 0 u) : ∀ {j : Nat}, j ≤ 8 → LeN j (angP u j)
  | 0, _ => zero_len.mono (by decide)
  | j + 1, h => (ang_round hu (j := j) (by omega) (angP_le hu (by omega))).2.2.2

/-- The angle within an eighth of a turn, out of its tangent. -/
def tU (t : Nat) : Nat := fb .mul (tA t 3) (tA t 3)
def tP (t : Nat) : Nat := fb .mul (tA t 3) (angP (tU t) 8)
def tE (t : Nat) : Nat := fb .mul eightF (tP t)
def angT (t : Nat) : Nat := fb .quo (tE t) turnF
theorem angT_facts {t : Nat} (h : Up 0 (some t)) :
    floatBits .mul .f64 (tA t 3) (tA t 3) = some (tU t) ∧ LeN 0 (tU t) ∧ floatBits .mul .f64 (tA t 3) (angP (tU t) 8) = some (tP t) ∧ floatBits .mul .f64 eightF (tP t) = some (tE t) ∧
    floatBits .quo .f64 (tE t) turnF = some (angT t) ∧ LeN 9 (angT t) := by
  have h3 : LeN 0 (tA t 3) := ⟨(tA_up h 3).le⟩
  obtain ⟨a1, a2⟩ := LeN.mul h3 h3 (by decide) (by decide) (by decide) (by decide)
  have a2' : LeN 0 (tU t) := a2.mono (by decide)
  have a3 := angP_le a2' (j := 8) (by decide)
  obtain ⟨a4, a5⟩ := LeN.mul h3 a3 (by decide) (by decide) (by decide) (by decide)
  have a5' : LeN 8 (tP t) := a5.mono (by decide)
  obtain ⟨a6, a7⟩ := LeN.mul eight_le a5' (by decide) (by decide) (by decide) (by decide)
  have a7' : LeN 11 (tE t) := a7.mono (by decide)
  obtain ⟨a8, a9⟩ := LeN.quo a7' turn_far (by decide) (by decide) (by decide) (by decide)
  exact ⟨a1, a2', a4, a6, a8, a9.mono (by decide)⟩

/-- The whole angle, step by step. -/
abbrev absF (x : Nat) : Nat := x % 9223372036854775808
def ovr (y x : Nat) : Bool := FloatKind.f64.format.order (absF y) (absF x) == some .gt
def ltz (x : Nat) : Bool := FloatKind.f64.format.order x 0 == some .lt
def t0N (y x : Nat) : Nat := if ovr y x = true then fb .quo (absF x) (absF y) else fb .quo (absF y) (absF x)
def a1N (y x : Nat) : Nat := angT (t0N y x)
def a2N (y x : Nat) : Nat := if ovr y x = true then fb .sub quartF (a1N y x) else a1N y x
def a3N (y x : Nat) : Nat := if ltz x = true then fb .sub halfF (a2N y x) else a2N y x
def angN (y x : Nat) : Nat := if ltz y = true then Op.negFloat .f64 (a3N y x) else a3N y x

/-- Two numbers that are not both nought. -/
def Two (y x : Nat) : Prop := ∃ s m p t n q, Ieee.double.read y = .number s m p ∧ Ieee.double.read x = .number t n q ∧ ¬ (m = 0 ∧ n = 0)

theorem mg_pos {m : Nat} {p : Int} : mg m p = 0 ↔ m = 0 := by
  unfold mg
  have := Nat.two_pow_pos (p + 4000).toNat
  rw [Nat.mul_eq_zero]
  omega

theorem ang_facts {y x : Nat} (h : Two y x) :
    Up 0 (some (t0N y x)) ∧
    ((FloatKind.f64.format.order (absF y) (absF x) == some .gt) = true ∧ floatBits .quo .f64 (absF x) (absF y) = some (t0N y x) ∧ floatBits .sub .f64 quartF (a1N y x) = some (a2N y x) ∨
     (FloatKind.f64.format.order (absF y) (absF x) == some .gt) = false ∧ floatBits .quo .f64 (absF y) (absF x) = some (t0N y x) ∧ a2N y x = a1N y x) ∧
    ((FloatKind.f64.format.order x 0 == some .lt) = true ∧ floatBits .sub .f64 halfF (a2N y x) = some (a3N y x) ∨ (FloatKind.f64.format.order x 0 == some .lt) = false ∧ a3N y x = a2N y x) ∧
    ((FloatKind.f64.format.order y 0 == some .lt) = true ∧ angN y x = Op.negFloat .f64 (a3N y x) ∨ (FloatKind.f64.format.order y 0 == some .lt) = false ∧ angN y x = a3N y x) ∧
    LeN 11 (angN y x) ∧ ∃ r, floatBits .quo .f64 (absF y) (absF x) = some r := by
  obtain ⟨s, m, p, t, n, q, hy, hx, hz⟩ := h
  have ay := abs_read hy
  have ax := abs_read hx
  have ny : Num (some (absF y)) false m p := ⟨_, rfl, ay⟩
  have nx : Num (some (absF x)) false n q := ⟨_, rfl, ax⟩
  have ho : FloatKind.f64.format.order (absF y) (absF x) = _ := order_num ay ax
  have e1 : ∀ z, sv false z = (z : Int) := fun _ => rfl
  rw [e1, e1] at ho
  have hex : ∃ r, floatBits .quo .f64 (absF y) (absF x) = some r := by
    by_cases hn : n = 0
    · have hm : m ≠ 0 := fun h => hz ⟨h, hn⟩
      refine ⟨Ieee.double.write (.infinity (false ^^ false)), ?_⟩
      show ((Ieee.double.read (absF y)).quotient (52 + 2) (Ieee.double.read (absF x))).map Ieee.double.write = _
      rw [ay, ax]
      unfold Ieee.Datum.quotient
      simp only [if_pos hn, if_neg hm]
      rfl
    · exact ⟨_, ar_quo_num ny nx hn⟩
  have key : Up 0 (some (t0N y x)) ∧ ((FloatKind.f64.format.order (absF y) (absF x) == some .gt) = true ∧ floatBits .quo .f64 (absF x) (absF y) = some (t0N y x) ∨ (FloatKind.f64.format.order (absF y) (absF x) == some .gt) = false ∧ floatBits .quo .f64 (absF y) (absF x) = some (t0N y x)) := by
    cases hov : (FloatKind.f64.format.order (absF y) (absF x) == some .gt) with
    | true =>
      have e2 : t0N y x = fb .quo (absF x) (absF y) := if_pos hov
      have hlt : mg n q < mg m p := by
        rcases Nat.lt_or_ge (mg n q) (mg m p) with h | h
        · exact h
        · exfalso
          rw [ho] at hov
          rcases Nat.lt_or_eq_of_le h with h | h
          · rw [lt_compare (by omega)] at hov; cases hov
          · rw [eq_compare (by omega)] at hov; cases hov
      have hm : m ≠ 0 := by
        intro e
        have := (mg_pos (m := m) (p := p)).2 e
        omega
      obtain ⟨b1, b2⟩ := fb_of_up (quo_one nx ny hm (by omega))
      rw [e2]
      exact ⟨b2, .inl ⟨rfl, b1⟩⟩
    | false =>
      have e2 : t0N y x = fb .quo (absF y) (absF x) := if_neg (by unfold ovr; rw [hov]; decide)
      have hle : mg m p ≤ mg n q := by
        rcases Nat.lt_or_ge (mg n q) (mg m p) with h | h
        · exfalso
          rw [ho, gt_compare (by omega)] at hov; cases hov
        · exact h
      have hn : n ≠ 0 := by
        intro e
        have h1 := (mg_pos (m := n) (p := q)).2 e
        have h2 := (mg_pos (m := m) (p := p)).1 (by omega)
        exact hz ⟨h2, e⟩
      obtain ⟨b1, b2⟩ := fb_of_up (quo_one ny nx hn hle)
      rw [e2]
      exact ⟨b2, .inr ⟨rfl, b1⟩⟩
  obtain ⟨hup, hq⟩ := key
  have ha1 : LeN 9 (a1N y x) := (angT_facts hup).2.2.2.2.2
  obtain ⟨s1, s2⟩ := LeN.add (op := .sub) (.inr rfl) (quart_le.mono (show (-2 : Int) ≤ 9 by decide)) ha1 (by decide) (by decide)
  have ha2 : LeN 10 (a2N y x) := by
    unfold a2N
    split
    · exact s2.mono (by decide)
    · exact ha1.mono (by decide)
  obtain ⟨s3, s4⟩ := LeN.add (op := .sub) (.inr rfl) (half_le.mono (show (-1 : Int) ≤ 10 by decide)) ha2 (by decide) (by decide)
  have ha3 : LeN 11 (a3N y x) := by
    unfold a3N
    split
    · exact s4.mono (by decide)
    · exact ha2.mono (by decide)
  have ha4 : LeN 11 (angN y x) := by
    unfold angN
    split
    · exact ha3.neg
    · exact ha3
  refine ⟨hup, ?_, ?_, ?_, ha4, hex⟩
  · rcases hq with ⟨h1, h2⟩ | ⟨h1, h2⟩
    · exact .inl ⟨h1, h2, by rw [s1]; unfold a2N; rw [if_pos (show ovr y x = true from h1)]⟩
    · exact .inr ⟨h1, h2, by unfold a2N; rw [if_neg (by rw [show ovr y x = false from h1]; decide)]⟩
  · cases hl : (FloatKind.f64.format.order x 0 == some .lt) with
    | true => exact .inl ⟨rfl, by rw [s3]; unfold a3N; rw [if_pos (show ltz x = true from hl)]⟩
    | false => exact .inr ⟨rfl, by unfold a3N; rw [if_neg (by rw [show ltz x = false from hl]; decide)]⟩
  · cases hl : (FloatKind.f64.format.order y 0 == some .lt) with
    | true => exact .inl ⟨rfl, by unfold angN; rw [if_pos (show ltz y = true from hl)]⟩
    | false => exact .inr ⟨rfl, by unfold angN; rw [if_neg (by rw [show ltz y = false from hl]; decide)]⟩
end Go.Proofs.Ytcclmlabcihdoaa.Fl
namespace Go.Proofs.Ytcclmlabcihdoaa
open Go.RowKit Go.Proofs.Ytcclmlabcihdoaa.Fl

theorem Sqrt_num {x r : Nat} (w : World) (h : sqV (some x) = some r) : Calls Try.prog 53 #[.float .f64 x] w (Rf .f64 r w) := by
  have hrun := run_sqrt_some x r h
  clear h
  go_enter Try.func53, Try.ntmps53
  go_wp2_with fail
  go_ret
  exact ⟨rfl, rfl⟩

set_option maxRecDepth 100000 in
set_option maxHeartbeats 8000000 in
/-- The reference's angle of two numbers that are not both nought. -/
theorem angleWide_two (y x : Nat) (w : World) (hy : y < 2 ^ 64) (hx : x < 2 ^ 64) (h : Two y x) : Calls Try.prog 93 #[.float .f64 y, .float .f64 x] w (Rf .f64 (angN y x) w) := by
  obtain ⟨hup, H1, H2, H3, _, _⟩ := ang_facts h
  obtain ⟨f1, hu, f2, f3, f4, _⟩ := angT_facts hup
  obtain ⟨s, m, p, t, n, q, ry, rx, hz⟩ := h
  have qy := runF (P := Try.prog) 26 (sub_self ry)
  have qx := runF (P := Try.prog) 26 (sub_self rx)
  have z0 := zero_order
  have HZ : (FloatKind.f64.format.order x 0 == some .eq) = false ∨ (FloatKind.f64.format.order x 0 == some .eq) = true ∧ (FloatKind.f64.format.order y 0 == some .eq) = false := by
    have o1 : FloatKind.f64.format.order x 0 = _ := order_zero Ieee.double rx zero_read64
    have o2 : FloatKind.f64.format.order y 0 = _ := order_zero Ieee.double ry zero_read64
    by_cases hn : n = 0
    · refine .inr ⟨by rw [o1, if_pos hn]; rfl, ?_⟩
      rw [o2, if_neg (fun hm => hz ⟨hm, hn⟩)]
      cases s <;> rfl
    · left
      rw [o1, if_neg hn]
      cases t <;> rfl
  have r1 := runF (P := Try.prog) 26 f1
  have r2 := runF (P := Try.prog) 26 f2
  have r3 := runF (P := Try.prog) 26 f3
  have r4 := runF (P := Try.prog) 26 f4
  have HT := hid (tA_up hup)
  have HU := hid hu
  have Hy := hid hy
  have Hx := hid hx
  clear f1 f2 f3 f4 hu hup hy hx ry rx hz
  have e1 : a1N y x = angT (t0N y x) := rfl
  rw [← e1] at r4
  clear e1
  generalize angN y x = res at *
  generalize t0N y x = t0 at *
  generalize a1N y x = a1 at *
  generalize a2N y x = a2 at *
  generalize a3N y x = a3 at *
  rcases H1 with ⟨t1, s1, s2⟩ | ⟨t1, s1, rfl⟩ <;> rcases H2 with ⟨t2, s3⟩ | ⟨t2, rfl⟩ <;> rcases H3 with ⟨t3, rfl⟩ | ⟨t3, rfl⟩ <;> rcases HZ with tz | ⟨tz, tz2⟩ <;> have u1 := runF (P := Try.prog) 26 s1 <;> clear s1 <;> (try have u2 := runF (P := Try.prog) 26 s2) <;> (try clear s2) <;> (try have u3 := runF (P := Try.prog) 26 s3) <;> (try clear s3)
  all_goals
    go_enter Try.func93, Try.ntmps93
    go_wp2_with (go_at_call 63; first | (refine (Abs_any _ _ Hy.out).mono ?_; rintro e w' ⟨rfl, rfl⟩) | (refine (Abs_any _ _ Hx.out).mono ?_; rintro e w' ⟨rfl, rfl⟩))
    go_loop [8, 9] (fun a b => ∃ j : Nat, j ≤ 3 ∧ b = .int .i64 j ∧ a = .float .f64 (tA t0 j)) (fun _ b => 3 - (intOf b).toNat)
    case atStart => exact ⟨0, by omega, rfl, rfl⟩
    case round =>
      obtain ⟨j, hj, rfl, rfl⟩ := hrel
      by_cases hlt : j < 3
      · obtain ⟨g1, g2, g3, _, g5, g6, _⟩ := tv_facts (HT.out j)
        have v1 := runF (P := Try.prog) 26 g1
        have v2 := runF (P := Try.prog) 26 g2
        have v5 := runF (P := Try.prog) 26 g5
        have v6 := runF (P := Try.prog) 26 g6
        have G3 := hid g3
        clear g1 g2 g3 g5 g6
        go_wp2_with (go_at_call 53; refine (Sqrt_num _ G3.out).mono ?_; rintro e w' ⟨rfl, rfl⟩)
        exact ⟨⟨j + 1, by omega, by go_num, rfl⟩, by simp only [intOf]; omega⟩
      · have e3 : tA t0 j = tA t0 3 := by rw [show j = 3 from by omega]
        have hj3 : 3 ≤ (j : Int) := by omega
        rw [e3]
        clear e3 hlt
        go_wp2_with fail
        go_loop [11, 12] (fun a b => ∃ (j : Nat) (K : Int), b = .int .i64 K ∧ a = .float .f64 (angP (tU t0) j) ∧ j ≤ 8 ∧ -1 ≤ K ∧ K ≤ 15 ∧ Hid (K = 15 - 2 * (j : Int))) (fun _ b => (intOf b + 1).toNat)
        case atStart => exact ⟨0, 15, rfl, rfl, by omega, by omega, by omega, rfl⟩
        case round =>
          obtain ⟨i, K, rfl, rfl, hi, hK1, hK2, HK⟩ := hrel
          by_cases hlt : i < 8
          · obtain ⟨g1, g2, g3, _⟩ := ang_round HU.out hlt (angP_le HU.out hi)
            rw [← HK.out] at g1 g3
            have q1 := runF (P := Try.prog) 26 g1
            have q2 := runF (P := Try.prog) 26 g2
            have q3 := runF (P := Try.prog) 26 g3
            have hK3 : 1 ≤ K := by have := HK.out; omega
            have HN : Hid (K - 2 = 15 - 2 * ((i + 1 : Nat) : Int)) := by have := HK.out; show _ = _; omega
            clear g1 g2 g3 hK1
            unfold flI at q1 q3
            go_wp2_with fail
            exact ⟨⟨i + 1, K - 2, rfl, rfl, by omega, by omega, by omega, HN⟩, by simp only [intOf]; omega⟩
          · have e8 : angP (tU t0) i = angP (tU t0) 8 := by rw [show i = 8 from by omega]
            have hK3 : K < 1 := by have := HK.out; omega
            rw [e8]
            clear e8 hlt hK1 hK2 hi HK
            go_wp2_with fail
            go_ret
            exact ⟨rfl, rfl⟩
end Go.Proofs.Ytcclmlabcihdoaa
