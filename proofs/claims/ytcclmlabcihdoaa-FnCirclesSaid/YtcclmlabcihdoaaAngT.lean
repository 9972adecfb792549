/-
  Angles in turns: the program's side, and the law. Conditions: the bits are those of a float32.
-/
import Derived.Test.YtcclmlabcihdoaaAng
import Derived.Test.YtcclmlabcihdoaaFin
namespace Go.Proofs.Ytcclmlabcihdoaa.Fl
open Go

/-- A float32 number and its widened one stand alike to nought. -/
theorem wide_order {x : Nat} {s : Bool} {m : Nat} {p : Int} (h : Ieee.single.read x = .number s m p) :
    ∃ X m' p', floatToFloatBits .f32 x .f64 = some X ∧ X < 2 ^ 64 ∧ Ieee.double.read X = .number s m' p' ∧ (m' = 0 ↔ m = 0) ∧ FloatKind.f64.format.order X 0 = FloatKind.f32.format.order x 0 := by
  obtain ⟨X, m', p', hc, _, hX, hr, he⟩ := widen_bits h
  have hm0 : m' = 0 ↔ m = 0 := by rw [← mg_pos (m := m') (p := p'), he, mg_pos]
  refine ⟨X, m', p', hc, hX, hr, hm0, ?_⟩
  have o1 : FloatKind.f64.format.order X 0 = _ := order_zero Ieee.double hr zero_read64
  have o2 : FloatKind.f32.format.order x 0 = _ := order_zero Ieee.single h zero_read32
  rw [o1, o2]
  by_cases hm : m = 0
  · rw [if_pos hm, if_pos (hm0.2 hm)]
  · rw [if_neg hm, if_neg (fun h => hm (hm0.1 h))]

theorem any2 (bad : Nat → Bool) (a b : Nat) : anyB bad [a, b] 2 = (bad a || bad b) := by
  show ((false || bad a) || bad b) = _
  rw [Bool.false_or]
theorem two_cells {w : World} {p a b : Nat} (h0 : w.cell? ⟨p, 0, none⟩ = some (.float .f32 a)) (h1 : w.cell? ⟨p, 1, none⟩ = some (.float .f32 b)) :
    ∀ i, i < 2 → w.cell? ⟨p, i, none⟩ = some (.float .f32 ([a, b].getD i 0)) := by
  intro i hi
  match i, hi with
  | 0, _ => exact h0
  | 1, _ => exact h1
theorem run_sub_nan {P : Program} (t : TypeId) {x : Nat} (h : floatBits .sub .f64 x x = none) (W : World) :
    (binOp .sub t (.float .f64 x) (.float .f64 x)).run P W = .ok (.float .f64 ((Question.nanBits .f64 x x).cut (W.tape W.drawn (.nanBits .f64 x x)))) W.drew := by
  unfold floatBits at h
  simp only at h
  simp [binOp, Op.floatArith, h, Question.forced]
theorem sub_nan_order (x : Nat) (z : Nat) : FloatKind.f64.format.order ((Question.nanBits .f64 x x).cut z) 0 = none :=
  nan_order (val_of_nan (cut_nan .f64 _ (.inl ⟨x, x, rfl⟩) z))
end Go.Proofs.Ytcclmlabcihdoaa.Fl
namespace Go.Proofs.Ytcclmlabcihdoaa
open Go.RowKit Go.Proofs.Ytcclmlabcihdoaa.Fl

set_option maxRecDepth 100000 in
theorem angleWide_zero (y x : Nat) (w : World) (ry : floatBits .sub .f64 y y = some 0) (rx : floatBits .sub .f64 x x = some 0) (oy : FloatKind.f64.format.order y 0 = some .eq) (ox : FloatKind.f64.format.order x 0 = some .eq) :
    Calls Try.prog 93 #[.float .f64 y, .float .f64 x] w (Rf .f64 0 w) := by
  have qy := runF (P := Try.prog) 26 ry
  have qx := runF (P := Try.prog) 26 rx
  have z0 := zero_order
  clear ry rx
  go_enter Try.func93, Try.ntmps93
  go_wp2_with fail
  go_ret
  exact ⟨rfl, rfl⟩

set_option maxRecDepth 100000 in
theorem angleWide_nan1 (y x : Nat) (w : World) (h : ar .sub .f64 (val .f64 y) (val .f64 y) = none) : Calls Try.prog 93 #[.float .f64 y, .float .f64 x] w (RetF .f64 none w) := by
  have H := hid h
  clear h
  have hn := hid nan_const
  go_enter Try.func93, Try.ntmps93
  go_wp2_with (first | (refine wpList_ar _ rfl _ _ _ _ _ rfl _ _ _ rfl rfl rfl (show Is .f64 (val .f64 y) y from rfl) (show Is .f64 (val .f64 y) y from rfl) ?_; rw [H.out]; intro r n hr; have ho := nan_order (c := 0) hr; clear hr) | (go_at_call 74; refine (NaN_any _).mono ?_; rintro e w' ⟨rfl, rfl⟩))
  go_ret
  exact ⟨_, hn.out, rfl, _, rfl⟩

set_option maxRecDepth 100000 in
theorem angleWide_nan2 (y x : Nat) (w : World) (ry : floatBits .sub .f64 y y = some 0) (h : ar .sub .f64 (val .f64 x) (val .f64 x) = none) : Calls Try.prog 93 #[.float .f64 y, .float .f64 x] w (RetF .f64 none w) := by
  have qy := runF (P := Try.prog) 26 ry
  have z0 := zero_order
  rw [ar_val] at h
  have qx := run_sub_nan (P := Try.prog) 26 h
  have ox := sub_nan_order x
  have hn := hid nan_const
  clear h ry
  generalize hG : (fun W : World => (Question.nanBits .f64 x x).cut (W.tape W.drawn (.nanBits .f64 x x))) = G
  have qx2 : ∀ W : World, (binOp .sub 26 (.float .f64 x) (.float .f64 x)).run Try.prog W = .ok (.float .f64 (G W)) W.drew := by
    intro W; rw [← hG]; exact qx W
  have ox2 : ∀ W : World, FloatKind.f64.format.order (G W) 0 = none := by
    intro W; rw [← hG]; exact ox _
  clear qx ox hG
  go_enter Try.func93, Try.ntmps93
  go_wp2_with (go_at_call 74; refine (NaN_any _).mono ?_; rintro e w' ⟨rfl, rfl⟩)
  go_ret
  exact ⟨_, hn.out, rfl, 1, rfl⟩

/-- The reference's side, where both widened numbers and their angle are known. -/
theorem l01Angle_num (y x Y X r : Nat) (w : World) (cy : floatToFloatBits .f32 y .f64 = some Y) (cx : floatToFloatBits .f32 x .f64 = some X) (hl : ∀ W : World, Calls Try.prog 93 #[.float .f64 Y, .float .f64 X] W (Rf .f64 r W))
    (hi : Is .f64 (some r) r) (hf : Fits .f64 .f32 (some r)) : Calls Try.prog 72 #[.float .f32 y, .float .f32 x] w (RetF .f32 (cv .f64 .f32 (some r)) w) := by
  have qy : ∀ W : World, (convert 22 26 (.float .f32 y)).run Try.prog W = .ok (.float .f64 Y) W := fun W => run_convert_float_float W 22 26 .f32 .f64 y Y (by rw [Try.underlying22]; rfl) Try.underlying26 cy
  have qx : ∀ W : World, (convert 22 26 (.float .f32 x)).run Try.prog W = .ok (.float .f64 X) W := fun W => run_convert_float_float W 22 26 .f32 .f64 x X (by rw [Try.underlying22]; rfl) Try.underlying26 cx
  have HL := hid hl; have HI := hid hi; have HF := hid hf
  clear cy cx hl hi hf
  go_enter Try.func72, Try.ntmps72
  go_wp2_with (first | (go_at_call 93; refine (HL.out _).mono ?_; rintro e w' ⟨rfl, rfl⟩) | (go_at_call 80; refine (l01Narrow_any _ _ _ HI.out HF.out).mono ?_; rintro e w' ⟨r, hr, rfl, n, rfl⟩))
  go_ret
  exact ⟨_, ‹_›, rfl, _, rfl⟩
/-- The reference's side, where one of the two is no number. -/
theorem l01Angle_nan (y x : Nat) (w : World) (hl : ∀ Y X, Is .f64 (cv .f32 .f64 (val .f32 y)) Y → Is .f64 (cv .f32 .f64 (val .f32 x)) X → ∀ W : World, Calls Try.prog 93 #[.float .f64 Y, .float .f64 X] W (RetF .f64 none W)) :
    Calls Try.prog 72 #[.float .f32 y, .float .f32 x] w (RetF .f32 none w) := by
  have HL := hid hl
  have hnf := hid none_fits
  clear hl
  go_enter Try.func72, Try.ntmps72
  go_wp2_with (first | (refine wpList_cv _ rfl _ _ _ rfl .f32 .f64 _ rfl (by rw [Try.underlying22]; rfl) Try.underlying26 (show Is .f32 (val .f32 _) _ from rfl) (fits_widen _) ?_; intro r n hr) | (go_at_call 93; refine (HL.out _ _ (by assumption) (by assumption) _).mono ?_; rintro e w' ⟨r, hr2, rfl, n, rfl⟩) | (go_at_call 80; refine (l01Narrow_any _ _ _ (by assumption) hnf.out).mono ?_; rintro e w' ⟨r, hr3, rfl, n, rfl⟩))
  go_ret
  exact ⟨_, ‹_›, rfl, _, rfl⟩

set_option maxRecDepth 100000 in
set_option maxHeartbeats 1000000 in
theorem implAngle_nan (y x : Nat) (w : World) (h : (notFin y || notFin x) = true) : Calls Try.prog 36 #[.float .f32 y, .float .f32 x] w (RetFB .f32 none w) := by
  have H : Hid ((!(anyB notFin [y, x] 2)) = false) := by show _ = _; rw [any2, h]; rfl
  have hn := hid nan_const
  have hnf := hid none_fits
  clear h
  go_enter Try.func36, Try.ntmps36
  go_wp2_with fail
  refine (finite_any _ 2 [y, x] _ (by omega) (two_cells (by simp [go_sem]) (by simp [go_sem]))).mono ?_
  rw [H.out]
  rintro e w' ⟨rfl, n, rfl⟩
  go_wp2_with (first | (go_at_call 74; refine (NaN_any _).mono ?_; rintro e w' ⟨rfl, rfl⟩) | (refine wpList_cv _ rfl _ _ _ rfl .f64 .f32 _ rfl (by rw [Try.underlying26]; rfl) Try.underlying22 hn.out hnf.out ?_; intro r n hr))
  go_ret
  exact ⟨_, ‹_›, rfl, below_drewN ((Below.refl _ _).alloc (Nat.le_refl _) _) _⟩

set_option maxRecDepth 100000 in
set_option maxHeartbeats 1000000 in
theorem implAngle_zero (y x : Nat) (w : World) (h : (notFin y || notFin x) = false) (oy : FloatKind.f32.format.order y 0 = some .eq) (ox : FloatKind.f32.format.order x 0 = some .eq) : Calls Try.prog 36 #[.float .f32 y, .float .f32 x] w (RetFB .f32 (some 0) w) := by
  have H : Hid ((!(anyB notFin [y, x] 2)) = true) := by show _ = _; rw [any2, h]; rfl
  have hz : Hid (Is .f32 (some 0) 0) := by show val .f32 0 = _; decide +kernel
  clear h
  go_enter Try.func36, Try.ntmps36
  go_wp2_with fail
  refine (finite_any _ 2 [y, x] _ (by omega) (two_cells (by simp [go_sem]) (by simp [go_sem]))).mono ?_
  rw [H.out]
  rintro e w' ⟨rfl, n, rfl⟩
  go_wp2_with fail
  go_ret
  exact ⟨_, hz.out, rfl, below_drewN ((Below.refl _ _).alloc (Nat.le_refl _) _) _⟩

set_option maxRecDepth 100000 in
set_option maxHeartbeats 16000000 in
theorem implAngle_two (y x Y X : Nat) (w : World) (h0 : (notFin y || notFin x) = false) (cy : floatToFloatBits .f32 y .f64 = some Y) (cx : floatToFloatBits .f32 x .f64 = some X) (hY : Y < 2 ^ 64) (hX : X < 2 ^ 64)
    (oy : FloatKind.f64.format.order Y 0 = FloatKind.f32.format.order y 0) (ox : FloatKind.f64.format.order X 0 = FloatKind.f32.format.order x 0) (h : Two Y X) :
    Calls Try.prog 36 #[.float .f32 y, .float .f32 x] w (RetFB .f32 (cv .f64 .f32 (some (angN Y X))) w) := by
  have H : Hid ((!(anyB notFin [y, x] 2)) = true) := by show _ = _; rw [any2, h0]; rfl
  have cvy : ∀ W : World, (convert 22 26 (.float .f32 y)).run Try.prog W = .ok (.float .f64 Y) W := fun W => run_convert_float_float W 22 26 .f32 .f64 y Y (by rw [Try.underlying22]; rfl) Try.underlying26 cy
  have cvx : ∀ W : World, (convert 22 26 (.float .f32 x)).run Try.prog W = .ok (.float .f64 X) W := fun W => run_convert_float_float W 22 26 .f32 .f64 x X (by rw [Try.underlying22]; rfl) Try.underlying26 cx
  obtain ⟨hup, H1, H2, H3, hle, rq, hrq⟩ := ang_facts h
  obtain ⟨f1, hu, f2, f3, f4, _⟩ := angT_facts hup
  have hi := hid (show Is .f64 (some (angN Y X)) (angN Y X) from hle.val)
  have hff := hid (hle.out.fits (by decide) (by decide))
  have HZ : (FloatKind.f64.format.order X 0 == some .eq) = false ∨ (FloatKind.f64.format.order X 0 == some .eq) = true ∧ (FloatKind.f64.format.order Y 0 == some .eq) = false := by
    obtain ⟨s, m, p, t, n, q, ry, rx, hz⟩ := h
    have o1 : FloatKind.f64.format.order X 0 = _ := order_zero Ieee.double rx zero_read64
    have o2 : FloatKind.f64.format.order Y 0 = _ := order_zero Ieee.double ry zero_read64
    by_cases hn : n = 0
    · refine .inr ⟨by rw [o1, if_pos hn]; rfl, ?_⟩
      rw [o2, if_neg (fun hm => hz ⟨hm, hn⟩)]
      cases s <;> rfl
    · left
      rw [o1, if_neg hn]
      cases t <;> rfl
  rw [ox] at HZ H2
  rw [oy] at HZ H3
  have r1 := runF (P := Try.prog) 26 f1
  have r2 := runF (P := Try.prog) 26 f2
  have r3 := runF (P := Try.prog) 26 f3
  have r4 := runF (P := Try.prog) 26 f4
  have rr := runF (P := Try.prog) 26 hrq
  have HT := hid (tA_up hup)
  have HU := hid hu
  have Hy := hid hY
  have Hx := hid hX
  clear f1 f2 f3 f4 hu hup hle hY hX cy cx oy ox h h0
  have e1 : a1N Y X = angT (t0N Y X) := rfl
  rw [← e1] at r4
  clear e1
  generalize angN Y X = res at *
  generalize t0N Y X = t0 at *
  generalize a1N Y X = a1 at *
  generalize a2N Y X = a2 at *
  generalize a3N Y X = a3 at *
  rcases H1 with ⟨t1, s1, s2⟩ | ⟨t1, s1, rfl⟩ <;> rcases H2 with ⟨t2, s3⟩ | ⟨t2, rfl⟩ <;> rcases H3 with ⟨t3, rfl⟩ | ⟨t3, rfl⟩ <;> rcases HZ with tz | ⟨tz, tz2⟩ <;> (first | (obtain rfl := Option.some.inj (s1.symm.trans hrq); clear rr) | skip) <;> have u1 := runF (P := Try.prog) 26 s1 <;> clear s1 hrq <;> (try have u2 := runF (P := Try.prog) 26 s2) <;> (try clear s2) <;> (try have u3 := runF (P := Try.prog) 26 s3) <;> (try clear s3)
  all_goals
    go_enter Try.func36, Try.ntmps36
    go_wp2_with fail
    refine (finite_any _ 2 [y, x] _ (by omega) (two_cells (by simp [go_sem]) (by simp [go_sem]))).mono ?_
    rw [H.out]
    rintro e w' ⟨rfl, n, rfl⟩
    go_wp2_with (go_at_call 63; first | (refine (Abs_any _ _ Hy.out).mono ?_; rintro e w' ⟨rfl, rfl⟩) | (refine (Abs_any _ _ Hx.out).mono ?_; rintro e w' ⟨rfl, rfl⟩))
    go_loop [7, 42] (fun a b => ∃ j : Nat, j ≤ 3 ∧ b = .int .i64 j ∧ a = .float .f64 (tA t0 j)) (fun _ b => 3 - (intOf b).toNat)
    case atStart => exact ⟨0, by omega, rfl, rfl⟩
    case round =>
      obtain ⟨j, hj, rfl, rfl⟩ := hrel
      by_cases hlt : j < 3
      · obtain ⟨g1, g2, g3, _, g5, g6, _⟩ := tv_facts (HT.out j)
        have v1 := runF (P := Try.prog) 26 g1
        have v2 := runF (P := Try.prog) 26 g2
        have v5 := runF (P := Try.prog) 26 g5
        have v6 := runF (P := Try.prog) 26 g6
        have G3 := hid g3
        clear g1 g2 g3 g5 g6
        go_wp2_with (go_at_call 53; refine (Sqrt_num _ G3.out).mono ?_; rintro e w' ⟨rfl, rfl⟩)
        exact ⟨⟨j + 1, by omega, by go_num, rfl⟩, by simp only [intOf]; omega⟩
      · have e3 : tA t0 j = tA t0 3 := by rw [show j = 3 from by omega]
        have hj3 : 3 ≤ (j : Int) := by omega
        rw [e3]
        clear e3 hlt
        go_wp2_with fail
        go_loop [9, 10] (fun a b => ∃ (j : Nat) (K : Int), b = .int .i64 K ∧ a = .float .f64 (angP (tU t0) j) ∧ j ≤ 8 ∧ -1 ≤ K ∧ K ≤ 15 ∧ Hid (K = 15 - 2 * (j : Int))) (fun _ b => (intOf b + 1).toNat)
        case atStart => exact ⟨0, 15, rfl, rfl, by omega, by omega, by omega, rfl⟩
        case round =>
          obtain ⟨i, K, rfl, rfl, hi8, hK1, hK2, HK⟩ := hrel
          by_cases hlt : i < 8
          · obtain ⟨g1, g2, g3, _⟩ := ang_round HU.out hlt (angP_le HU.out hi8)
            rw [← HK.out] at g1 g3
            have q1 := runF (P := Try.prog) 26 g1
            have q2 := runF (P := Try.prog) 26 g2
            have q3 := runF (P := Try.prog) 26 g3
            have hK3 : 1 ≤ K := by have := HK.out; omega
            have HN : Hid (K - 2 = 15 - 2 * ((i + 1 : Nat) : Int)) := by have := HK.out; show _ = _; omega
            clear g1 g2 g3 hK1
            unfold flI at q1 q3
            go_wp2_with fail
            exact ⟨⟨i + 1, K - 2, rfl, rfl, by omega, by omega, by omega, HN⟩, by simp only [intOf]; omega⟩
          · have e8 : angP (tU t0) i = angP (tU t0) 8 := by rw [show i = 8 from by omega]
            have hK3 : K < 1 := by have := HK.out; omega
            rw [e8]
            clear e8 hlt hK1 hK2 hi8 HK
            go_wp2_with (refine wpList_cv _ rfl _ _ _ rfl .f64 .f32 _ rfl (by rw [Try.underlying26]; rfl) Try.underlying22 hi.out hff.out ?_; intro r n hr)
            go_ret
            exact ⟨_, ‹_›, rfl, below_drewN ((Below.refl _ _).alloc (Nat.le_refl _) _) _⟩

theorem notFin_num {x : Nat} {s : Bool} {m : Nat} {p : Int} (h : Ieee.single.read x = .number s m p) : notFin x = false := by unfold notFin; rw [num_fin h]; rfl
theorem notFin_not {x : Nat} (h : ∀ s m p, Ieee.single.read x ≠ .number s m p) : notFin x = true := by unfold notFin; rw [not_num_fin h]; rfl

/-- Both sides of AngleTurns come to one value. -/
theorem ang_both (y x : Nat) : ∃ V, (∀ w, Calls Try.prog 72 #[.float .f32 y, .float .f32 x] w (RetF .f32 V w)) ∧ (∀ w, Calls Try.prog 36 #[.float .f32 y, .float .f32 x] w (RetFB .f32 V w)) := by
  by_cases hy : ∃ s m p, Ieee.single.read y = .number s m p
  · obtain ⟨s, m, p, ry⟩ := hy
    obtain ⟨Y, m', p', cy, hY, rY, zy, oy⟩ := wide_order ry
    by_cases hx : ∃ s m p, Ieee.single.read x = .number s m p
    · obtain ⟨t, n, q, rx⟩ := hx
      obtain ⟨X, n', q', cx, hX, rX, zx, ox⟩ := wide_order rx
      have hnf : (notFin y || notFin x) = false := by rw [notFin_num ry, notFin_num rx]; rfl
      by_cases hz : m' = 0 ∧ n' = 0
      · have o1 : FloatKind.f64.format.order Y 0 = some .eq := by
          have : FloatKind.f64.format.order Y 0 = _ := order_zero Ieee.double rY zero_read64
          rw [this, if_pos hz.1]
        have o2 : FloatKind.f64.format.order X 0 = some .eq := by
          have : FloatKind.f64.format.order X 0 = _ := order_zero Ieee.double rX zero_read64
          rw [this, if_pos hz.2]
        have e0 : cv .f64 .f32 (some 0) = some 0 := by decide +kernel
        refine ⟨some 0, fun w => ?_, fun w => implAngle_zero y x w hnf (by rw [← oy]; exact o1) (by rw [← ox]; exact o2)⟩
        have := l01Angle_num y x Y X 0 w cy cx (fun W => angleWide_zero Y X W (sub_self rY) (sub_self rX) o1 o2) zero_is64 fits_zero
        rw [e0] at this
        exact this
      · have htwo : Two Y X := ⟨s, m', p', t, n', q', rY, rX, hz⟩
        have hle := (ang_facts htwo).2.2.2.2.1
        exact ⟨_, fun w => l01Angle_num y x Y X _ w cy cx (fun W => angleWide_two Y X W hY hX htwo) hle.val (hle.out.fits (by decide) (by decide)), fun w => implAngle_two y x Y X w hnf cy cx hY hX oy ox htwo⟩
    · have hn : ∀ s m p, Ieee.single.read x ≠ .number s m p := fun s m p h => hx ⟨s, m, p, h⟩
      refine ⟨none, fun w => l01Angle_nan y x w fun Y2 X2 i1 i2 W => ?_, fun w => implAngle_nan y x w (by rw [notFin_not hn, Bool.or_true])⟩
      have e : cv .f32 .f64 (val .f32 y) = some Y := by rw [val_num32 ry]; exact cy
      rw [e] at i1
      obtain rfl := i1.some_eq
      exact angleWide_nan2 _ X2 W (sub_self rY) (not_num_wide hn i2)
  · have hn : ∀ s m p, Ieee.single.read y ≠ .number s m p := fun s m p h => hy ⟨s, m, p, h⟩
    exact ⟨none, fun w => l01Angle_nan y x w fun Y2 X2 i1 i2 W => angleWide_nan1 Y2 X2 W (not_num_wide hn i1), fun w => implAngle_nan y x w (by rw [notFin_not hn, Bool.true_or])⟩

theorem specAngle_of {y x : Nat} {V : Option Nat} (w : World) (H : Hid (∀ w, Calls Try.prog 72 #[.float .f32 y, .float .f32 x] w (RetF .f32 V w))) : Calls Try.prog 35 #[.float .f32 y, .float .f32 x] w (RetF .f32 V w) := by
  go_enter Try.func35, Try.ntmps35
  go_wp2_with (go_at_call 72; refine (H.out _).mono ?_; rintro e w' ⟨r, hr, rfl, n, rfl⟩)
  go_ret
  exact ⟨_, ‹_›, rfl, _, rfl⟩

theorem FnExactAngleTurns_walk (y x : Nat) (w : World) (_hy : y < 4294967296) (_hx : x < 4294967296) : Calls Try.prog 11 #[.float .f32 y, .float .f32 x] w (Yes w) := by
  obtain ⟨V, h1, h2⟩ := ang_both y x
  have H1 : Hid (∀ w, Calls Try.prog 35 #[.float .f32 y, .float .f32 x] w (RetF .f32 V w)) := fun w => specAngle_of w h1
  have H2 := hid h2
  clear h1 h2 _hy _hx
  go_enter Try.func11, Try.ntmps11
  go_wp2_with (first | (go_at_call 35; refine (H1.out _).mono ?_; rintro e w' ⟨r, hr, rfl, m, rfl⟩) | (go_at_call 36; refine (H2.out _).mono ?_; rintro e w' ⟨r, hr, rfl, hb⟩) | (refine wpList_cv _ rfl _ _ _ rfl .f32 .f64 _ rfl (by rw [Try.underlying22]; rfl) Try.underlying26 (by first | assumption | exact rfl) (fits_widen _) ?_; intro r n hr) | (go_at_call 15; refine (same_any _ _ _ _ (by assumption) (by assumption)).mono ?_; rintro e w' ⟨rfl, n, rfl⟩))
  all_goals (go_ret; exact ⟨rfl, below_drewN ((below_draws w _).trans hb) _⟩)
end Go.Proofs.Ytcclmlabcihdoaa
