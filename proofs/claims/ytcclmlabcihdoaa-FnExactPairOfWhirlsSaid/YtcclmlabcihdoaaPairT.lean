/-
  A pair of whirls: the laws' own comparison and marks, and the law. No conditions.
-/
import Derived.Test.YtcclmlabcihdoaaPair
namespace Go.Proofs.Ytcclmlabcihdoaa.Fl
open Go Go.RowKit

/-- The cells with the marks. -/
def marks2 : List Value := [.complex .f32 1065353216 1065353216, .float .f32 1073741824, .complex .f32 1077936128 1065353216, .float .f32 1082130432]
/-- A float32 number, widened, by its bits. -/
theorem wide_some {x : Nat} (h : fin (val .f32 x) = true) : ∃ y, floatToFloatBits .f32 x .f64 = some y ∧ Is .f64 (some y) y := by
  by_cases hnum : ∃ s m p, Ieee.single.read x = .number s m p
  · obtain ⟨s, m, p, hr⟩ := hnum
    obtain ⟨y, m', p', hc, _, _, hr2, _⟩ := widen_bits hr
    obtain ⟨z, hz, hv⟩ := (Num.is (v := some y) ⟨y, rfl, hr2⟩)
    cases hz
    exact ⟨y, hc, hv⟩
  · have := not_num_fin (x := x) fun s m p hh => hnum ⟨s, m, p, hh⟩
    rw [this] at h
    cases h
/-- The walk's step of a conversion of complex numbers whose parts are known. -/
theorem run_cc {P : Program} (src dst fs fd : TypeId) (s k : FloatKind) {x y r q : Nat} (hs : (P.underlying src).isSome = true) (hd : P.underlying dst = some (.complex k)) (hfs : P.underlying fs = some (.float s)) (hfd : P.underlying fd = some (.float k))
    (h1 : floatToFloatBits s x k = some r) (h2 : floatToFloatBits s y k = some q) (w : World) : (convert src dst (.complex s x y)).run P w = .ok (.complex k r q) w := by
  obtain ⟨u, hs'⟩ := Option.isSome_iff_exists.1 hs
  have e1 := run_convert_float_float w fs fd s k x r (by rw [hfs]; rfl) hfd h1
  have e2 := run_convert_float_float w fs fd s k y q (by rw [hfs]; rfl) hfd h2
  have g1 : (Conv.floatToFloat s x k).run P w = .ok (.float k r) w := by
    rw [← e1]
    simp [convert, run_underlying hfs, run_underlying hfd]
  have g2 : (Conv.floatToFloat s y k).run P w = .ok (.float k q) w := by
    rw [← e2]
    simp [convert, run_underlying hfs, run_underlying hfd]
  cases u <;> simp [convert, run_underlying hs', run_underlying hd, Conv.complexToComplex, g1, g2]
end Go.Proofs.Ytcclmlabcihdoaa.Fl
namespace Go.Proofs.Ytcclmlabcihdoaa
open Go.RowKit Go.Proofs.Ytcclmlabcihdoaa.Fl

set_option maxHeartbeats 2000000 in
theorem eqWhirl_num (a b c : Nat) (w : World) (h : wok a b c = true) : Calls Try.prog 67 #[.agg #[.complex .f32 a b, .float .f32 c], .agg #[.complex .f32 a b, .float .f32 c]] w (RetB (.bool true) w) := by
  unfold wok at h
  rw [Bool.and_eq_true, Bool.and_eq_true] at h
  obtain ⟨⟨ha, hb⟩, hc⟩ := h
  obtain ⟨A, ca, ia⟩ := wide_some ha
  obtain ⟨B, cb, ib⟩ := wide_some hb
  obtain ⟨C, cc, ic⟩ := wide_some hc
  have q1 := run_cc (P := Try.prog) 44 47 22 26 .f32 .f64 (by rw [Try.underlying44]; rfl) Try.underlying47 Try.underlying22 Try.underlying26 ca cb
  have q2 : ∀ W : World, (convert 22 26 (.float .f32 c)).run Try.prog W = .ok (.float .f64 C) W := fun W => run_convert_float_float W 22 26 .f32 .f64 c C (by rw [Try.underlying22]; rfl) Try.underlying26 cc
  have Ia := hid ia; have Ib := hid ib; have Ic := hid ic
  clear ha hb hc ca cb cc ia ib ic
  go_enter Try.func67, Try.ntmps67
  go_wp2_with fail
  refine (sameComplex_any _ _ _ _ _ _ _ Ia.out Ib.out Ia.out Ib.out).mono ?_
  rintro e w' ⟨rfl, n, rfl⟩
  go_wp2_with fail
  refine (same_any _ _ _ _ Ic.out Ic.out).mono ?_
  rintro e w' ⟨rfl, n, rfl⟩
  go_wp2_with fail
  go_ret
  exact ⟨rfl, below_drewN (((Below.refl _ _).alloc (Nat.le_refl _) _).alloc (by simp) _) _⟩

set_option maxHeartbeats 4000000 in
theorem eqWhirlS_two (p q a b c a' b' c' : Nat) (w : World) (hp : TwoW w p a b c a' b' c') (hq : TwoW w q a b c a' b' c') (h : (wok a b c && wok a' b' c') = true) :
    Calls Try.prog 27 #[.slice (some ⟨p, 0, none⟩) 2 2, .slice (some ⟨q, 0, none⟩) 2 2] w (RetB (.bool true) w) := by
  rw [Bool.and_eq_true] at h
  have Hp := hid hp; have Hq := hid hq; have H1 := hid h.1; have H2 := hid h.2
  clear hp hq h
  go_enter Try.func27, Try.ntmps27
  go_wp2_with fail
  go_loopw [5] (fun i wr => ∃ k : Nat, k ≤ 2 ∧ i = .int .i64 k ∧ Hid (Below w.heap.size w wr)) (fun i _ => 2 - (intOf i).toNat)
  case atStart => exact ⟨0, by omega, rfl, Below.refl _ _⟩
  case round =>
    obtain ⟨k, hk, rfl, HB⟩ := hrel
    obtain ⟨g0, g1, g2, g3⟩ := Hp.out.below HB.out
    obtain ⟨i0, i1, i2, i3⟩ := Hq.out.below HB.out
    have hs := HB.out.size
    obtain rfl | rfl | rfl : k = 0 ∨ k = 1 ∨ k = 2 := by omega
    · go_wp2_with fail
      go_still_tail 8, (by kernel_rfl)
      change wpList _ _ _ _ _ wr.drew
      go_wp2_with fail
      refine (eqWhirl_num _ _ _ _ H1.out).mono ?_
      rintro e w1 ⟨rfl, hb⟩
      have Hb := hid hb; clear hb
      go_wp2_with fail
      exact ⟨⟨1, by omega, by go_num, HB.out.drew.trans (Hb.out.mono hs)⟩, by simp [intOf]⟩
    · go_wp2_with fail
      go_still_tail 8, (by kernel_rfl)
      change wpList _ _ _ _ _ wr.drew
      go_wp2_with fail
      refine (eqWhirl_num _ _ _ _ H2.out).mono ?_
      rintro e w1 ⟨rfl, hb⟩
      have Hb := hid hb; clear hb
      go_wp2_with fail
      exact ⟨⟨2, by omega, by go_num, HB.out.drew.trans (Hb.out.mono hs)⟩, by simp [intOf]⟩
    · go_wp2_with fail
      go_ret
      exact ⟨rfl, HB.out⟩

theorem eqW_nil (w : World) : Calls Try.prog 27 #[.slice none 0 0, .slice none 0 0] w (fun e w' => e = .returned (.bool true) ∧ w' = w) := by
  go_enter Try.func27, Try.ntmps27
  go_wp2_with fail
  go_loop [5] (fun i => i = .int .i64 0) (fun _ => 0)
  case atStart => exact rfl
  case round =>
    obtain rfl := hrel
    go_wp2_with fail
    go_ret
    exact ⟨rfl, rfl⟩
theorem markW_nil (w : World) : Calls Try.prog 28 #[.slice none 0 0, .int .i64 1] w (fun e w' => e = .returned (.int .i64 1) ∧ w' = w) := by
  go_enter Try.func28, Try.ntmps28
  go_wp2_with fail
  go_loop [1, 5] (fun k i => k = .int .i64 1 ∧ i = .int .i64 0) (fun _ _ => 0)
  case atStart => exact ⟨rfl, rfl⟩
  case round =>
    obtain ⟨rfl, rfl⟩ := hrel
    go_wp2_with fail
    go_ret
    exact ⟨rfl, rfl⟩
theorem heldW_nil (w : World) : Calls Try.prog 29 #[.slice none 0 0, .int .i64 1] w (fun e w' => e = .returned (.int .i64 1) ∧ w' = w) := by
  go_enter Try.func29, Try.ntmps29
  go_wp2_with fail
  go_loop [1, 5] (fun k i => k = .int .i64 1 ∧ i = .int .i64 0) (fun _ _ => 0)
  case atStart => exact ⟨rfl, rfl⟩
  case round =>
    obtain ⟨rfl, rfl⟩ := hrel
    go_wp2_with fail
    go_ret
    exact ⟨rfl, rfl⟩

/-- The cells behind k marks. -/
def markW (xs : List Value) : Nat → List Value
  | 0 => xs
  | 1 => (xs.set 0 (.complex .f32 1065353216 1065353216)).set 1 (.float .f32 1073741824)
  | _ => (((xs.set 0 (.complex .f32 1065353216 1065353216)).set 1 (.float .f32 1073741824)).set 2 (.complex .f32 1077936128 1065353216)).set 3 (.float .f32 1082130432)

theorem one64 : floatOfInt .f64 1 = 4607182418800017408 := by decide +kernel
theorem three64 : floatOfInt .f64 3 = 4613937818241073152 := by decide +kernel
theorem two32 : floatOfInt .f32 2 = 1073741824 := by decide +kernel
theorem four32 : floatOfInt .f32 4 = 1082130432 := by decide +kernel
theorem nar1 : floatToFloatBits .f64 4607182418800017408 .f32 = some 1065353216 := by decide +kernel
theorem nar3 : floatToFloatBits .f64 4613937818241073152 .f32 = some 1077936128 := by decide +kernel
theorem ord1 : FloatKind.f32.format.order 1065353216 1065353216 = some .eq := by decide +kernel
theorem ord2 : FloatKind.f32.format.order 1073741824 1073741824 = some .eq := by decide +kernel
theorem ord3 : FloatKind.f32.format.order 1077936128 1077936128 = some .eq := by decide +kernel
theorem ord4 : FloatKind.f32.format.order 1082130432 1082130432 = some .eq := by decide +kernel

def MarkedW (g B : Nat) (xs : List Value) (w : World) (e : Ending) (w' : World) : Prop := e = .returned (.int .i64 5) ∧ w'.ownsRow B 66 2 (.slice (some ⟨g, 0, none⟩) 2 2) 2 (markW xs 2) ∧ w.grownBy w' (some g)

set_option maxHeartbeats 4000000 in
theorem markW_two (g B : Nat) (x0 x1 x2 x3 : Value) (w : World) (hx : ∃ a b c a' b' c', x0 = .complex .f32 a b ∧ x1 = .float .f32 c ∧ x2 = .complex .f32 a' b' ∧ x3 = .float .f32 c') (ho : w.ownsRow B 66 2 (.slice (some ⟨g, 0, none⟩) 2 2) 2 [x0, x1, x2, x3]) :
    Calls Try.prog 28 #[.slice (some ⟨g, 0, none⟩) 2 2, .int .i64 1] w (MarkedW g B [x0, x1, x2, x3] w) := by
  obtain ⟨a, b, c, a', b', c', rfl, rfl, rfl, rfl⟩ := hx
  have Ho := hid ho; clear ho
  have f1 := one64; have f3 := three64; have f2 := two32; have f4 := four32
  have n1 := run_cc (P := Try.prog) 47 44 26 22 .f64 .f32 (by rw [Try.underlying47]; rfl) Try.underlying44 Try.underlying26 Try.underlying22 nar1 nar1
  have n3 := run_cc (P := Try.prog) 47 44 26 22 .f64 .f32 (by rw [Try.underlying47]; rfl) Try.underlying44 Try.underlying26 Try.underlying22 nar3 nar1
  go_enter Try.func28, Try.ntmps28
  go_wp2_with fail
  go_loopw [1, 5] (fun kv i wr => ∃ k : Nat, k ≤ 2 ∧ i = .int .i64 k ∧ kv = .int .i64 (2 * (k : Int) + 1) ∧ Hid (wr.ownsRow B 66 2 (.slice (some ⟨g, 0, none⟩) 2 2) 2 (markW [.complex .f32 a b, .float .f32 c, .complex .f32 a' b', .float .f32 c'] k)) ∧ Hid (w.grownBy wr (some g))) (fun _ i _ => 2 - (intOf i).toNat)
  case atStart => exact ⟨0, by omega, rfl, rfl, Ho, ⟨rfl, rfl, rfl, Nat.le_refl _, fun _ _ _ => rfl⟩⟩
  case round =>
    obtain ⟨k, hk, rfl, rfl, Hw, Hg⟩ := hrel
    obtain rfl | rfl | rfl : k = 0 ∨ k = 1 ∨ k = 2 := by omega
    · have c0 : wr.cell? ⟨g, 0, none⟩ = some (.complex .f32 a b) := by rw [Hw.out.cellAt 0 (by omega)]; rfl
      have z0 : wr.frozen? ⟨g, 0, none⟩ = false := Hw.out.frozenAt 0
      obtain ⟨hst, hgr⟩ := Hw.out.stored 0 (.complex .f32 1065353216 1065353216)
      have c1 : (wr.setCell ⟨g, 0, none⟩ (.complex .f32 1065353216 1065353216)).cell? ⟨g, 1, none⟩ = some (.float .f32 c) := by rw [hst.cellAt 1 (by omega)]; rfl
      have z1 : (wr.setCell ⟨g, 0, none⟩ (.complex .f32 1065353216 1065353216)).frozen? ⟨g, 1, none⟩ = false := hst.frozenAt 1
      obtain ⟨hst2, hgr2⟩ := hst.stored 1 (.float .f32 1073741824)
      have Hst := hid hst2
      have Hgr := hid ((Hg.out.trans hgr).trans hgr2)
      clear hst hgr hst2 hgr2
      go_wp2_with fail
      exact ⟨⟨1, by omega, rfl, rfl, Hst, Hgr⟩, by simp [intOf]⟩
    · have c0 : wr.cell? ⟨g, 2, none⟩ = some (.complex .f32 a' b') := by rw [Hw.out.cellAt 2 (by omega)]; rfl
      have z0 : wr.frozen? ⟨g, 2, none⟩ = false := Hw.out.frozenAt 2
      obtain ⟨hst, hgr⟩ := Hw.out.stored 2 (.complex .f32 1077936128 1065353216)
      have c1 : (wr.setCell ⟨g, 2, none⟩ (.complex .f32 1077936128 1065353216)).cell? ⟨g, 3, none⟩ = some (.float .f32 c') := by rw [hst.cellAt 3 (by omega)]; rfl
      have z1 : (wr.setCell ⟨g, 2, none⟩ (.complex .f32 1077936128 1065353216)).frozen? ⟨g, 3, none⟩ = false := hst.frozenAt 3
      obtain ⟨hst2, hgr2⟩ := hst.stored 3 (.float .f32 1082130432)
      have Hst := hid hst2
      have Hgr := hid ((Hg.out.trans hgr).trans hgr2)
      clear hst hgr hst2 hgr2
      go_wp2_with fail
      exact ⟨⟨2, by omega, rfl, rfl, Hst, Hgr⟩, by simp [intOf]⟩
    · go_wp2_with fail
      go_ret
      exact ⟨rfl, Hw.out, Hg.out⟩

/-- The marks of two whirls, in their block. -/
def MarksW (w : World) (g : Nat) : Prop := w.cell? ⟨g, 0, none⟩ = some (.complex .f32 1065353216 1065353216) ∧ w.cell? ⟨g, 1, none⟩ = some (.float .f32 1073741824) ∧ w.cell? ⟨g, 2, none⟩ = some (.complex .f32 1077936128 1065353216) ∧ w.cell? ⟨g, 3, none⟩ = some (.float .f32 1082130432)
theorem MarksW.below {w w' : World} {g : Nat} (h : MarksW w g) (hb : Below w.heap.size w w') : MarksW w' g := by
  obtain ⟨h1, h2, h3, h4⟩ := h
  exact ⟨by rw [hb.cell (World.block_lt_of_cell? w _ h1)]; exact h1, by rw [hb.cell (World.block_lt_of_cell? w _ h2)]; exact h2, by rw [hb.cell (World.block_lt_of_cell? w _ h3)]; exact h3, by rw [hb.cell (World.block_lt_of_cell? w _ h4)]; exact h4⟩
theorem marksW_own {w : World} {B g : Nat} {x0 x1 x2 x3 : Value} {e : TypeId} (ho : w.ownsRow B e 2 (.slice (some ⟨g, 0, none⟩) 2 2) 2 (markW [x0, x1, x2, x3] 2)) : MarksW w g :=
  ⟨by rw [ho.cellAt 0 (by omega)]; rfl, by rw [ho.cellAt 1 (by omega)]; rfl, by rw [ho.cellAt 2 (by omega)]; rfl, by rw [ho.cellAt 3 (by omega)]; rfl⟩

set_option maxHeartbeats 4000000 in
theorem heldW_two (g : Nat) (w : World) (hm : MarksW w g) : Calls Try.prog 29 #[.slice (some ⟨g, 0, none⟩) 2 2, .int .i64 1] w (fun e w' => e = .returned (.int .i64 5) ∧ ∃ m, w' = w.drewN m) := by
  obtain ⟨c0, c1, c2, c3⟩ := hm
  have f1 := one64; have f3 := three64; have f2 := two32; have f4 := four32
  have o1 := ord1; have o2 := ord2; have o3 := ord3; have o4 := ord4
  have n1 := run_cc (P := Try.prog) 47 44 26 22 .f64 .f32 (by rw [Try.underlying47]; rfl) Try.underlying44 Try.underlying26 Try.underlying22 nar1 nar1
  have n3 := run_cc (P := Try.prog) 47 44 26 22 .f64 .f32 (by rw [Try.underlying47]; rfl) Try.underlying44 Try.underlying26 Try.underlying22 nar3 nar1
  go_enter Try.func29, Try.ntmps29
  go_wp2_with fail
  go_loopw [1, 5] (fun kv i wr => ∃ k : Nat, k ≤ 2 ∧ i = .int .i64 k ∧ kv = .int .i64 (2 * (k : Int) + 1) ∧ ∃ m, wr = w.drewN m) (fun _ i _ => 2 - (intOf i).toNat)
  case atStart => exact ⟨0, by omega, rfl, rfl, 0, rfl⟩
  case round =>
    obtain ⟨k, hk, rfl, rfl, m, rfl⟩ := hrel
    obtain rfl | rfl | rfl : k = 0 ∨ k = 1 ∨ k = 2 := by omega
    · go_wp2_with fail
      exact ⟨⟨1, by omega, rfl, rfl, _, rfl⟩, by simp [intOf]⟩
    · go_wp2_with fail
      exact ⟨⟨2, by omega, rfl, rfl, _, rfl⟩, by simp [intOf]⟩
    · go_wp2_with fail
      go_ret
      exact ⟨rfl, _, rfl⟩

theorem pair_kinds (h s : Nat) : ∃ a b c a' b' c', (Value.complex .f32 h 0) = .complex .f32 a b ∧ (Value.float .f32 s) = .float .f32 c ∧ (Value.complex .f32 (ng h) (ng 0)) = .complex .f32 a' b' ∧ (Value.float .f32 (ng s)) = .float .f32 c' := ⟨_, _, _, _, _, _, rfl, rfl, rfl, rfl⟩

set_option maxHeartbeats 4000000 in
theorem FnExactPairOfWhirls_walk (gap s : Nat) (w : World) (_hg : gap < 4294967296) (_hs : s < 4294967296) : Calls Try.prog 8 #[.float .f32 gap, .float .f32 s] w (Yes w) := by
  clear _hg _hs
  have HS := hid (fun W : World => specPair_any gap s W)
  have HI := hid (fun W : World => implPair_any gap s W)
  have hok : pairB gap s = true → (wok (halfN gap) 0 s && wok (ng (halfN gap)) (ng 0) (ng s)) = true := by
    intro h
    unfold pairB at h
    rw [Bool.and_eq_true] at h
    exact h.2
  cases hb : pairB gap s with
  | false =>
    rw [hb] at HS HI
    clear hok hb
    go_enter Try.func8, Try.ntmps8
    go_wp2_with fail
    refine (HS.out _).mono ?_
    rintro e w1 ⟨rfl, hb1⟩
    have Hb1 := hid hb1; clear hb1
    go_wp2_with fail
    refine (HI.out _).mono ?_
    rintro e w2 ⟨rfl, hb2⟩
    have Hb2 := hid hb2; clear hb2
    go_wp2_with (first
      | (go_at_call 27; refine (eqW_nil _).mono ?_; rintro e w' ⟨rfl, rfl⟩)
      | (go_at_call 28; refine (markW_nil _).mono ?_; rintro e w' ⟨rfl, rfl⟩)
      | (go_at_call 29; refine (heldW_nil _).mono ?_; rintro e w' ⟨rfl, rfl⟩)
      | (go_at_call 26; refine (HI.out _).mono ?_; rintro e w4 ⟨rfl, hb4⟩; have Hb4 := hid hb4; clear hb4))
    all_goals (
      go_ret
      have h12 := Hb1.out.trans (Hb2.out.mono Hb1.out.size)
      exact ⟨rfl, h12.trans (Hb4.out.mono h12.size)⟩)
  | true =>
    have Hok := hid (hok hb)
    rw [hb] at HS HI
    clear hok hb
    generalize halfN gap = h at *
    go_enter Try.func8, Try.ntmps8
    go_wp2_with fail
    refine (HS.out _).mono ?_
    rintro e w1 ⟨gw, rfl, how, hb1⟩
    have How := hid how; have Hb1 := hid hb1; clear how hb1
    go_wp2_with fail
    refine (HI.out _).mono ?_
    rintro e w2 ⟨gg, rfl, hog, hb2⟩
    have Hog := hid hog; have Hb2 := hid hb2; clear hog hb2
    have hwb := How.out.lt gw rfl
    have hgb := Hog.out.lt gg rfl
    have How2 := hid (own_below2 How.out Hb2.out)
    have Hb3 := hid (Hb1.out.trans (Hb2.out.mono Hb1.out.size))
    have Hz1 := Hb1.out.size
    go_wp2_with fail
    refine (eqWhirlS_two gg gw _ _ _ _ _ _ _ (TwoW.own Hog.out) (TwoW.own How2.out) Hok.out).mono ?_
    rintro e w3 ⟨rfl, hb⟩
    have Hb4 := hid (Hb3.out.trans (hb.mono Hb3.out.size))
    have Hog3 := hid (own_below2 Hog.out hb)
    have How3 := hid (own_below2 How2.out hb)
    have Hz3 := hb.size
    clear hb
    go_wp2_with fail
    refine (markW_two gg w1.heap.size _ _ _ _ _ (pair_kinds h s) Hog3.out).mono ?_
    rintro e w4 ⟨rfl, hmk, hgr⟩
    have Hmk := hid (marksW_own hmk)
    have Hb5 := hid (Hb4.out.grown hgr Hb4.out.size (fun q hq => by cases hq; omega))
    have hgw : gw ≠ gg := by omega
    have How4 := hid (World.ownsRow.kept (w := w3) (w' := w4) How3.out hgr (.inr (by simp [Value.ownBlock]; exact hgw)))
    clear hgr hmk
    go_wp2_with fail
    refine (heldW_two gg _ Hmk.out).mono ?_
    rintro e w' ⟨rfl, m, rfl⟩
    have Hb6 := hid (below_drewN Hb5.out m)
    go_wp2_with fail
    refine (HI.out _).mono ?_
    rintro e w5 ⟨gh, rfl, hoh, hb7⟩
    have Hoh := hid hoh
    have How5 := hid (own_below2 (w := w4.drewN m) How4.out hb7)
    have Hmk5 := hid (MarksW.below (w := w4.drewN m) Hmk.out hb7)
    have Hb8 := hid (Hb6.out.trans (hb7.mono Hb6.out.size))
    clear hoh hb7
    go_wp2_with fail
    refine (eqWhirlS_two gh gw _ _ _ _ _ _ _ (TwoW.own Hoh.out) (TwoW.own How5.out) Hok.out).mono ?_
    rintro e w6 ⟨rfl, hb⟩
    have Hmk6 := hid (Hmk5.out.below hb)
    have Hb9 := hid (Hb8.out.trans (hb.mono Hb8.out.size))
    clear hb
    go_wp2_with fail
    refine (heldW_two gg _ Hmk6.out).mono ?_
    rintro e w' ⟨rfl, m2, rfl⟩
    go_wp2_with fail
    go_ret
    exact ⟨rfl, below_drewN Hb9.out _⟩
end Go.Proofs.Ytcclmlabcihdoaa
