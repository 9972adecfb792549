/-
  The laws' and the implementation's small functions of complex numbers, at numbers that are known. Conditions: those of each contract.
-/
import Derived.Test.YtcclmlabcihdoaaCirA
import Derived.Test.YtcclmlabcihdoaaHalf
import Derived.Laws.Cover3
import Derived.Below
namespace Go.Proofs.Ytcclmlabcihdoaa.Fl
open Go Go.RowKit
/-- A slice of bytes that came in: nil, or a row of cells. -/
def RowU (w : World) (a : Option Addr) (len : Nat) (zs : List Int) : Prop :=
  (∀ i, i < len → 0 ≤ zs.getD i 0 ∧ zs.getD i 0 < 256) ∧ (len = 0 ∨ ∃ b o, a = some ⟨b, o, none⟩ ∧ ∀ i, i < len → w.cell? ⟨b, o + i, none⟩ = some (.int .u8 (zs.getD i 0)))
theorem RowU.below {w w' : World} {a : Option Addr} {len : Nat} {zs : List Int} (h : RowU w a len zs) (hb : Below w.heap.size w w') : RowU w' a len zs := by
  obtain ⟨h0, h⟩ := h
  refine ⟨h0, ?_⟩
  rcases h with h | ⟨b, o, rfl, hc⟩
  · exact .inl h
  · refine .inr ⟨b, o, rfl, fun i hi => ?_⟩
    have h1 := hc i hi
    rw [hb.cell (World.block_lt_of_cell? w _ h1)]
    exact h1
/-- A call that hands back a number below n. -/
def RetAt (n : Int) (w : World) (e : Ending) (w' : World) : Prop := ∃ v : Int, e = .returned (.int .i64 v) ∧ 0 ≤ v ∧ v < n ∧ w = w'
def RetBl (b : Bool) (w : World) (e : Ending) (w' : World) : Prop := e = .returned (.bool b) ∧ w = w'
def RetWide (x y : Nat) (w : World) (e : Ending) (w' : World) : Prop := e = .returned (.tuple #[.float .f64 x, .float .f64 y]) ∧ w = w'
end Go.Proofs.Ytcclmlabcihdoaa.Fl
namespace Go.Proofs.Ytcclmlabcihdoaa
open Go.RowKit Go.Proofs.Ytcclmlabcihdoaa.Fl

theorem b10Gap_at {x y g : Nat} (w : World) (h : Gap x y g) : Calls Try.prog 40 #[.float .f64 x, .float .f64 y] w (Rf .f64 g w) := by
  rcases h with ⟨ho, hs⟩ | ⟨ho, hs⟩
  all_goals
    have t0 : (FloatKind.f64.format.order x y == some .lt) = _ := ho
    have r0 := runF (P := Try.prog) 26 hs
    clear ho hs
    go_enter Try.func40, Try.ntmps40
    go_wp2_with fail
    go_ret
    exact ⟨rfl, rfl⟩

theorem wide_at {r i R I : Nat} (w : World) (h1 : floatToFloatBits .f32 r .f64 = some R) (h2 : floatToFloatBits .f32 i .f64 = some I) : Calls Try.prog 76 #[.complex .f32 r i] w (RetWide R I w) := by
  have q1 : ∀ W : World, (convert 22 26 (.float .f32 r)).run Try.prog W = .ok (.float .f64 R) W := fun W => run_convert_float_float W 22 26 .f32 .f64 r R (by rw [Try.underlying22]; rfl) Try.underlying26 h1
  have q2 : ∀ W : World, (convert 22 26 (.float .f32 i)).run Try.prog W = .ok (.float .f64 I) W := fun W => run_convert_float_float W 22 26 .f32 .f64 i I (by rw [Try.underlying22]; rfl) Try.underlying26 h2
  clear h1 h2
  go_enter Try.func76, Try.ntmps76
  go_wp2_with fail
  go_ret2
  exact ⟨rfl, rfl⟩

theorem power_at {r i R I a b c : Nat} (w : World) (h1 : floatToFloatBits .f32 r .f64 = some R) (h2 : floatToFloatBits .f32 i .f64 = some I) (ha : floatBits .mul .f64 R R = some a) (hb : floatBits .mul .f64 I I = some b) (hc : floatBits .add .f64 a b = some c) :
    Calls Try.prog 75 #[.complex .f32 r i] w (Rf .f64 c w) := by
  have H := hid (fun W : World => wide_at W h1 h2)
  have r1 := runF (P := Try.prog) 26 ha
  have r2 := runF (P := Try.prog) 26 hb
  have r3 := runF (P := Try.prog) 26 hc
  clear h1 h2 ha hb hc
  go_enter Try.func75, Try.ntmps75
  go_wp2_with (go_at_call 76; refine (H.out _).mono ?_; rintro e w' ⟨rfl, rfl⟩)
  go_ret
  exact ⟨rfl, rfl⟩
theorem powerOf_at {r i R I a b c d : Nat} (w : World) (h1 : floatToFloatBits .f32 r .f64 = some R) (h2 : floatToFloatBits .f32 i .f64 = some I) (ha : floatBits .mul .f64 R R = some a) (hb : floatBits .mul .f64 I I = some b) (hc : floatBits .add .f64 a b = some c) (hd : floatToFloatBits .f64 c .f32 = some d) :
    Calls Try.prog 41 #[.complex .f32 r i] w (Rf .f32 d w) := by
  have H := hid (fun W : World => power_at W h1 h2 ha hb hc)
  have q1 := runNar (P := Try.prog) 26 22 (by rw [Try.underlying26]; rfl) Try.underlying22 hd
  clear h1 h2 ha hb hc hd
  go_enter Try.func41, Try.ntmps41
  go_wp2_with (go_at_call 75; refine (H.out _).mono ?_; rintro e w' ⟨rfl, rfl⟩)
  go_ret
  exact ⟨rfl, rfl⟩

theorem mulComplex_at {r i p q R I P Q ac bd re ad bc im z1 z2 : Nat} (w : World) (h1 : floatToFloatBits .f32 r .f64 = some R) (h2 : floatToFloatBits .f32 i .f64 = some I) (h3 : floatToFloatBits .f32 p .f64 = some P) (h4 : floatToFloatBits .f32 q .f64 = some Q)
    (g1 : floatBits .mul .f64 R P = some ac) (g2 : floatBits .mul .f64 I Q = some bd) (g3 : floatBits .sub .f64 ac bd = some re) (g4 : floatBits .mul .f64 R Q = some ad) (g5 : floatBits .mul .f64 I P = some bc) (g6 : floatBits .add .f64 ad bc = some im)
    (n1 : floatToFloatBits .f64 re .f32 = some z1) (n2 : floatToFloatBits .f64 im .f32 = some z2) :
    Calls Try.prog 43 #[.complex .f32 r i, .complex .f32 p q] w (Rc z1 z2 w) := by
  have H1 := hid (fun W : World => wide_at W h1 h2)
  have H2 := hid (fun W : World => wide_at W h3 h4)
  have r1 := runF (P := Try.prog) 26 g1
  have r2 := runF (P := Try.prog) 26 g2
  have r3 := runF (P := Try.prog) 26 g3
  have r4 := runF (P := Try.prog) 26 g4
  have r5 := runF (P := Try.prog) 26 g5
  have r6 := runF (P := Try.prog) 26 g6
  have q1 := runNar (P := Try.prog) 26 22 (by rw [Try.underlying26]; rfl) Try.underlying22 n1
  have q2 := runNar (P := Try.prog) 26 22 (by rw [Try.underlying26]; rfl) Try.underlying22 n2
  clear h1 h2 h3 h4 g1 g2 g3 g4 g5 g6 n1 n2
  go_enter Try.func43, Try.ntmps43
  go_wp2_with fail
  refine (H1.out _).mono ?_
  rintro e w' ⟨rfl, rfl⟩
  go_wp2_with fail
  refine (H2.out _).mono ?_
  rintro e w' ⟨rfl, rfl⟩
  go_wp2_with fail
  go_ret
  exact ⟨rfl, rfl⟩

theorem b10Near_at {r i p q R I P Q g1 g2 : Nat} (w : World) (h1 : floatToFloatBits .f32 r .f64 = some R) (h2 : floatToFloatBits .f32 i .f64 = some I) (h3 : floatToFloatBits .f32 p .f64 = some P) (h4 : floatToFloatBits .f32 q .f64 = some Q)
    (e1 : Gap R P g1) (e2 : Gap I Q g2) (o1 : (Ieee.double.order g1 gapF == some .lt || Ieee.double.order g1 gapF == some .eq) = true) (o2 : (Ieee.double.order g2 gapF == some .lt || Ieee.double.order g2 gapF == some .eq) = true) :
    Calls Try.prog 42 #[.complex .f32 r i, .complex .f32 p q, .float .f64 gapF] w (RetBl true w) := by
  have q1 : ∀ W : World, (convert 22 26 (.float .f32 r)).run Try.prog W = .ok (.float .f64 R) W := fun W => run_convert_float_float W 22 26 .f32 .f64 r R (by rw [Try.underlying22]; rfl) Try.underlying26 h1
  have q2 : ∀ W : World, (convert 22 26 (.float .f32 i)).run Try.prog W = .ok (.float .f64 I) W := fun W => run_convert_float_float W 22 26 .f32 .f64 i I (by rw [Try.underlying22]; rfl) Try.underlying26 h2
  have q3 : ∀ W : World, (convert 22 26 (.float .f32 p)).run Try.prog W = .ok (.float .f64 P) W := fun W => run_convert_float_float W 22 26 .f32 .f64 p P (by rw [Try.underlying22]; rfl) Try.underlying26 h3
  have q4 : ∀ W : World, (convert 22 26 (.float .f32 q)).run Try.prog W = .ok (.float .f64 Q) W := fun W => run_convert_float_float W 22 26 .f32 .f64 q Q (by rw [Try.underlying22]; rfl) Try.underlying26 h4
  have G1 := hid (fun W : World => b10Gap_at W e1)
  have G2 := hid (fun W : World => b10Gap_at W e2)
  have t1 : (FloatKind.f64.format.order g1 gapF == some .lt || FloatKind.f64.format.order g1 gapF == some .eq) = true := o1
  have t2 : (FloatKind.f64.format.order g2 gapF == some .lt || FloatKind.f64.format.order g2 gapF == some .eq) = true := o2
  clear h1 h2 h3 h4 e1 e2 o1 o2
  go_enter Try.func42, Try.ntmps42
  go_wp2_with fail
  refine (G1.out _).mono ?_
  rintro e w' ⟨rfl, rfl⟩
  go_wp2_with fail
  refine (G2.out _).mono ?_
  rintro e w' ⟨rfl, rfl⟩
  go_wp2_with fail
  go_ret
  exact ⟨rfl, rfl⟩

theorem angleOf_at {i r Y X a : Nat} (w : World) (h : AngOk i r Y X a) : Calls Try.prog 39 #[.complex .f32 r i] w (RetFB .f32 (some a) w) := by
  have H := hid (fun W : World => implAngle_two i r Y X W h.nf h.cy h.cx h.hY h.hX h.oy h.ox h.two)
  have e : cv .f64 .f32 (some (angN Y X)) = some a := h.ang
  rw [e] at H
  clear h e
  go_enter Try.func39, Try.ntmps39
  go_wp2_with (go_at_call 36; refine (H.out _).mono ?_; rintro e w1 ⟨r, hr, rfl, hb⟩)
  go_ret
  exact ⟨_, hr, rfl, hb⟩

theorem b10Long_any (a b : Option Addr) (n m c d : Nat) (w : World) : Calls Try.prog 37 #[.slice a n c, .slice b m d] w (RetBl (decide ((n : Int) > 1048576) || decide ((m : Int) > 1048576)) w) := by
  by_cases h1 : (n : Int) > 1048576
  · go_enter Try.func37, Try.ntmps37
    go_wp2_with fail
    go_ret
    exact ⟨by simp [h1], rfl⟩
  · by_cases h2 : (m : Int) > 1048576
    all_goals
      go_enter Try.func37, Try.ntmps37
      go_wp2_with fail
      go_ret
      exact ⟨by simp [h1, h2], rfl⟩

theorem b10At_row (a : Option Addr) (len cap : Nat) (zs : List Int) (i n : Int) (w : World) (hrow : RowU w a len zs) (hi : i = 0 ∨ i = 1) (hn : n = 256 ∨ n = 200) : Calls Try.prog 38 #[.slice a len cap, .int .i64 i, .int .i64 n] w (RetAt n w) := by
  obtain ⟨hz, hrow⟩ := hrow
  by_cases hlt : i < (len : Int)
  · rcases hrow with h0 | ⟨b, o, rfl, hc⟩
    · omega
    · rcases hi with rfl | rfl
      · have hl : 0 < len := by omega
        have c1 : w.cell? ⟨b, o, none⟩ = _ := hc 0 hl
        have hz1 := hz 0 hl
        generalize zs.getD 0 0 = z at *
        obtain ⟨z0, z1⟩ := hz1
        clear hz hc
        rcases hn with rfl | rfl
        all_goals
          go_enter Try.func38, Try.ntmps38
          go_wp2_with fail
          go_ret
          exact ⟨_, rfl, by omega, by omega, rfl⟩
      · have hl : 1 < len := by omega
        have c1 : w.cell? ⟨b, o + 1, none⟩ = _ := hc 1 hl
        have hz1 := hz 1 hl
        generalize zs.getD 1 0 = z at *
        obtain ⟨z0, z1⟩ := hz1
        clear hz hc
        rcases hn with rfl | rfl
        all_goals
          go_enter Try.func38, Try.ntmps38
          go_wp2_with fail
          go_ret
          exact ⟨_, rfl, by omega, by omega, rfl⟩
  · clear hz hrow
    rcases hi with rfl | rfl <;> rcases hn with rfl | rfl
    all_goals
      go_enter Try.func38, Try.ntmps38
      go_wp2_with fail
      go_ret
      exact ⟨_, rfl, by decide, by decide, rfl⟩
end Go.Proofs.Ytcclmlabcihdoaa
