/-
  The law on reading a list of complex numbers: the laws' own comparison says yes to equal lists; marks laid in an answer's memory are found there again. Conditions: those of each contract.
-/
import Derived.Test.YtfmlebjaopfelaaDoorReadC
import Derived.Laws.Cover2
import Derived.Laws.Cover3
namespace Go.Proofs.YtfmlebjaopfelaaDoor.Fl
open Go Go.RowKit

/-- Cells of complex numbers. -/
def NewC (w : World) (g n : Nat) (zs : List (Nat × Nat)) : Prop := ∀ i, i < n → w.cell? ⟨g, i, none⟩ = some (cval (zs.getD i (0, 0)))
theorem NewC.drewN {w : World} {g n : Nat} {zs : List (Nat × Nat)} (h : NewC w g n zs) (m : Nat) : NewC (w.drewN m) g n zs := h
theorem newC_of_own {w : World} {B : Nat} {e : TypeId} {g n c : Nat} {zs : List (Nat × Nat)} (h : w.ownsRow B e 1 (.slice (some ⟨g, 0, none⟩) n c) n (zs.map cval)) (hn : n = zs.length) : NewC w g n zs := by
  intro i hi
  rw [h.cellAt i (by omega)]
  simp [List.getD, show i < zs.length by omega]

/-- The mark of a small integer. -/
def ck (k : Nat) : Nat := (floatToFloatBits .f64 (floatOfInt .f64 (k : Int)) .f32).getD 0
def ckB (k : Nat) : Bool := (floatToFloatBits .f64 (floatOfInt .f64 (k : Int)) .f32 == some (ck k)) && (FloatKind.f32.format.order (ck k) (ck k) == some .eq)
theorem ck_fin : ∀ i : Fin 300, ckB i.val = true := by decide +kernel
theorem ck_facts (k : Nat) (h : k < 300) : floatToFloatBits .f64 (floatOfInt .f64 (k : Int)) .f32 = some (ck k) ∧ FloatKind.f32.format.order (ck k) (ck k) = some .eq := by
  have h1 := ck_fin ⟨k, h⟩
  unfold ckB at h1
  simpa using h1
theorem nar1 : floatToFloatBits .f64 4607182418800017408 .f32 = some 1065353216 := by decide +kernel
theorem ord1 : FloatKind.f32.format.order 1065353216 1065353216 = some .eq := by decide +kernel

def markCv (k : Nat) : Value := .complex .f32 (ck k) 1065353216
def markL (zs : List (Nat × Nat)) (i n : Nat) : List Value := (List.range n).map fun j => if j < i then markCv (j + 1) else cval (zs.getD j (0, 0))
theorem markL_zero (zs : List (Nat × Nat)) : markL zs 0 zs.length = zs.map cval := by
  apply List.ext_getElem?
  intro j
  unfold markL
  by_cases hj : j < zs.length
  · simp [hj]
  · simp [hj]
theorem markL_set (zs : List (Nat × Nat)) (i n : Nat) (hi : i < n) : (markL zs i n).set i (markCv (i + 1)) = markL zs (i + 1) n := by
  apply List.ext_getElem?
  intro j
  unfold markL
  rw [List.getElem?_set]
  simp only [List.getElem?_map, List.length_map, List.length_range]
  by_cases hj : i = j
  · subst hj; simp [hi]
  · rw [if_neg hj]
    by_cases hj2 : j < n
    · simp only [List.getElem?_range hj2, Option.map_some]
      have : (j < i) = (j < i + 1) := by rw [eq_iff_iff]; omega
      simp only [this]
    · rw [List.getElem?_eq_none (by simp; omega)]; rfl

/-- The marks 1 .. n. -/
def Marks (w : World) (g n : Nat) : Prop := ∀ i, i < n → w.cell? ⟨g, i, none⟩ = some (markCv (i + 1))
theorem Marks.below {w w' : World} {g n : Nat} (h : Marks w g n) (hb : Below w.heap.size w w') : Marks w' g n := fun i hi => by
  have h1 := h i hi
  rw [hb.cell (World.block_lt_of_cell? w _ h1)]
  exact h1

section
variable {P : Program} (w : World)
theorem run_f2f_some {fs fd : TypeId} {s k : FloatKind} {x r : Nat} (hfs : P.underlying fs = some (.float s)) (hfd : P.underlying fd = some (.float k)) (h1 : floatToFloatBits s x k = some r) : (Conv.floatToFloat s x k).run P w = .ok (.float k r) w := by
  have e1 := run_convert_float_float w fs fd s k x r (by rw [hfs]; rfl) hfd h1
  rw [← e1]
  simp [convert, run_underlying hfs, run_underlying hfd]
theorem run_f2f_nan {fs fd : TypeId} {x : Nat} (hfs : P.underlying fs = some (.float .f32)) (hfd : P.underlying fd = some (.float .f64)) (h1 : val .f32 x = none) : (Conv.floatToFloat .f32 x .f64).run P w = .ok (.float .f64 ((Question.nanConv .f64 x).cut (w.tape w.drawn (.nanConv .f64 x)))) w.drew := by
  have e1 := run_cv_nan w fs fd x (by rw [hfs]; rfl) hfd h1
  rw [← e1]
  simp [convert, run_underlying hfs, run_underlying hfd]
theorem run_cc (src dst fs fd : TypeId) (s k : FloatKind) {x y r q : Nat} (hs : (P.underlying src).isSome = true) (hd : P.underlying dst = some (.complex k)) (hfs : P.underlying fs = some (.float s)) (hfd : P.underlying fd = some (.float k))
    (h1 : floatToFloatBits s x k = some r) (h2 : floatToFloatBits s y k = some q) : (convert src dst (.complex s x y)).run P w = .ok (.complex k r q) w := by
  obtain ⟨u, hs'⟩ := Option.isSome_iff_exists.1 hs
  have g1 := run_f2f_some w hfs hfd h1
  have g2 := run_f2f_some w hfs hfd h2
  cases u <;> simp [convert, run_underlying hs', run_underlying hd, Conv.complexToComplex, g1, g2]
theorem run_cc_n1 (src dst fs fd : TypeId) {x y q : Nat} (hs : (P.underlying src).isSome = true) (hd : P.underlying dst = some (.complex .f64)) (hfs : P.underlying fs = some (.float .f32)) (hfd : P.underlying fd = some (.float .f64))
    (h1 : val .f32 x = none) (h2 : floatToFloatBits .f32 y .f64 = some q) : (convert src dst (.complex .f32 x y)).run P w = .ok (.complex .f64 ((Question.nanConv .f64 x).cut (w.tape w.drawn (.nanConv .f64 x))) q) w.drew := by
  obtain ⟨u, hs'⟩ := Option.isSome_iff_exists.1 hs
  have g1 := run_f2f_nan w hfs hfd h1
  have g2 := run_f2f_some w.drew hfs hfd h2
  cases u <;> simp [convert, run_underlying hs', run_underlying hd, Conv.complexToComplex, g1, g2]
theorem run_cc_n2 (src dst fs fd : TypeId) {x y r : Nat} (hs : (P.underlying src).isSome = true) (hd : P.underlying dst = some (.complex .f64)) (hfs : P.underlying fs = some (.float .f32)) (hfd : P.underlying fd = some (.float .f64))
    (h1 : floatToFloatBits .f32 x .f64 = some r) (h2 : val .f32 y = none) : (convert src dst (.complex .f32 x y)).run P w = .ok (.complex .f64 r ((Question.nanConv .f64 y).cut (w.tape w.drawn (.nanConv .f64 y)))) w.drew := by
  obtain ⟨u, hs'⟩ := Option.isSome_iff_exists.1 hs
  have g1 := run_f2f_some w hfs hfd h1
  have g2 := run_f2f_nan w hfs hfd h2
  cases u <;> simp [convert, run_underlying hs', run_underlying hd, Conv.complexToComplex, g1, g2]
theorem run_cc_nn (src dst fs fd : TypeId) {x y : Nat} (hs : (P.underlying src).isSome = true) (hd : P.underlying dst = some (.complex .f64)) (hfs : P.underlying fs = some (.float .f32)) (hfd : P.underlying fd = some (.float .f64))
    (h1 : val .f32 x = none) (h2 : val .f32 y = none) : (convert src dst (.complex .f32 x y)).run P w = .ok (.complex .f64 ((Question.nanConv .f64 x).cut (w.tape w.drawn (.nanConv .f64 x))) ((Question.nanConv .f64 y).cut (w.drew.tape w.drew.drawn (.nanConv .f64 y)))) w.drew.drew := by
  obtain ⟨u, hs'⟩ := Option.isSome_iff_exists.1 hs
  have g1 := run_f2f_nan w hfs hfd h1
  have g2 := run_f2f_nan w.drew hfs hfd h2
  cases u <;> simp [convert, run_underlying hs', run_underlying hd, Conv.complexToComplex, g1, g2]
end
end Go.Proofs.YtfmlebjaopfelaaDoor.Fl
namespace Go.Proofs.YtfmlebjaopfelaaDoor
open Go.RowKit Go.Proofs.YtfmlebjaopfelaaDoor.Fl

theorem sameComplex_any (u v : Option Nat) (a b c d : Nat) (w : World) (ha : Is .f64 u a) (hb : Is .f64 v b) (hc : Is .f64 u c) (hd : Is .f64 v d) :
    Calls Tryd.prog 38 #[.complex .f64 a b, .complex .f64 c d] w (Ret (.bool true) w) := by
  have Ha := hid ha; have Hb := hid hb; have Hc := hid hc; have Hd := hid hd
  clear ha hb hc hd
  go_enter Tryd.func38, Tryd.ntmps38
  go_wp2_with fail
  refine (same_any _ _ _ _ Ha.out Hc.out).mono ?_
  rintro e w' ⟨rfl, n, rfl⟩
  go_wp2_with fail
  refine (same_any _ _ _ _ Hb.out Hd.out).mono ?_
  rintro e w' ⟨rfl, n, rfl⟩
  go_wp2_with fail
  go_ret
  exact ⟨rfl, _, rfl⟩

set_option maxHeartbeats 8000000 in
theorem eqComplex64S_any (p q len e1 e2 : Nat) (zs : List (Nat × Nat)) (w : World) (hp : NewC w p len zs) (hq : NewC w q len zs) (hlen : len ≤ 1048576) :
    Calls Tryd.prog 12 #[.slice (some ⟨p, 0, none⟩) len e1, .slice (some ⟨q, 0, none⟩) len e2] w (Ret (.bool true) w) := by
  have hlen' : (len : Int) ≤ 1048576 := by omega
  have Hp := hid hp; have Hq := hid hq; clear hp hq
  go_enter Tryd.func12, Tryd.ntmps12
  go_wp2_with fail
  go_loopw [5] (fun i wr => ∃ k : Nat, k ≤ len ∧ i = .int .i64 k ∧ ∃ m, wr = w.drewN m) (fun i _ => len - (intOf i).toNat)
  case atStart => exact ⟨0, Nat.zero_le _, rfl, 0, rfl⟩
  case round =>
    obtain ⟨k, hk, rfl, m, rfl⟩ := hrel
    by_cases hlt : k < len
    · have c1 := Hp.out k hlt
      have c2 := Hq.out k hlt
      have hk0 : (0 : Int) ≤ (k : Int) := Int.natCast_nonneg _
      have hk1 : (k : Int) < (len : Int) := by omega
      unfold cval at c1 c2
      generalize (zs.getD k (0, 0)).1 = x at *
      generalize (zs.getD k (0, 0)).2 = y at *
      have hnan : ∀ z, val .f32 z = none → ∀ t, Is .f64 none ((Question.nanConv .f64 z).cut t) := fun z _ t => val_of_nan (cut_nan .f64 _ (.inr ⟨z, rfl⟩) t)
      have U1 : (Tryd.prog.underlying 56).isSome = true := by rw [Tryd.underlying56]; rfl
      have UT : Tryd.prog.underlying 58 = some (.complex .f64) := Tryd.underlying58
      have F1 : Tryd.prog.underlying 41 = some (.float .f32) := Tryd.underlying41
      have F2 : Tryd.prog.underlying 59 = some (.float .f64) := Tryd.underlying59
      cases hv : cv .f32 .f64 (val .f32 x) with
      | some r =>
        have hr : Hid (Is .f64 (some r) r) := val_of_not_nan (cv_not_nan hv)
        have hx : floatToFloatBits .f32 x .f64 = some r := by
          unfold cv at hv
          cases hvx : val .f32 x with
          | none => rw [hvx] at hv; cases hv
          | some b => rw [hvx] at hv; obtain rfl := (val_some hvx).1; exact hv
        cases hu : cv .f32 .f64 (val .f32 y) with
        | some r2 =>
          have hr2 : Hid (Is .f64 (some r2) r2) := val_of_not_nan (cv_not_nan hu)
          have hy : floatToFloatBits .f32 y .f64 = some r2 := by
            unfold cv at hu
            cases hvy : val .f32 y with
            | none => rw [hvy] at hu; cases hu
            | some b => rw [hvy] at hu; obtain rfl := (val_some hvy).1; exact hu
          have hcv := fun w' => run_cc (P := Tryd.prog) w' 56 58 41 59 .f32 .f64 U1 UT F1 F2 hx hy
          clear hv hu hx hy hnan U1 UT F1 F2
          go_wp2_with fail
          go_region_held3 (fun w' => w'.cell? ⟨p, k, none⟩ = some (.complex .f32 x y) ∧ w'.cell? ⟨q, k, none⟩ = some (.complex .f32 x y)) (go_keep)
            (first | (go_at_call 38; refine (sameComplex_any (some r) (some r2) _ _ _ _ _ hr.out hr2.out hr.out hr2.out).mono ?_; rintro e w' ⟨rfl, j, rfl⟩))
          go_wp2_with fail
          exact ⟨⟨k + 1, by omega, by go_num, _, rfl⟩, by simp [intOf]; omega⟩
        | none =>
          have hz := cv_none hu
          have Hn := hid (hnan y hz)
          have hcv := fun w' => run_cc_n2 (P := Tryd.prog) w' 56 58 41 59 U1 UT F1 F2 hx hz
          clear hv hu hx hz hnan U1 UT F1 F2
          go_wp2_with fail
          go_region_with (first | (go_at_call 38; refine (sameComplex_any (some r) none _ _ _ _ _ hr.out (Hn.out _) hr.out (Hn.out _)).mono ?_; rintro e w' ⟨rfl, j, rfl⟩))
          all_goals go_wp2_with fail
          all_goals exact ⟨⟨k + 1, by omega, by go_num, _, rfl⟩, by simp [intOf]; omega⟩
      | none =>
        have hzx := cv_none hv
        have Hn := hid (hnan x hzx)
        cases hu : cv .f32 .f64 (val .f32 y) with
        | some r2 =>
          have hr2 : Hid (Is .f64 (some r2) r2) := val_of_not_nan (cv_not_nan hu)
          have hy : floatToFloatBits .f32 y .f64 = some r2 := by
            unfold cv at hu
            cases hvy : val .f32 y with
            | none => rw [hvy] at hu; cases hu
            | some b => rw [hvy] at hu; obtain rfl := (val_some hvy).1; exact hu
          have hcv := fun w' => run_cc_n1 (P := Tryd.prog) w' 56 58 41 59 U1 UT F1 F2 hzx hy
          clear hv hu hzx hy hnan U1 UT F1 F2
          go_wp2_with fail
          go_region_with (first | (go_at_call 38; refine (sameComplex_any none (some r2) _ _ _ _ _ (Hn.out _) hr2.out (Hn.out _) hr2.out).mono ?_; rintro e w' ⟨rfl, j, rfl⟩))
          all_goals go_wp2_with fail
          all_goals exact ⟨⟨k + 1, by omega, by go_num, _, rfl⟩, by simp [intOf]; omega⟩
        | none =>
          have hzy := cv_none hu
          have Hn2 := hid (hnan y hzy)
          have hcv := fun w' => run_cc_nn (P := Tryd.prog) w' 56 58 41 59 U1 UT F1 F2 hzx hzy
          clear hv hu hzx hzy hnan U1 UT F1 F2
          go_wp2_with fail
          go_region_with (first | (go_at_call 38; refine (sameComplex_any none none _ _ _ _ _ (Hn.out _) (Hn2.out _) (Hn.out _) (Hn2.out _)).mono ?_; rintro e w' ⟨rfl, j, rfl⟩))
          all_goals go_wp2_with fail
          all_goals exact ⟨⟨k + 1, by omega, by go_num, _, rfl⟩, by simp [intOf]; omega⟩
    · go_wp2_with fail
      go_ret
      exact ⟨rfl, _, rfl⟩
end Go.Proofs.YtfmlebjaopfelaaDoor
