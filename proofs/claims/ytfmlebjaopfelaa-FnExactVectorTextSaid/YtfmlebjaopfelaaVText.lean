/-
  The text of a vector: both sides make the text of its three numbers. Conditions: the bits of each are those of a float32.
-/
import Derived.Test.YtfmlebjaopfelaaNText
namespace Go.Proofs.Ytfmlebjaopfelaa
open Go.RowKit Go.Proofs.Ytfmlebjaopfelaa.Fl

@[go_sem] theorem buildVec (a b c : Nat) (w : World) : (Instr.build 30 #[(0, .float .f32 a), (1, .float .f32 b), (2, .float .f32 c)]).run Try.prog w = .ok (.agg #[.float .f32 a, .float .f32 b, .float .f32 c]) w := run_build w 30 _ _ (by kernel_rfl)

set_option maxHeartbeats 400000 in
theorem toVector_exact (x y z : Nat) (w : World) : Calls Try.prog 12 #[.agg #[.float .f32 x, .float .f32 y, .float .f32 z]] w fun e w' => e = .returned (.agg #[.float .f32 x, .float .f32 y, .float .f32 z]) ∧ Below w.heap.size w w' := by
  go_enter Try.func12, Try.ntmps12
  go_wp2_with fail
  exact bodyPost_ret (v := .agg #[.float .f32 x, .float .f32 y, .float .f32 z]) (by simp [results, Try.results12, go_sem]) rfl ⟨rfl, (((Below.refl _ _).alloc (Nat.le_refl _) _).alloc (by simp) _).alloc (by simp; omega) _⟩

theorem three_cells {w : World} {p a b c : Nat} (h0 : w.cell? ⟨p, 0, none⟩ = some (.float .f32 a)) (h1 : w.cell? ⟨p, 1, none⟩ = some (.float .f32 b)) (h2 : w.cell? ⟨p, 2, none⟩ = some (.float .f32 c)) :
    NewF w p 3 [a, b, c] := by
  intro i hi
  match i, hi with
  | 0, _ => exact h0
  | 1, _ => exact h1
  | 2, _ => exact h2
theorem three_bits {a b c : Nat} (ha : a < 4294967296) (hb : b < 4294967296) (hc : c < 4294967296) : ∀ i, [a, b, c].getD i 0 < 4294967296 := by
  intro i
  match i with
  | 0 => exact ha
  | 1 => exact hb
  | 2 => exact hc
  | i + 3 => simp

theorem numbers_any (x y z : Nat) (w : World) : Calls Try.prog 22 #[.agg #[.float .f32 x, .float .f32 y, .float .f32 z]] w fun e w' => ∃ p, e = .returned (.slice (some ⟨p, 0, none⟩) 3 3) ∧ NewF w' p 3 [x, y, z] ∧ Below w.heap.size w w' := by
  go_enter Try.func22, Try.ntmps22
  go_wp2_with fail
  go_ret
  exact ⟨_, rfl, three_cells (by simp [go_sem]) (by simp [go_sem]) (by simp [go_sem]), ((Below.refl _ _).alloc (Nat.le_refl _) _).alloc (by simp) _⟩

theorem l01VText_any (x y z : Nat) (w : World) (hx : x < 4294967296) (hy : y < 4294967296) (hz : z < 4294967296) :
    Calls Try.prog 21 #[.agg #[.float .f32 x, .float .f32 y, .float .f32 z]] w (RetS (listT (numB [x, y, z] 3)) w) := by
  go_enter Try.func21, Try.ntmps21
  go_wp2_with (go_at_call 24; refine (l01NText_any _ 3 _ [x, y, z] _ (three_cells (by simp [go_sem]) (by simp [go_sem]) (by simp [go_sem])) (three_bits hx hy hz) (by omega)).mono ?_; rintro e w' ⟨rfl, hb⟩)
  go_ret
  exact ⟨rfl, (((Below.refl _ _).alloc (Nat.le_refl _) _).alloc (by simp) _).trans (hb.mono (by simp; omega))⟩

theorem specVText_any (x y z : Nat) (w : World) (hx : x < 4294967296) (hy : y < 4294967296) (hz : z < 4294967296) :
    Calls Try.prog 11 #[.agg #[.float .f32 x, .float .f32 y, .float .f32 z]] w (RetS (listT (numB [x, y, z] 3)) w) := by
  go_enter Try.func11, Try.ntmps11
  go_wp2_with (go_at_call 21; refine (l01VText_any _ _ _ _ hx hy hz).mono ?_; rintro e w' ⟨rfl, hb⟩)
  go_ret
  exact ⟨rfl, ((Below.refl _ _).alloc (Nat.le_refl _) _).trans (hb.mono (by simp))⟩

theorem implVText_any (x y z : Nat) (w : World) (hx : x < 4294967296) (hy : y < 4294967296) (hz : z < 4294967296) :
    Calls Try.prog 13 #[.agg #[.float .f32 x, .float .f32 y, .float .f32 z]] w (RetS (listT (numB [x, y, z] 3)) w) := by
  have ht : nTold [x, y, z] 3 = listT (numB [x, y, z] 3) := if_pos (by omega)
  have Ht := hid ht; clear ht
  go_enter Try.func13, Try.ntmps13
  go_wp2_with (first
    | (go_at_call 22; refine (numbers_any _ _ _ _).mono ?_; rintro e w1 ⟨p, rfl, hp, hb1⟩)
    | (go_at_call 16; refine (implNumbersText_any _ 3 _ [x, y, z] _ hp (three_bits hx hy hz) (by omega)).mono ?_; rintro e w2 ⟨rfl, hb2⟩))
  go_ret
  have hb3 := ((Below.refl w.heap.size w).alloc (Nat.le_refl _) (.cells #[.float .f32 x, .float .f32 y, .float .f32 z] 30)).trans (hb1.mono (by simp))
  exact ⟨by rw [Ht.out]; rfl, hb3.trans (hb2.mono hb3.size)⟩

set_option maxHeartbeats 1000000 in
theorem FnExactVectorText_walk (x y z : Nat) (w : World) (hx : x < 4294967296) (hy : y < 4294967296) (hz : z < 4294967296) : Calls Try.prog 5 #[.agg #[.float .f32 x, .float .f32 y, .float .f32 z]] w (Yes w) := by
  go_enter Try.func5, Try.ntmps5
  go_wp2_with fail
  refine (toVector_exact _ _ _ _).mono ?_
  rintro e w1 ⟨rfl, hb1⟩
  have hb0 := (Below.refl w.heap.size w).alloc (Nat.le_refl _) (.cells #[.float .f32 x, .float .f32 y, .float .f32 z] 28)
  go_wp2_with fail
  refine (specVText_any _ _ _ _ hx hy hz).mono ?_
  rintro e w2 ⟨rfl, hb2⟩
  have hb3 := hb1.trans (hb2.mono hb1.size)
  have c0 : w2.cell? ⟨w.heap.size, 0, none⟩ = some (.float .f32 x) := (hb3.cell (by simp)).trans (by simp [go_sem])
  have c1 : w2.cell? ⟨w.heap.size, 1, none⟩ = some (.float .f32 y) := (hb3.cell (by simp)).trans (by simp [go_sem])
  have c2 : w2.cell? ⟨w.heap.size, 2, none⟩ = some (.float .f32 z) := (hb3.cell (by simp)).trans (by simp [go_sem])
  have hb4 := hid (hb0.trans (hb3.mono hb0.size))
  clear hb0 hb1 hb2 hb3
  go_wp2_with fail
  refine (toVector_exact _ _ _ _).mono ?_
  rintro e w3 ⟨rfl, hb5⟩
  have hb6 := hid (hb4.out.trans (hb5.mono hb4.out.size))
  clear hb5
  go_wp2_with fail
  refine (implVText_any _ _ _ _ hx hy hz).mono ?_
  rintro e w4 ⟨rfl, hb7⟩
  have hb8 := hb6.out.trans (hb7.mono hb6.out.size)
  clear hb7
  go_wp2_with fail
  all_goals (go_ret; exact ⟨rfl, hb8⟩)
end Go.Proofs.Ytfmlebjaopfelaa
