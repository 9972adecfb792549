/-
  The walk of 'FnExactInnerOf': it returns true and writes nothing that was there. No conditions.
-/
import Derived.Test.YtppodhfkmdojoaaVec
namespace Go.Proofs.Ytppodhfkmdojoaa
open Go.RowKit Go.Proofs.Ytppodhfkmdojoaa.Fl

set_option maxHeartbeats 4000000 in
theorem FnExactInnerOf_walk (a b c x y z : Nat) (w : World) (_ha : a < 4294967296) (_hb : b < 4294967296) (_hc : c < 4294967296) (_hx : x < 4294967296) (_hy : y < 4294967296) (_hz : z < 4294967296) : Calls Try.prog 5 #[.agg #[.float .f32 a, .float .f32 b, .float .f32 c], .agg #[.float .f32 x, .float .f32 y, .float .f32 z]] w (Yes w) := by
  clear _ha _hb _hc _hx _hy _hz
  go_enter Try.func5, Try.ntmps5
  go_wp2_with fail
  obtain ⟨W, hW⟩ : ∃ W, W = ((w.alloc (.cells #[.float .f32 a, .float .f32 b, .float .f32 c] 31)).alloc (.cells #[.float .f32 x, .float .f32 y, .float .f32 z] 31)) := ⟨_, rfl⟩
  rw [← hW]
  have g0 : W.cell? ⟨w.heap.size, 0, none⟩ = some (.float .f32 a) := by rw [hW]; simp [go_sem]
  have g1 : W.cell? ⟨w.heap.size, 1, none⟩ = some (.float .f32 b) := by rw [hW]; simp [go_sem]
  have g2 : W.cell? ⟨w.heap.size, 2, none⟩ = some (.float .f32 c) := by rw [hW]; simp [go_sem]
  have g3 : W.cell? ⟨w.heap.size + 1, 0, none⟩ = some (.float .f32 x) := by rw [hW]; simp [go_sem]
  have g4 : W.cell? ⟨w.heap.size + 1, 1, none⟩ = some (.float .f32 y) := by rw [hW]; simp [go_sem]
  have g5 : W.cell? ⟨w.heap.size + 1, 2, none⟩ = some (.float .f32 z) := by rw [hW]; simp [go_sem]
  have gs : w.heap.size + 2 ≤ W.heap.size := by rw [hW]; simp
  have gb : Below w.heap.size w W := by rw [hW]; exact ((Below.refl _ _).alloc (Nat.le_refl _) _).alloc (by first | omega | (simp; done) | (simp; omega)) _
  clear hW
  go_region_held3 (fun w' => (∀ o, w'.cell? ⟨w.heap.size, o, none⟩ = W.cell? ⟨w.heap.size, o, none⟩) ∧ (∀ o, w'.cell? ⟨w.heap.size + 1, o, none⟩ = W.cell? ⟨w.heap.size + 1, o, none⟩) ∧ w.heap.size + 2 ≤ w'.heap.size ∧ Below (w.heap.size + 2) W w')
    (first | (exact mkS2 (Below.refl _ _).drew (by omega) (by omega) (by omega)) | (go_split_ands; refine mkS2 ?_ (by omega) (by omega) (by omega); repeat (first | assumption | exact Below.refl _ _ | refine Below.drew ?_ | refine below_drewN ?_ _ | refine Below.alloc ?_ (by first | assumption | omega | (simp; done) | (simp; omega)) _ | refine Below.setCell ?_ (by first | omega | (simp; done) | (simp; omega)) _ | refine Below.trans ?_ (hb.mono (by first | omega | (simp; done) | (simp; omega))))))
    (first | (go_at_call 18; refine (toVector_exact _ _ _ _).mono ?_; rintro e w1 ⟨rfl, rfl⟩) | (go_at_call 17; refine (specInner_any _ _ _ _ _ _ _).mono ?_; rintro e w1 ⟨r1, h1, rfl, hb⟩))
  have hbW : Below (w.heap.size + 2) W w1 := by go_split_ands; assumption
  clear hb
  go_split_ands
  obtain ⟨wa, hwa⟩ : ∃ x, x = w1 := ⟨w1, rfl⟩
  subst hwa
  have hs0 := hbW.size
  have g0 : wa.cell? ⟨w.heap.size, 0, none⟩ = some (.float .f32 a) := (hbW.cell (by first | omega | (simp; done) | (simp; omega))).trans g0
  have g1 : wa.cell? ⟨w.heap.size, 1, none⟩ = some (.float .f32 b) := (hbW.cell (by first | omega | (simp; done) | (simp; omega))).trans g1
  have g2 : wa.cell? ⟨w.heap.size, 2, none⟩ = some (.float .f32 c) := (hbW.cell (by first | omega | (simp; done) | (simp; omega))).trans g2
  have g3 : wa.cell? ⟨w.heap.size + 1, 0, none⟩ = some (.float .f32 x) := (hbW.cell (by first | omega | (simp; done) | (simp; omega))).trans g3
  have g4 : wa.cell? ⟨w.heap.size + 1, 1, none⟩ = some (.float .f32 y) := (hbW.cell (by first | omega | (simp; done) | (simp; omega))).trans g4
  have g5 : wa.cell? ⟨w.heap.size + 1, 2, none⟩ = some (.float .f32 z) := (hbW.cell (by first | omega | (simp; done) | (simp; omega))).trans g5
  have gb := gb.trans (hbW.mono (by omega))
  clear hbW
  go_wp2_with fail
  go_region_held3 (fun w' => (∀ o, w'.cell? ⟨w.heap.size, o, none⟩ = wa.cell? ⟨w.heap.size, o, none⟩) ∧ (∀ o, w'.cell? ⟨w.heap.size + 1, o, none⟩ = wa.cell? ⟨w.heap.size + 1, o, none⟩) ∧ wa.heap.size ≤ w'.heap.size ∧ Below (wa.heap.size) wa w')
    (first | (exact mkS2 (Below.refl _ _).drew (by omega) (by omega) (by omega)) | (go_split_ands; refine mkS2 ?_ (by omega) (by omega) (by omega); repeat (first | assumption | exact Below.refl _ _ | refine Below.drew ?_ | refine below_drewN ?_ _ | refine Below.alloc ?_ (by first | assumption | omega | (simp; done) | (simp; omega)) _ | refine Below.setCell ?_ (by first | omega | (simp; done) | (simp; omega)) _ | refine Below.trans ?_ (hb.mono (by first | omega | (simp; done) | (simp; omega))))))
    (first | (go_at_call 18; refine (toVector_exact _ _ _ _).mono ?_; rintro e w1 ⟨rfl, rfl⟩) | (go_at_call 19; refine (implInner_any _ _ _ _ _ _ _).mono ?_; rintro e w1 ⟨r2, h2, rfl, hb⟩))
  have hbW : Below wa.heap.size wa w1 := by go_split_ands; assumption
  have gb := gb.trans (hbW.mono (by omega))
  go_wp2_with (first | (refine wpList_cv _ rfl _ _ _ rfl .f32 .f64 _ rfl (by rw [Try.underlying22]; rfl) Try.underlying26 (by first | assumption | exact rfl) (fits_widen _) ?_; intro r n hr) | (go_at_call 14; refine (same_any _ _ _ _ (by assumption) (by assumption)).mono ?_; rintro e w' ⟨rfl, n, rfl⟩))
  all_goals (go_ret; exact ⟨rfl, below_drewN gb _⟩)
end Go.Proofs.Ytppodhfkmdojoaa
