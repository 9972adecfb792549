/-
  The walk of 'FnExactScaleVector': it returns true and writes nothing that was there. No conditions.
-/
import Derived.Test.YtppodhfkmdojoaaVec
namespace Go.Proofs.Ytppodhfkmdojoaa
open Go.RowKit Go.Proofs.Ytppodhfkmdojoaa.Fl

set_option maxHeartbeats 4000000 in
theorem FnExactScaleVector_walk (a b c s : Nat) (w : World) (_ha : a < 4294967296) (_hb : b < 4294967296) (_hc : c < 4294967296) (_hs : s < 4294967296) : Calls Try.prog 8 #[.agg #[.float .f32 a, .float .f32 b, .float .f32 c], .float .f32 s] w (Yes w) := by
  clear _ha _hb _hc _hs
  go_enter Try.func8, Try.ntmps8
  go_upto_region 1 with (fail)
  obtain ⟨W, hW⟩ : ∃ W, W = (w.alloc (.cells #[.float .f32 a, .float .f32 b, .float .f32 c] 31)) := ⟨_, rfl⟩
  rw [← hW]
  have g0 : W.cell? ⟨w.heap.size, 0, none⟩ = some (.float .f32 a) := by rw [hW]; simp [go_sem]
  have g1 : W.cell? ⟨w.heap.size, 1, none⟩ = some (.float .f32 b) := by rw [hW]; simp [go_sem]
  have g2 : W.cell? ⟨w.heap.size, 2, none⟩ = some (.float .f32 c) := by rw [hW]; simp [go_sem]
  have gs : w.heap.size + 1 ≤ W.heap.size := by rw [hW]; simp
  have gb : Below w.heap.size w W := by rw [hW]; exact (Below.refl _ _).alloc (Nat.le_refl _) _
  clear hW
  go_cut [5] (fun v w' => VAt (ar .mul .f32 (val .f32 a) (val .f32 s)) (ar .mul .f32 (val .f32 b) (val .f32 s)) (ar .mul .f32 (val .f32 c) (val .f32 s)) (w.heap.size + 1) W v w')
  case first =>
    go_wp2_with (first | (go_at_call 18; refine (toVector_exact _ _ _ _).mono ?_; rintro e w1 ⟨rfl, rfl⟩) | (go_at_call 25; refine (specScale_any _ _ _ _ _).mono ?_; rintro e w1 ⟨p, q, r, hp, hq, hr, rfl, hb⟩; obtain ⟨hc, hf, hlt⟩ := bcell3 hb; have hz := hb.size; (try simp only [World.size_alloc] at hz)))
    all_goals go_meet
    all_goals (exact vat_alloc (by first | omega | (simp; done) | (simp; omega)) hp hq hr (by repeat (first | assumption | exact Below.refl _ _ | refine Below.drew ?_ | refine below_drewN ?_ _ | refine Below.alloc ?_ (by first | assumption | omega | (simp; done) | (simp; omega)) _ | refine Below.setCell ?_ (by first | omega | (simp; done) | (simp; omega)) _ | refine Below.trans ?_ (hb.mono (by first | omega | (simp; done) | (simp; omega))))))
  case rest =>
    obtain ⟨k, p0, q0, r0, rfl, hkB, hk, c0, c1, c2, hp0, hq0, hr0, hb0⟩ := hcut
    obtain ⟨wa, hwa⟩ : ∃ x, x = wc := ⟨wc, rfl⟩
    subst hwa
    have hs0 := hb0.size
    have g0 : wa.cell? ⟨w.heap.size, 0, none⟩ = some (.float .f32 a) := (hb0.cell (by first | omega | (simp; done) | (simp; omega))).trans g0
    have g1 : wa.cell? ⟨w.heap.size, 1, none⟩ = some (.float .f32 b) := (hb0.cell (by first | omega | (simp; done) | (simp; omega))).trans g1
    have g2 : wa.cell? ⟨w.heap.size, 2, none⟩ = some (.float .f32 c) := (hb0.cell (by first | omega | (simp; done) | (simp; omega))).trans g2
    have gb := gb.trans (hb0.mono (by omega))
    clear hb0
    go_upto_region 2 with (fail)
    go_cut [6] (fun v w' => VAt (ar .mul .f32 (val .f32 a) (val .f32 s)) (ar .mul .f32 (val .f32 b) (val .f32 s)) (ar .mul .f32 (val .f32 c) (val .f32 s)) wa.heap.size wa v w')
    case first =>
      go_wp2_with (first | (go_at_call 18; refine (toVector_exact _ _ _ _).mono ?_; rintro e w1 ⟨rfl, rfl⟩) | (go_at_call 26; refine (implScale_any _ _ _ _ _).mono ?_; rintro e w1 ⟨p, q, r, hp, hq, hr, rfl, hb⟩; obtain ⟨hc, hf, hlt⟩ := bcell3 hb; have hz := hb.size; (try simp only [World.size_alloc] at hz)))
      all_goals go_meet
      all_goals (exact vat_alloc (by first | omega | (simp; done) | (simp; omega)) hp hq hr (by repeat (first | assumption | exact Below.refl _ _ | refine Below.drew ?_ | refine below_drewN ?_ _ | refine Below.alloc ?_ (by first | assumption | omega | (simp; done) | (simp; omega)) _ | refine Below.setCell ?_ (by first | omega | (simp; done) | (simp; omega)) _ | refine Below.trans ?_ (hb.mono (by first | omega | (simp; done) | (simp; omega))))))
    case rest =>
      obtain ⟨k2, p2, q2, r2, rfl, hkB2, hk2, e0, e1, e2, hp2, hq2, hr2, hb2⟩ := hcut
      have c0 : wc.cell? ⟨k, 0, none⟩ = some (.float .f32 p0) := (hb2.cell (by first | omega | (simp; done) | (simp; omega))).trans c0
      have c1 : wc.cell? ⟨k, 1, none⟩ = some (.float .f32 q0) := (hb2.cell (by first | omega | (simp; done) | (simp; omega))).trans c1
      have c2 : wc.cell? ⟨k, 2, none⟩ = some (.float .f32 r0) := (hb2.cell (by first | omega | (simp; done) | (simp; omega))).trans c2
      have gb := gb.trans (hb2.mono (by omega))
      have hs2 := hb2.size
      clear hb2
      go_wp2_with (go_at_call 22; refine (eqVector_any _ _ _ _ _ _ _ _ _ _ hp2 hq2 hr2 hp0 hq0 hr0).mono ?_; rintro e w1 ⟨rfl, hb⟩)
      all_goals (go_ret; exact ⟨rfl, gb.trans (hb.mono (by omega))⟩)
end Go.Proofs.Ytppodhfkmdojoaa
