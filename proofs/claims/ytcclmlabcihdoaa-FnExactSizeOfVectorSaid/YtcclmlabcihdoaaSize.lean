/-
  Lengths of vectors: what both sides come to, and the walk of the law. No conditions.
-/
import Derived.Test.YtcclmlabcihdoaaVec
import Derived.Test.YtcclmlabcihdoaaRoot
namespace Go.Proofs.Ytcclmlabcihdoaa
open Go.RowKit Go.Proofs.Ytcclmlabcihdoaa.Fl

theorem l01VLong_any (a b c : Nat) (w : World) : Calls Try.prog 60 #[.agg #[.float .f32 a, .float .f32 b, .float .f32 c]] w (RetFB .f32 (rootV (ar .add .f32 (ar .add .f32 (ar .mul .f32 (val .f32 a) (val .f32 a)) (ar .mul .f32 (val .f32 b) (val .f32 b))) (ar .mul .f32 (val .f32 c) (val .f32 c)))) w) := by
  go_enter Try.func60, Try.ntmps60
  go_wp2_with (first | (go_at_call 84; refine (l01VInner_any _ _ _ _ _ _ _).mono ?_; rintro e w1 ⟨r, hr, rfl, hb⟩) | (go_at_call 52; refine (l01Sqrt_any _ _ _ (by assumption)).mono ?_; rintro e w' ⟨s, hs, rfl, n, rfl⟩))
  go_ret
  exact ⟨_, hs, rfl, below_drewN (((Below.refl _ _).alloc (Nat.le_refl _) _).trans (hb.mono (by first | omega | (simp; done) | (simp; omega)))) _⟩

theorem specSize_any (a b c : Nat) (w : World) : Calls Try.prog 20 #[.agg #[.float .f32 a, .float .f32 b, .float .f32 c]] w (RetFB .f32 (rootV (ar .add .f32 (ar .add .f32 (ar .mul .f32 (val .f32 a) (val .f32 a)) (ar .mul .f32 (val .f32 b) (val .f32 b))) (ar .mul .f32 (val .f32 c) (val .f32 c)))) w) := by
  go_enter Try.func20, Try.ntmps20
  go_wp2_with (first | (go_at_call 60; refine (l01VLong_any _ _ _ _).mono ?_; rintro e w1 ⟨r, hr, rfl, hb⟩))
  go_ret
  exact ⟨_, hr, rfl, ((Below.refl _ _).alloc (Nat.le_refl _) _).trans (hb.mono (by first | omega | (simp; done) | (simp; omega)))⟩

theorem implSize_any (a b c : Nat) (w : World) : Calls Try.prog 22 #[.agg #[.float .f32 a, .float .f32 b, .float .f32 c]] w (RetFB .f32 (rootV (ar .add .f32 (ar .add .f32 (ar .mul .f32 (val .f32 a) (val .f32 a)) (ar .mul .f32 (val .f32 b) (val .f32 b))) (ar .mul .f32 (val .f32 c) (val .f32 c)))) w) := by
  go_enter Try.func22, Try.ntmps22
  go_wp2_with (first | (go_at_call 61; refine (implInner_any _ _ _ _ _ _ _).mono ?_; rintro e w1 ⟨r, hr, rfl, hb⟩) | (go_at_call 17; refine (implRoot_any _ _ _ (by assumption)).mono ?_; rintro e w' ⟨s, hs, rfl, n, rfl⟩))
  go_ret
  exact ⟨_, hs, rfl, below_drewN (((Below.refl _ _).alloc (Nat.le_refl _) _).trans (hb.mono (by first | omega | (simp; done) | (simp; omega)))) _⟩

set_option maxHeartbeats 1000000 in
theorem FnExactSizeOfVector_walk (a b c : Nat) (w : World) (_ha : a < 4294967296) (_hb : b < 4294967296) (_hc : c < 4294967296) : Calls Try.prog 6 #[.agg #[.float .f32 a, .float .f32 b, .float .f32 c]] w (Yes w) := by
  clear _ha _hb _hc
  go_enter Try.func6, Try.ntmps6
  go_wp2_with (first | (go_at_call 21; refine (toVector_exact _ _ _ _).mono ?_; rintro e w1 ⟨rfl, rfl⟩) | (go_at_call 20; refine (specSize_any _ _ _ _).mono ?_; rintro e w1 ⟨r1, h1, rfl, hb⟩; obtain ⟨hc, hf, hlt⟩ := bcell3 hb) | (go_at_call 22; refine (implSize_any _ _ _ _).mono ?_; rintro e w2 ⟨r2, h2, rfl, hb2⟩) | (refine wpList_cv _ rfl _ _ _ rfl .f32 .f64 _ rfl (by rw [Try.underlying22]; rfl) Try.underlying26 (by assumption) (fits_widen _) ?_; intro r n hr) | (go_at_call 15; refine (same_any _ _ _ _ (by assumption) (by assumption)).mono ?_; rintro e w' ⟨rfl, n, rfl⟩))
  go_ret
  have hz := hb.size
  have hbw : Below w.heap.size w w1 := (((((((Below.refl _ _).alloc (Nat.le_refl _) _).alloc (by first | omega | (simp; done) | (simp; omega)) _).alloc (by first | omega | (simp; done) | (simp; omega)) _).alloc (by first | omega | (simp; done) | (simp; omega)) _)).trans (hb.mono (by first | omega | (simp; done) | (simp; omega))))
  have hz2 := hbw.size
  exact ⟨rfl, below_drewN ((((hbw.alloc hz2 _).alloc (by first | omega | (simp; done) | (simp; omega)) _).alloc (by first | omega | (simp; done) | (simp; omega)) _).trans (hb2.mono (by first | omega | (simp; done) | (simp; omega)))) _⟩
end Go.Proofs.Ytcclmlabcihdoaa
