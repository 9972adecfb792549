/-
  What the functions over vectors of three floats come to. Conditions: where two vectors are held to be the same, their bits are those of float32 numbers.
-/
import Derived.Test.YtppodhfkmdojoaaBase
import Derived.Below
import Derived.Deep.RegionHeld3
import Derived.Deep.DeepCutAuto
namespace Go.Proofs.Ytppodhfkmdojoaa
open Go.RowKit Go.Proofs.Ytppodhfkmdojoaa.Fl

@[go_sem] theorem buildVec (a b c : Nat) (w : World) : (Instr.build 33 #[(0, .float .f32 a), (1, .float .f32 b), (2, .float .f32 c)]).run Try.prog w = .ok (.agg #[.float .f32 a, .float .f32 b, .float .f32 c]) w := run_build w 33 _ _ (by kernel_rfl)

set_option maxHeartbeats 400000 in
theorem toVector_exact (x y z : Nat) (w : World) : Calls Try.prog 18 #[.agg #[.float .f32 x, .float .f32 y, .float .f32 z]] w fun e w' => e = .returned (.agg #[.float .f32 x, .float .f32 y, .float .f32 z]) ∧ w' = ((w.alloc (.cells #[.float .f32 x, .float .f32 y, .float .f32 z] 31)).alloc (.cells #[.float .f32 x, .float .f32 y, .float .f32 z] 33)).alloc (.cells #[.float .f32 x, .float .f32 y, .float .f32 z] 33) := by
  go_enter Try.func18, Try.ntmps18
  go_wp2_with fail
  exact bodyPost_ret (v := .agg #[.float .f32 x, .float .f32 y, .float .f32 z]) (by simp [results, Try.results18, go_sem]) rfl ⟨rfl, rfl⟩
set_option maxHeartbeats 400000 in
theorem implAdd_any (a b c x y z : Nat) (w : World) : Calls Try.prog 21 #[.agg #[.float .f32 a, .float .f32 b, .float .f32 c], .agg #[.float .f32 x, .float .f32 y, .float .f32 z]] w (RetV (ar .add .f32 (val .f32 a) (val .f32 x)) (ar .add .f32 (val .f32 b) (val .f32 y)) (ar .add .f32 (val .f32 c) (val .f32 z)) w) := by
  go_enter Try.func21, Try.ntmps21
  go_wp2_with (refine wpList_ar _ rfl _ _ _ _ _ rfl _ _ _ rfl rfl rfl (by first | assumption | exact rfl) (by first | assumption | exact rfl) ?_; intro r n hr)
  refine bodyPost_ret (v := .agg #[.float .f32 _, .float .f32 _, .float .f32 _]) (by simp [results, Try.results21, go_sem]; exact ⟨rfl, rfl, rfl⟩) rfl ⟨_, _, _, ?_, ?_, ?_, rfl, ?_⟩
  all_goals first | assumption | exact below_drewN ((((Below.refl _ _).alloc (Nat.le_refl _) _).alloc (by first | omega | (simp; done) | (simp; omega)) _).alloc (by first | omega | (simp; done) | (simp; omega)) _) _
set_option maxHeartbeats 400000 in
theorem l01VAdd_any (a b c x y z : Nat) (w : World) : Calls Try.prog 41 #[.agg #[.float .f32 a, .float .f32 b, .float .f32 c], .agg #[.float .f32 x, .float .f32 y, .float .f32 z]] w (RetV (ar .add .f32 (val .f32 a) (val .f32 x)) (ar .add .f32 (val .f32 b) (val .f32 y)) (ar .add .f32 (val .f32 c) (val .f32 z)) w) := by
  go_enter Try.func41, Try.ntmps41
  go_wp2_with (refine wpList_ar _ rfl _ _ _ _ _ rfl _ _ _ rfl rfl rfl (by first | assumption | exact rfl) (by first | assumption | exact rfl) ?_; intro r n hr)
  refine bodyPost_ret (v := .agg #[.float .f32 _, .float .f32 _, .float .f32 _]) (by simp [results, Try.results41, go_sem]; exact ⟨rfl, rfl, rfl⟩) rfl ⟨_, _, _, ?_, ?_, ?_, rfl, ?_⟩
  all_goals first | assumption | exact below_drewN ((((Below.refl _ _).alloc (Nat.le_refl _) _).alloc (by first | omega | (simp; done) | (simp; omega)) _).alloc (by first | omega | (simp; done) | (simp; omega)) _) _
set_option maxHeartbeats 400000 in
theorem implLess_any (a b c x y z : Nat) (w : World) : Calls Try.prog 24 #[.agg #[.float .f32 a, .float .f32 b, .float .f32 c], .agg #[.float .f32 x, .float .f32 y, .float .f32 z]] w (RetV (ar .sub .f32 (val .f32 a) (val .f32 x)) (ar .sub .f32 (val .f32 b) (val .f32 y)) (ar .sub .f32 (val .f32 c) (val .f32 z)) w) := by
  go_enter Try.func24, Try.ntmps24
  go_wp2_with (refine wpList_ar _ rfl _ _ _ _ _ rfl _ _ _ rfl rfl rfl (by first | assumption | exact rfl) (by first | assumption | exact rfl) ?_; intro r n hr)
  refine bodyPost_ret (v := .agg #[.float .f32 _, .float .f32 _, .float .f32 _]) (by simp [results, Try.results24, go_sem]; exact ⟨rfl, rfl, rfl⟩) rfl ⟨_, _, _, ?_, ?_, ?_, rfl, ?_⟩
  all_goals first | assumption | exact below_drewN ((((Below.refl _ _).alloc (Nat.le_refl _) _).alloc (by first | omega | (simp; done) | (simp; omega)) _).alloc (by first | omega | (simp; done) | (simp; omega)) _) _
set_option maxHeartbeats 400000 in
theorem l01VLess_any (a b c x y z : Nat) (w : World) : Calls Try.prog 42 #[.agg #[.float .f32 a, .float .f32 b, .float .f32 c], .agg #[.float .f32 x, .float .f32 y, .float .f32 z]] w (RetV (ar .sub .f32 (val .f32 a) (val .f32 x)) (ar .sub .f32 (val .f32 b) (val .f32 y)) (ar .sub .f32 (val .f32 c) (val .f32 z)) w) := by
  go_enter Try.func42, Try.ntmps42
  go_wp2_with (refine wpList_ar _ rfl _ _ _ _ _ rfl _ _ _ rfl rfl rfl (by first | assumption | exact rfl) (by first | assumption | exact rfl) ?_; intro r n hr)
  refine bodyPost_ret (v := .agg #[.float .f32 _, .float .f32 _, .float .f32 _]) (by simp [results, Try.results42, go_sem]; exact ⟨rfl, rfl, rfl⟩) rfl ⟨_, _, _, ?_, ?_, ?_, rfl, ?_⟩
  all_goals first | assumption | exact below_drewN ((((Below.refl _ _).alloc (Nat.le_refl _) _).alloc (by first | omega | (simp; done) | (simp; omega)) _).alloc (by first | omega | (simp; done) | (simp; omega)) _) _
set_option maxHeartbeats 400000 in
theorem implScale_any (a b c s : Nat) (w : World) : Calls Try.prog 26 #[.agg #[.float .f32 a, .float .f32 b, .float .f32 c], .float .f32 s] w (RetV (ar .mul .f32 (val .f32 a) (val .f32 s)) (ar .mul .f32 (val .f32 b) (val .f32 s)) (ar .mul .f32 (val .f32 c) (val .f32 s)) w) := by
  go_enter Try.func26, Try.ntmps26
  go_wp2_with (refine wpList_ar _ rfl _ _ _ _ _ rfl _ _ _ rfl rfl rfl (by first | assumption | exact rfl) (by first | assumption | exact rfl) ?_; intro r n hr)
  refine bodyPost_ret (v := .agg #[.float .f32 _, .float .f32 _, .float .f32 _]) (by simp [results, Try.results26, go_sem]; exact ⟨rfl, rfl, rfl⟩) rfl ⟨_, _, _, ?_, ?_, ?_, rfl, ?_⟩
  all_goals first | assumption | exact below_drewN (((Below.refl _ _).alloc (Nat.le_refl _) _).alloc (by first | omega | (simp; done) | (simp; omega)) _) _
set_option maxHeartbeats 400000 in
theorem l01VScale_any (a b c s : Nat) (w : World) : Calls Try.prog 43 #[.agg #[.float .f32 a, .float .f32 b, .float .f32 c], .float .f32 s] w (RetV (ar .mul .f32 (val .f32 a) (val .f32 s)) (ar .mul .f32 (val .f32 b) (val .f32 s)) (ar .mul .f32 (val .f32 c) (val .f32 s)) w) := by
  go_enter Try.func43, Try.ntmps43
  go_wp2_with (refine wpList_ar _ rfl _ _ _ _ _ rfl _ _ _ rfl rfl rfl (by first | assumption | exact rfl) (by first | assumption | exact rfl) ?_; intro r n hr)
  refine bodyPost_ret (v := .agg #[.float .f32 _, .float .f32 _, .float .f32 _]) (by simp [results, Try.results43, go_sem]; exact ⟨rfl, rfl, rfl⟩) rfl ⟨_, _, _, ?_, ?_, ?_, rfl, ?_⟩
  all_goals first | assumption | exact below_drewN (((Below.refl _ _).alloc (Nat.le_refl _) _).alloc (by first | omega | (simp; done) | (simp; omega)) _) _
set_option maxHeartbeats 400000 in
theorem l01VCross_any (a b c x y z : Nat) (w : World) : Calls Try.prog 44 #[.agg #[.float .f32 a, .float .f32 b, .float .f32 c], .agg #[.float .f32 x, .float .f32 y, .float .f32 z]] w (RetV (ar .sub .f32 (ar .mul .f32 (val .f32 b) (val .f32 z)) (ar .mul .f32 (val .f32 c) (val .f32 y))) (ar .sub .f32 (ar .mul .f32 (val .f32 c) (val .f32 x)) (ar .mul .f32 (val .f32 a) (val .f32 z))) (ar .sub .f32 (ar .mul .f32 (val .f32 a) (val .f32 y)) (ar .mul .f32 (val .f32 b) (val .f32 x))) w) := by
  go_enter Try.func44, Try.ntmps44
  go_wp2_with (refine wpList_ar _ rfl _ _ _ _ _ rfl _ _ _ rfl rfl rfl (by first | assumption | exact rfl) (by first | assumption | exact rfl) ?_; intro r n hr)
  refine bodyPost_ret (v := .agg #[.float .f32 _, .float .f32 _, .float .f32 _]) (by simp [results, Try.results44, go_sem]; exact ⟨rfl, rfl, rfl⟩) rfl ⟨_, _, _, ?_, ?_, ?_, rfl, ?_⟩
  all_goals first | assumption | exact below_drewN ((((Below.refl _ _).alloc (Nat.le_refl _) _).alloc (by first | omega | (simp; done) | (simp; omega)) _).alloc (by first | omega | (simp; done) | (simp; omega)) _) _
set_option maxHeartbeats 400000 in
theorem specAdd_any (a b c x y z : Nat) (w : World) : Calls Try.prog 20 #[.agg #[.float .f32 a, .float .f32 b, .float .f32 c], .agg #[.float .f32 x, .float .f32 y, .float .f32 z]] w (RetV (ar .add .f32 (val .f32 a) (val .f32 x)) (ar .add .f32 (val .f32 b) (val .f32 y)) (ar .add .f32 (val .f32 c) (val .f32 z)) w) := by
  go_enter Try.func20, Try.ntmps20
  go_wp2_with (go_at_call 41; refine (l01VAdd_any _ _ _ _ _ _ _).mono ?_; rintro e w1 ⟨p, q, r, hp, hq, hr, rfl, hb⟩; obtain ⟨hc, hf⟩ := bcell hb; have hz := hb.size)
  refine bodyPost_ret (v := .agg #[.float .f32 p, .float .f32 q, .float .f32 r]) (by simp [results, Try.results20, go_sem, hc]) rfl ⟨p, q, r, hp, hq, hr, rfl, ?_⟩
  exact (((((((Below.refl _ _).alloc (Nat.le_refl _) _).alloc (by first | omega | (simp; done) | (simp; omega)) _).alloc (by first | omega | (simp; done) | (simp; omega)) _).trans (hb.mono (by first | omega | (simp; done) | (simp; omega)))).setCell (by first | omega | (simp; done) | (simp; omega)) _).setCell (by first | omega | (simp; done) | (simp; omega)) _).setCell (by first | omega | (simp; done) | (simp; omega)) _
set_option maxHeartbeats 400000 in
theorem specLess_any (a b c x y z : Nat) (w : World) : Calls Try.prog 23 #[.agg #[.float .f32 a, .float .f32 b, .float .f32 c], .agg #[.float .f32 x, .float .f32 y, .float .f32 z]] w (RetV (ar .sub .f32 (val .f32 a) (val .f32 x)) (ar .sub .f32 (val .f32 b) (val .f32 y)) (ar .sub .f32 (val .f32 c) (val .f32 z)) w) := by
  go_enter Try.func23, Try.ntmps23
  go_wp2_with (go_at_call 42; refine (l01VLess_any _ _ _ _ _ _ _).mono ?_; rintro e w1 ⟨p, q, r, hp, hq, hr, rfl, hb⟩; obtain ⟨hc, hf⟩ := bcell hb; have hz := hb.size)
  refine bodyPost_ret (v := .agg #[.float .f32 p, .float .f32 q, .float .f32 r]) (by simp [results, Try.results23, go_sem, hc]) rfl ⟨p, q, r, hp, hq, hr, rfl, ?_⟩
  exact (((((((Below.refl _ _).alloc (Nat.le_refl _) _).alloc (by first | omega | (simp; done) | (simp; omega)) _).alloc (by first | omega | (simp; done) | (simp; omega)) _).trans (hb.mono (by first | omega | (simp; done) | (simp; omega)))).setCell (by first | omega | (simp; done) | (simp; omega)) _).setCell (by first | omega | (simp; done) | (simp; omega)) _).setCell (by first | omega | (simp; done) | (simp; omega)) _
set_option maxHeartbeats 400000 in
theorem specScale_any (a b c s : Nat) (w : World) : Calls Try.prog 25 #[.agg #[.float .f32 a, .float .f32 b, .float .f32 c], .float .f32 s] w (RetV (ar .mul .f32 (val .f32 a) (val .f32 s)) (ar .mul .f32 (val .f32 b) (val .f32 s)) (ar .mul .f32 (val .f32 c) (val .f32 s)) w) := by
  go_enter Try.func25, Try.ntmps25
  go_wp2_with (go_at_call 43; refine (l01VScale_any _ _ _ _ _).mono ?_; rintro e w1 ⟨p, q, r, hp, hq, hr, rfl, hb⟩; obtain ⟨hc, hf⟩ := bcell hb; have hz := hb.size)
  refine bodyPost_ret (v := .agg #[.float .f32 p, .float .f32 q, .float .f32 r]) (by simp [results, Try.results25, go_sem, hc]) rfl ⟨p, q, r, hp, hq, hr, rfl, ?_⟩
  exact ((((((Below.refl _ _).alloc (Nat.le_refl _) _).alloc (by first | omega | (simp; done) | (simp; omega)) _).trans (hb.mono (by first | omega | (simp; done) | (simp; omega)))).setCell (by first | omega | (simp; done) | (simp; omega)) _).setCell (by first | omega | (simp; done) | (simp; omega)) _).setCell (by first | omega | (simp; done) | (simp; omega)) _
set_option maxHeartbeats 400000 in
theorem specCross_any (a b c x y z : Nat) (w : World) : Calls Try.prog 27 #[.agg #[.float .f32 a, .float .f32 b, .float .f32 c], .agg #[.float .f32 x, .float .f32 y, .float .f32 z]] w (RetV (ar .sub .f32 (ar .mul .f32 (val .f32 b) (val .f32 z)) (ar .mul .f32 (val .f32 c) (val .f32 y))) (ar .sub .f32 (ar .mul .f32 (val .f32 c) (val .f32 x)) (ar .mul .f32 (val .f32 a) (val .f32 z))) (ar .sub .f32 (ar .mul .f32 (val .f32 a) (val .f32 y)) (ar .mul .f32 (val .f32 b) (val .f32 x))) w) := by
  go_enter Try.func27, Try.ntmps27
  go_wp2_with (go_at_call 44; refine (l01VCross_any _ _ _ _ _ _ _).mono ?_; rintro e w1 ⟨p, q, r, hp, hq, hr, rfl, hb⟩; obtain ⟨hc, hf⟩ := bcell hb; have hz := hb.size)
  refine bodyPost_ret (v := .agg #[.float .f32 p, .float .f32 q, .float .f32 r]) (by simp [results, Try.results27, go_sem, hc]) rfl ⟨p, q, r, hp, hq, hr, rfl, ?_⟩
  exact (((((((Below.refl _ _).alloc (Nat.le_refl _) _).alloc (by first | omega | (simp; done) | (simp; omega)) _).alloc (by first | omega | (simp; done) | (simp; omega)) _).trans (hb.mono (by first | omega | (simp; done) | (simp; omega)))).setCell (by first | omega | (simp; done) | (simp; omega)) _).setCell (by first | omega | (simp; done) | (simp; omega)) _).setCell (by first | omega | (simp; done) | (simp; omega)) _
set_option maxHeartbeats 400000 in
theorem implInner_any (a b c x y z : Nat) (w : World) : Calls Try.prog 19 #[.agg #[.float .f32 a, .float .f32 b, .float .f32 c], .agg #[.float .f32 x, .float .f32 y, .float .f32 z]] w (RetFB .f32 (ar .add .f32 (ar .add .f32 (ar .mul .f32 (val .f32 a) (val .f32 x)) (ar .mul .f32 (val .f32 b) (val .f32 y))) (ar .mul .f32 (val .f32 c) (val .f32 z))) w) := by
  go_enter Try.func19, Try.ntmps19
  go_wp2_with (refine wpList_ar _ rfl _ _ _ _ _ rfl _ _ _ rfl rfl rfl (by first | assumption | exact rfl) (by first | assumption | exact rfl) ?_; intro r n hr)
  go_ret
  exact ⟨_, ‹_›, rfl, below_drewN (((Below.refl _ _).alloc (Nat.le_refl _) _).alloc (by first | omega | (simp; done) | (simp; omega)) _) _⟩
set_option maxHeartbeats 400000 in
theorem l01VInner_any (a b c x y z : Nat) (w : World) : Calls Try.prog 40 #[.agg #[.float .f32 a, .float .f32 b, .float .f32 c], .agg #[.float .f32 x, .float .f32 y, .float .f32 z]] w (RetFB .f32 (ar .add .f32 (ar .add .f32 (ar .mul .f32 (val .f32 a) (val .f32 x)) (ar .mul .f32 (val .f32 b) (val .f32 y))) (ar .mul .f32 (val .f32 c) (val .f32 z))) w) := by
  go_enter Try.func40, Try.ntmps40
  go_wp2_with (refine wpList_ar _ rfl _ _ _ _ _ rfl _ _ _ rfl rfl rfl (by first | assumption | exact rfl) (by first | assumption | exact rfl) ?_; intro r n hr)
  go_ret
  exact ⟨_, ‹_›, rfl, below_drewN (((Below.refl _ _).alloc (Nat.le_refl _) _).alloc (by first | omega | (simp; done) | (simp; omega)) _) _⟩
set_option maxHeartbeats 400000 in
theorem specInner_any (a b c x y z : Nat) (w : World) : Calls Try.prog 17 #[.agg #[.float .f32 a, .float .f32 b, .float .f32 c], .agg #[.float .f32 x, .float .f32 y, .float .f32 z]] w (RetFB .f32 (ar .add .f32 (ar .add .f32 (ar .mul .f32 (val .f32 a) (val .f32 x)) (ar .mul .f32 (val .f32 b) (val .f32 y))) (ar .mul .f32 (val .f32 c) (val .f32 z))) w) := by
  go_enter Try.func17, Try.ntmps17
  go_wp2_with (go_at_call 40; refine (l01VInner_any _ _ _ _ _ _ _).mono ?_; rintro e w1 ⟨r, hr, rfl, hb⟩)
  go_ret
  exact ⟨_, ‹_›, rfl, (((Below.refl _ _).alloc (Nat.le_refl _) _).alloc (by first | omega | (simp; done) | (simp; omega)) _).trans (hb.mono (by first | omega | (simp; done) | (simp; omega)))⟩
theorem crossed_any (a b c d : Nat) (w : World) : Calls Try.prog 45 #[.float .f32 a, .float .f32 b, .float .f32 c, .float .f32 d] w (RetF .f32 (ar .sub .f32 (ar .mul .f32 (val .f32 a) (val .f32 b)) (ar .mul .f32 (val .f32 c) (val .f32 d))) w) := by
  go_enter Try.func45, Try.ntmps45
  go_wp2_with (refine wpList_ar _ rfl _ _ _ _ _ rfl _ _ _ rfl rfl rfl (by first | assumption | exact rfl) (by first | assumption | exact rfl) ?_; intro r n hr)
  go_ret
  exact ⟨_, ‹_›, rfl, _, rfl⟩

theorem mkS2 {B p q : Nat} {W w' : World} (h : Below B W w') (hp : p < B) (hq : q < B) (hW : B ≤ W.heap.size) :
    (∀ o, w'.cell? ⟨p, o, none⟩ = W.cell? ⟨p, o, none⟩) ∧ (∀ o, w'.cell? ⟨q, o, none⟩ = W.cell? ⟨q, o, none⟩) ∧ B ≤ w'.heap.size ∧ Below B W w' :=
  ⟨fun o => h.cell (p := ⟨p, o, none⟩) hp, fun o => h.cell (p := ⟨q, o, none⟩) hq, Nat.le_trans hW h.size, h⟩

theorem bcell3 {W w1 : World} (hb : Below W.heap.size W w1) : (∀ b o, b < W.heap.size → w1.cell? ⟨b, o, none⟩ = W.cell? ⟨b, o, none⟩) ∧ (∀ b o, b < W.heap.size → w1.frozen? ⟨b, o, none⟩ = W.frozen? ⟨b, o, none⟩) ∧ (∀ n, n < W.heap.size → n < w1.heap.size) :=
  ⟨fun b o h => hb.cell (p := ⟨b, o, none⟩) h, fun b o h => hb.frozen (p := ⟨b, o, none⟩) h, fun _ h => Nat.lt_of_lt_of_le h hb.size⟩

theorem below_undrew {W w1 : World} (hb : Below W.drew.heap.size W.drew w1) : Below W.heap.size W w1 := ⟨hb.os, hb.tape, hb.output, hb.size, hb.block⟩

/-- A slot that leads to a vector in new memory. -/
def VAt (p q r : Option Nat) (B : Nat) (W : World) (v : Value) (w' : World) : Prop :=
  ∃ k a b c, v = .pointer (some ⟨k, 0, none⟩) ∧ B ≤ k ∧ k < w'.heap.size ∧ w'.cell? ⟨k, 0, none⟩ = some (.float .f32 a) ∧ w'.cell? ⟨k, 1, none⟩ = some (.float .f32 b) ∧ w'.cell? ⟨k, 2, none⟩ = some (.float .f32 c) ∧ Is .f32 p a ∧ Is .f32 q b ∧ Is .f32 r c ∧ Below B W w'

theorem vat_set {p q r : Option Nat} {B : Nat} {W w1 : World} {k a b c : Nat} (hB : B ≤ k) (hp : Is .f32 p a) (hq : Is .f32 q b) (hr : Is .f32 r c) (hb : Below B W w1)
    (d0 : (w1.cell? ⟨k, 0, none⟩).isSome = true) (d1 : (w1.cell? ⟨k, 1, none⟩).isSome = true) (d2 : (w1.cell? ⟨k, 2, none⟩).isSome = true) :
    VAt p q r B W (.pointer (some ⟨k, 0, none⟩)) (((w1.setCell ⟨k, 0, none⟩ (.float .f32 a)).setCell ⟨k, 1, none⟩ (.float .f32 b)).setCell ⟨k, 2, none⟩ (.float .f32 c)) := by
  obtain ⟨u0, c0⟩ := Option.isSome_iff_exists.1 d0
  obtain ⟨u1, c1⟩ := Option.isSome_iff_exists.1 d1
  obtain ⟨u2, c2⟩ := Option.isSome_iff_exists.1 d2
  have hk := World.block_lt_of_cell? w1 _ c0
  have e01 : (⟨k, 0, none⟩ : Addr) ≠ ⟨k, 1, none⟩ := by simp
  have e02 : (⟨k, 0, none⟩ : Addr) ≠ ⟨k, 2, none⟩ := by simp
  have e12 : (⟨k, 1, none⟩ : Addr) ≠ ⟨k, 2, none⟩ := by simp
  refine ⟨k, a, b, c, rfl, hB, by simpa using hk, ?_, ?_, ?_, hp, hq, hr, ((hb.setCell hB _).setCell hB _).setCell hB _⟩
  · rw [World.cell?_setCell_other _ _ _ _ e02.symm, World.cell?_setCell_other _ _ _ _ e01.symm]
    exact World.cell?_setCell_same _ _ _ c0
  · rw [World.cell?_setCell_other _ _ _ _ e12.symm]
    exact World.cell?_setCell_same _ _ _ ((World.cell?_setCell_other _ _ _ _ e01).trans c1)
  · exact World.cell?_setCell_same _ _ _ ((World.cell?_setCell_other _ _ _ _ e12).trans ((World.cell?_setCell_other _ _ _ _ e02).trans c2))

theorem vat_alloc {p q r : Option Nat} {B : Nat} {W w1 : World} {t a b c : Nat} (hB : B ≤ w1.heap.size) (hp : Is .f32 p a) (hq : Is .f32 q b) (hr : Is .f32 r c) (hb : Below B W w1) :
    VAt p q r B W (.pointer (some ⟨w1.heap.size, 0, none⟩)) (w1.alloc (.cells #[.float .f32 a, .float .f32 b, .float .f32 c] t)) :=
  ⟨_, a, b, c, rfl, hB, by simp, by simp, by simp, by simp, hp, hq, hr, hb.alloc hB _⟩

set_option maxHeartbeats 1000000 in
theorem implCross_any (a b c x y z : Nat) (w : World) : Calls Try.prog 28 #[.agg #[.float .f32 a, .float .f32 b, .float .f32 c], .agg #[.float .f32 x, .float .f32 y, .float .f32 z]] w (RetV (ar .sub .f32 (ar .mul .f32 (val .f32 b) (val .f32 z)) (ar .mul .f32 (val .f32 c) (val .f32 y))) (ar .sub .f32 (ar .mul .f32 (val .f32 c) (val .f32 x)) (ar .mul .f32 (val .f32 a) (val .f32 z))) (ar .sub .f32 (ar .mul .f32 (val .f32 a) (val .f32 y)) (ar .mul .f32 (val .f32 b) (val .f32 x))) w) := by
  go_enter Try.func28, Try.ntmps28
  go_wp2_with fail
  obtain ⟨W, hW⟩ : ∃ W, W = (((w.alloc (.cells #[.float .f32 a, .float .f32 b, .float .f32 c] 33)).alloc (.cells #[.float .f32 x, .float .f32 y, .float .f32 z] 33)).alloc (.cells #[.float .f32 0, .float .f32 0, .float .f32 0] 33)) := ⟨_, rfl⟩
  rw [← hW]
  have g0 : W.cell? ⟨w.heap.size, 0, none⟩ = some (.float .f32 a) := by rw [hW]; simp [go_sem]
  have g1 : W.cell? ⟨w.heap.size, 1, none⟩ = some (.float .f32 b) := by rw [hW]; simp [go_sem]
  have g2 : W.cell? ⟨w.heap.size, 2, none⟩ = some (.float .f32 c) := by rw [hW]; simp [go_sem]
  have g3 : W.cell? ⟨w.heap.size + 1, 0, none⟩ = some (.float .f32 x) := by rw [hW]; simp [go_sem]
  have g4 : W.cell? ⟨w.heap.size + 1, 1, none⟩ = some (.float .f32 y) := by rw [hW]; simp [go_sem]
  have g5 : W.cell? ⟨w.heap.size + 1, 2, none⟩ = some (.float .f32 z) := by rw [hW]; simp [go_sem]
  have g6 : W.cell? ⟨w.heap.size + 1 + 1, 0, none⟩ = some (.float .f32 0) := by rw [hW]; simp [go_sem]
  have g7 : W.cell? ⟨w.heap.size + 1 + 1, 1, none⟩ = some (.float .f32 0) := by rw [hW]; simp [go_sem]
  have g8 : W.cell? ⟨w.heap.size + 1 + 1, 2, none⟩ = some (.float .f32 0) := by rw [hW]; simp [go_sem]
  have gs : w.heap.size + 3 ≤ W.heap.size := by rw [hW]; simp
  have gb : Below w.heap.size w W := by rw [hW]; exact (((Below.refl _ _).alloc (Nat.le_refl _) _).alloc (by first | omega | (simp; done) | (simp; omega)) _).alloc (by first | omega | (simp; done) | (simp; omega)) _
  have gf : ∀ i, W.frozen? ⟨w.heap.size + 1 + 1, i, none⟩ = false := by intro i; rw [hW]; simp [go_sem]
  clear hW
  go_region_held3 (fun w' => (∀ o, w'.cell? ⟨w.heap.size, o, none⟩ = W.cell? ⟨w.heap.size, o, none⟩) ∧ (∀ o, w'.cell? ⟨w.heap.size + 1, o, none⟩ = W.cell? ⟨w.heap.size + 1, o, none⟩) ∧ w.heap.size + 2 ≤ w'.heap.size ∧ Below (w.heap.size + 2) W w')
    (first | (exact mkS2 (Below.refl _ _).drew (by omega) (by omega) (by omega)) | (go_split_ands; refine mkS2 ?_ (by omega) (by omega) (by omega); repeat (first | assumption | exact Below.refl _ _ | refine Below.drew ?_ | refine below_drewN ?_ _ | refine Below.alloc ?_ (by first | assumption | omega | (simp; done) | (simp; omega)) _ | refine Below.setCell ?_ (by first | omega | (simp; done) | (simp; omega)) _ | refine Below.trans ?_ (hb.mono (by first | omega | (simp; done) | (simp; omega))))))
    (first | (go_at_call 45; refine (crossed_any _ _ _ _ _).mono ?_; rintro e w1 ⟨r, hr, rfl, n, rfl⟩))
  go_wp2_with fail
  refine bodyPost_ret (v := .agg #[.float .f32 _, .float .f32 _, .float .f32 _]) (by simp [results, Try.results28, go_sem, *]; exact ⟨rfl, rfl, rfl⟩) rfl ⟨_, _, _, ?_, ?_, ?_, rfl, ?_⟩
  all_goals first | assumption | (refine gb.trans ?_; repeat (first | exact Below.refl _ _ | refine Below.drew ?_ | refine below_drewN ?_ _ | refine Below.setCell ?_ (by first | omega | (simp; done) | (simp; omega)) _))
set_option maxHeartbeats 1000000 in
theorem implBetween_any (a b c x y z s : Nat) (w : World) : Calls Try.prog 32 #[.agg #[.float .f32 a, .float .f32 b, .float .f32 c], .agg #[.float .f32 x, .float .f32 y, .float .f32 z], .float .f32 s] w (RetV (ar .add .f32 (val .f32 a) (ar .mul .f32 (ar .sub .f32 (val .f32 x) (val .f32 a)) (val .f32 s))) (ar .add .f32 (val .f32 b) (ar .mul .f32 (ar .sub .f32 (val .f32 y) (val .f32 b)) (val .f32 s))) (ar .add .f32 (val .f32 c) (ar .mul .f32 (ar .sub .f32 (val .f32 z) (val .f32 c)) (val .f32 s))) w) := by
  go_enter Try.func32, Try.ntmps32
  go_wp2_with fail
  obtain ⟨W, hW⟩ : ∃ W, W = (((w.alloc (.cells #[.float .f32 a, .float .f32 b, .float .f32 c] 33)).alloc (.cells #[.float .f32 x, .float .f32 y, .float .f32 z] 33)).alloc (.cells #[.float .f32 0, .float .f32 0, .float .f32 0] 33)) := ⟨_, rfl⟩
  rw [← hW]
  have g0 : W.cell? ⟨w.heap.size, 0, none⟩ = some (.float .f32 a) := by rw [hW]; simp [go_sem]
  have g1 : W.cell? ⟨w.heap.size, 1, none⟩ = some (.float .f32 b) := by rw [hW]; simp [go_sem]
  have g2 : W.cell? ⟨w.heap.size, 2, none⟩ = some (.float .f32 c) := by rw [hW]; simp [go_sem]
  have g3 : W.cell? ⟨w.heap.size + 1, 0, none⟩ = some (.float .f32 x) := by rw [hW]; simp [go_sem]
  have g4 : W.cell? ⟨w.heap.size + 1, 1, none⟩ = some (.float .f32 y) := by rw [hW]; simp [go_sem]
  have g5 : W.cell? ⟨w.heap.size + 1, 2, none⟩ = some (.float .f32 z) := by rw [hW]; simp [go_sem]
  have g6 : W.cell? ⟨w.heap.size + 1 + 1, 0, none⟩ = some (.float .f32 0) := by rw [hW]; simp [go_sem]
  have g7 : W.cell? ⟨w.heap.size + 1 + 1, 1, none⟩ = some (.float .f32 0) := by rw [hW]; simp [go_sem]
  have g8 : W.cell? ⟨w.heap.size + 1 + 1, 2, none⟩ = some (.float .f32 0) := by rw [hW]; simp [go_sem]
  have gs : w.heap.size + 3 ≤ W.heap.size := by rw [hW]; simp
  have gb : Below w.heap.size w W := by rw [hW]; exact (((Below.refl _ _).alloc (Nat.le_refl _) _).alloc (by first | omega | (simp; done) | (simp; omega)) _).alloc (by first | omega | (simp; done) | (simp; omega)) _
  have gf : ∀ i, W.frozen? ⟨w.heap.size + 1 + 1, i, none⟩ = false := by intro i; rw [hW]; simp [go_sem]
  clear hW
  have hlt : w.heap.size + 1 + 1 < W.heap.size := by omega
  go_region_held3 (fun w' => (∀ o, w'.cell? ⟨w.heap.size, o, none⟩ = W.cell? ⟨w.heap.size, o, none⟩) ∧ (∀ o, w'.cell? ⟨w.heap.size + 1, o, none⟩ = W.cell? ⟨w.heap.size + 1, o, none⟩) ∧ w.heap.size + 2 ≤ w'.heap.size ∧ Below (w.heap.size + 2) W w')
    (first | (exact mkS2 (Below.refl _ _).drew (by omega) (by omega) (by omega)) | (refine mkS2 (hbW.mono (by omega)) (by omega) (by omega) (by omega)) | (refine mkS2 ((((hbW.mono (by omega)).setCell (by first | omega | (simp; done) | (simp; omega)) _).setCell (by first | omega | (simp; done) | (simp; omega)) _).setCell (by first | omega | (simp; done) | (simp; omega)) _) (by omega) (by omega) (by omega)))
    (first | (go_at_call 24; refine (implLess_any _ _ _ _ _ _ _).mono ?_; rintro e w1 ⟨p1, p2, p3, h1, h2, h3, rfl, hb⟩; have hbW := below_undrew hb; obtain ⟨hc, hf, _⟩ := bcell3 hbW) | (go_at_call 26; refine (implScale_any _ _ _ _ _).mono ?_; rintro e w1 ⟨q1, q2, q3, k1, k2, k3, rfl, hb⟩; have hbW : Below W.heap.size W w1 := hbW.trans (hb.mono hbW.size); obtain ⟨hc, hf, _⟩ := bcell3 hbW) | (go_at_call 21; refine (implAdd_any _ _ _ _ _ _ _).mono ?_; rintro e w1 ⟨r1, r2, r3, l1, l2, l3, rfl, hb⟩; have hbW : Below W.heap.size W w1 := hbW.trans (hb.mono hbW.size); obtain ⟨hc, hf, _⟩ := bcell3 hbW))
  go_wp2_with fail
  rw [show val .f32 p1 = _ from h1] at k1
  rw [show val .f32 p2 = _ from h2] at k2
  rw [show val .f32 p3 = _ from h3] at k3
  rw [show val .f32 q1 = _ from k1] at l1
  rw [show val .f32 q2 = _ from k2] at l2
  rw [show val .f32 q3 = _ from k3] at l3
  refine bodyPost_ret (v := .agg #[.float .f32 r1, .float .f32 r2, .float .f32 r3]) (by simp [results, Try.results32, go_sem, *]) rfl ⟨_, _, _, l1, l2, l3, rfl, ?_⟩
  exact gb.trans ((((hbW.mono (by omega)).setCell (by first | omega | (simp; done) | (simp; omega)) _).setCell (by first | omega | (simp; done) | (simp; omega)) _).setCell (by first | omega | (simp; done) | (simp; omega)) _)
set_option maxHeartbeats 1000000 in
theorem l01VBetween_any (a b c x y z s : Nat) (w : World) : Calls Try.prog 49 #[.agg #[.float .f32 a, .float .f32 b, .float .f32 c], .agg #[.float .f32 x, .float .f32 y, .float .f32 z], .float .f32 s] w (RetV (ar .add .f32 (val .f32 a) (ar .mul .f32 (ar .sub .f32 (val .f32 x) (val .f32 a)) (val .f32 s))) (ar .add .f32 (val .f32 b) (ar .mul .f32 (ar .sub .f32 (val .f32 y) (val .f32 b)) (val .f32 s))) (ar .add .f32 (val .f32 c) (ar .mul .f32 (ar .sub .f32 (val .f32 z) (val .f32 c)) (val .f32 s))) w) := by
  go_enter Try.func49, Try.ntmps49
  go_wp2_with fail
  obtain ⟨W, hW⟩ : ∃ W, W = (((w.alloc (.cells #[.float .f32 a, .float .f32 b, .float .f32 c] 33)).alloc (.cells #[.float .f32 x, .float .f32 y, .float .f32 z] 33)).alloc (.cells #[.float .f32 0, .float .f32 0, .float .f32 0] 33)) := ⟨_, rfl⟩
  rw [← hW]
  have g0 : W.cell? ⟨w.heap.size, 0, none⟩ = some (.float .f32 a) := by rw [hW]; simp [go_sem]
  have g1 : W.cell? ⟨w.heap.size, 1, none⟩ = some (.float .f32 b) := by rw [hW]; simp [go_sem]
  have g2 : W.cell? ⟨w.heap.size, 2, none⟩ = some (.float .f32 c) := by rw [hW]; simp [go_sem]
  have g3 : W.cell? ⟨w.heap.size + 1, 0, none⟩ = some (.float .f32 x) := by rw [hW]; simp [go_sem]
  have g4 : W.cell? ⟨w.heap.size + 1, 1, none⟩ = some (.float .f32 y) := by rw [hW]; simp [go_sem]
  have g5 : W.cell? ⟨w.heap.size + 1, 2, none⟩ = some (.float .f32 z) := by rw [hW]; simp [go_sem]
  have g6 : W.cell? ⟨w.heap.size + 1 + 1, 0, none⟩ = some (.float .f32 0) := by rw [hW]; simp [go_sem]
  have g7 : W.cell? ⟨w.heap.size + 1 + 1, 1, none⟩ = some (.float .f32 0) := by rw [hW]; simp [go_sem]
  have g8 : W.cell? ⟨w.heap.size + 1 + 1, 2, none⟩ = some (.float .f32 0) := by rw [hW]; simp [go_sem]
  have gs : w.heap.size + 3 ≤ W.heap.size := by rw [hW]; simp
  have gb : Below w.heap.size w W := by rw [hW]; exact (((Below.refl _ _).alloc (Nat.le_refl _) _).alloc (by first | omega | (simp; done) | (simp; omega)) _).alloc (by first | omega | (simp; done) | (simp; omega)) _
  have gf : ∀ i, W.frozen? ⟨w.heap.size + 1 + 1, i, none⟩ = false := by intro i; rw [hW]; simp [go_sem]
  clear hW
  have hlt : w.heap.size + 1 + 1 < W.heap.size := by omega
  go_region_held3 (fun w' => (∀ o, w'.cell? ⟨w.heap.size, o, none⟩ = W.cell? ⟨w.heap.size, o, none⟩) ∧ (∀ o, w'.cell? ⟨w.heap.size + 1, o, none⟩ = W.cell? ⟨w.heap.size + 1, o, none⟩) ∧ w.heap.size + 2 ≤ w'.heap.size ∧ Below (w.heap.size + 2) W w')
    (first | (exact mkS2 (Below.refl _ _).drew (by omega) (by omega) (by omega)) | (refine mkS2 (hbW.mono (by omega)) (by omega) (by omega) (by omega)) | (refine mkS2 ((((hbW.mono (by omega)).setCell (by first | omega | (simp; done) | (simp; omega)) _).setCell (by first | omega | (simp; done) | (simp; omega)) _).setCell (by first | omega | (simp; done) | (simp; omega)) _) (by omega) (by omega) (by omega)))
    (first | (go_at_call 42; refine (l01VLess_any _ _ _ _ _ _ _).mono ?_; rintro e w1 ⟨p1, p2, p3, h1, h2, h3, rfl, hb⟩; have hbW := below_undrew hb; obtain ⟨hc, hf, _⟩ := bcell3 hbW) | (go_at_call 43; refine (l01VScale_any _ _ _ _ _).mono ?_; rintro e w1 ⟨q1, q2, q3, k1, k2, k3, rfl, hb⟩; have hbW : Below W.heap.size W w1 := hbW.trans (hb.mono hbW.size); obtain ⟨hc, hf, _⟩ := bcell3 hbW) | (go_at_call 41; refine (l01VAdd_any _ _ _ _ _ _ _).mono ?_; rintro e w1 ⟨r1, r2, r3, l1, l2, l3, rfl, hb⟩; have hbW : Below W.heap.size W w1 := hbW.trans (hb.mono hbW.size); obtain ⟨hc, hf, _⟩ := bcell3 hbW))
  go_wp2_with fail
  rw [show val .f32 p1 = _ from h1] at k1
  rw [show val .f32 p2 = _ from h2] at k2
  rw [show val .f32 p3 = _ from h3] at k3
  rw [show val .f32 q1 = _ from k1] at l1
  rw [show val .f32 q2 = _ from k2] at l2
  rw [show val .f32 q3 = _ from k3] at l3
  refine bodyPost_ret (v := .agg #[.float .f32 r1, .float .f32 r2, .float .f32 r3]) (by simp [results, Try.results49, go_sem, *]) rfl ⟨_, _, _, l1, l2, l3, rfl, ?_⟩
  exact gb.trans ((((hbW.mono (by omega)).setCell (by first | omega | (simp; done) | (simp; omega)) _).setCell (by first | omega | (simp; done) | (simp; omega)) _).setCell (by first | omega | (simp; done) | (simp; omega)) _)
set_option maxHeartbeats 400000 in
theorem specBetween_any (a b c x y z s : Nat) (w : World) : Calls Try.prog 31 #[.agg #[.float .f32 a, .float .f32 b, .float .f32 c], .agg #[.float .f32 x, .float .f32 y, .float .f32 z], .float .f32 s] w (RetV (ar .add .f32 (val .f32 a) (ar .mul .f32 (ar .sub .f32 (val .f32 x) (val .f32 a)) (val .f32 s))) (ar .add .f32 (val .f32 b) (ar .mul .f32 (ar .sub .f32 (val .f32 y) (val .f32 b)) (val .f32 s))) (ar .add .f32 (val .f32 c) (ar .mul .f32 (ar .sub .f32 (val .f32 z) (val .f32 c)) (val .f32 s))) w) := by
  go_enter Try.func31, Try.ntmps31
  go_wp2_with (go_at_call 49; refine (l01VBetween_any _ _ _ _ _ _ _ _).mono ?_; rintro e w1 ⟨p, q, r, hp, hq, hr, rfl, hb⟩; obtain ⟨hc, hf⟩ := bcell hb; have hz := hb.size)
  refine bodyPost_ret (v := .agg #[.float .f32 p, .float .f32 q, .float .f32 r]) (by simp [results, Try.results31, go_sem, hc]) rfl ⟨p, q, r, hp, hq, hr, rfl, ?_⟩
  exact (((((((Below.refl _ _).alloc (Nat.le_refl _) _).alloc (by first | omega | (simp; done) | (simp; omega)) _).alloc (by first | omega | (simp; done) | (simp; omega)) _).trans (hb.mono (by first | omega | (simp; done) | (simp; omega)))).setCell (by first | omega | (simp; done) | (simp; omega)) _).setCell (by first | omega | (simp; done) | (simp; omega)) _).setCell (by first | omega | (simp; done) | (simp; omega)) _
set_option maxHeartbeats 1000000 in
theorem eqVector_any (p q r : Option Nat) (a b c x y z : Nat) (w : World) (ha : Is .f32 p a) (hb : Is .f32 q b) (hc : Is .f32 r c) (hx : Is .f32 p x) (hy : Is .f32 q y) (hz : Is .f32 r z) :
    Calls Try.prog 22 #[.agg #[.float .f32 a, .float .f32 b, .float .f32 c], .agg #[.float .f32 x, .float .f32 y, .float .f32 z]] w (RetB (.bool true) w) := by
  go_enter Try.func22, Try.ntmps22
  go_wp2_with (first | (refine wpList_cv _ rfl _ _ _ rfl .f32 .f64 _ rfl (by rw [Try.underlying22]; rfl) Try.underlying26 (by first | assumption | exact rfl) (fits_widen _) ?_; intro r n hr) | (go_at_call 14; refine (same_any _ _ _ _ (by assumption) (by assumption)).mono ?_; rintro e w' ⟨rfl, n, rfl⟩))
  all_goals (go_ret; exact ⟨rfl, below_drewN (((Below.refl _ _).alloc (Nat.le_refl _) _).alloc (by first | omega | (simp; done) | (simp; omega)) _) _⟩)
end Go.Proofs.Ytppodhfkmdojoaa
