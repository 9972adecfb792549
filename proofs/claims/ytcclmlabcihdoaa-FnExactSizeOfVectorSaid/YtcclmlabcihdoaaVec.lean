/-
  What the functions over vectors of three floats come to. Conditions: where two vectors are held to be the same, their bits are those of float32 numbers.
-/
import Derived.Test.YtcclmlabcihdoaaBase
import Derived.Below
import Derived.Deep.RegionHeld3
import Derived.Deep.DeepCutAuto
namespace Go.Proofs.Ytcclmlabcihdoaa
open Go.RowKit Go.Proofs.Ytcclmlabcihdoaa.Fl

@[go_sem] theorem buildVec (a b c : Nat) (w : World) : (Instr.build 33 #[(0, .float .f32 a), (1, .float .f32 b), (2, .float .f32 c)]).run Try.prog w = .ok (.agg #[.float .f32 a, .float .f32 b, .float .f32 c]) w := run_build w 33 _ _ (by kernel_rfl)

set_option maxHeartbeats 400000 in
theorem toVector_exact (x y z : Nat) (w : World) : Calls Try.prog 21 #[.agg #[.float .f32 x, .float .f32 y, .float .f32 z]] w fun e w' => e = .returned (.agg #[.float .f32 x, .float .f32 y, .float .f32 z]) ∧ w' = ((w.alloc (.cells #[.float .f32 x, .float .f32 y, .float .f32 z] 31)).alloc (.cells #[.float .f32 x, .float .f32 y, .float .f32 z] 33)).alloc (.cells #[.float .f32 x, .float .f32 y, .float .f32 z] 33) := by
  go_enter Try.func21, Try.ntmps21
  go_wp2_with fail
  exact bodyPost_ret (v := .agg #[.float .f32 x, .float .f32 y, .float .f32 z]) (by simp [results, Try.results21, go_sem]) rfl ⟨rfl, rfl⟩
set_option maxHeartbeats 400000 in
theorem implInner_any (a b c x y z : Nat) (w : World) : Calls Try.prog 61 #[.agg #[.float .f32 a, .float .f32 b, .float .f32 c], .agg #[.float .f32 x, .float .f32 y, .float .f32 z]] w (RetFB .f32 (ar .add .f32 (ar .add .f32 (ar .mul .f32 (val .f32 a) (val .f32 x)) (ar .mul .f32 (val .f32 b) (val .f32 y))) (ar .mul .f32 (val .f32 c) (val .f32 z))) w) := by
  go_enter Try.func61, Try.ntmps61
  go_wp2_with (refine wpList_ar _ rfl _ _ _ _ _ rfl _ _ _ rfl rfl rfl (by first | assumption | exact rfl) (by first | assumption | exact rfl) ?_; intro r n hr)
  go_ret
  exact ⟨_, ‹_›, rfl, below_drewN (((Below.refl _ _).alloc (Nat.le_refl _) _).alloc (by first | omega | (simp; done) | (simp; omega)) _) _⟩
set_option maxHeartbeats 400000 in
theorem l01VInner_any (a b c x y z : Nat) (w : World) : Calls Try.prog 84 #[.agg #[.float .f32 a, .float .f32 b, .float .f32 c], .agg #[.float .f32 x, .float .f32 y, .float .f32 z]] w (RetFB .f32 (ar .add .f32 (ar .add .f32 (ar .mul .f32 (val .f32 a) (val .f32 x)) (ar .mul .f32 (val .f32 b) (val .f32 y))) (ar .mul .f32 (val .f32 c) (val .f32 z))) w) := by
  go_enter Try.func84, Try.ntmps84
  go_wp2_with (refine wpList_ar _ rfl _ _ _ _ _ rfl _ _ _ rfl rfl rfl (by first | assumption | exact rfl) (by first | assumption | exact rfl) ?_; intro r n hr)
  go_ret
  exact ⟨_, ‹_›, rfl, below_drewN (((Below.refl _ _).alloc (Nat.le_refl _) _).alloc (by first | omega | (simp; done) | (simp; omega)) _) _⟩

theorem mkS2 {B p q : Nat} {W w' : World} (h : Below B W w') (hp : p < B) (hq : q < B) (hW : B ≤ W.heap.size) :
    (∀ o, w'.cell? ⟨p, o, none⟩ = W.cell? ⟨p, o, none⟩) ∧ (∀ o, w'.cell? ⟨q, o, none⟩ = W.cell? ⟨q, o, none⟩) ∧ B ≤ w'.heap.size ∧ Below B W w' :=
  ⟨fun o => h.cell (p := ⟨p, o, none⟩) hp, fun o => h.cell (p := ⟨q, o, none⟩) hq, Nat.le_trans hW h.size, h⟩

theorem bcell3 {W w1 : World} (hb : Below W.heap.size W w1) : (∀ b o, b < W.heap.size → w1.cell? ⟨b, o, none⟩ = W.cell? ⟨b, o, none⟩) ∧ (∀ b o, b < W.heap.size → w1.frozen? ⟨b, o, none⟩ = W.frozen? ⟨b, o, none⟩) ∧ (∀ n, n < W.heap.size → n < w1.heap.size) :=
  ⟨fun b o h => hb.cell (p := ⟨b, o, none⟩) h, fun b o h => hb.frozen (p := ⟨b, o, none⟩) h, fun _ h => Nat.lt_of_lt_of_le h hb.size⟩

theorem below_undrew {W w1 : World} (hb : Below W.drew.heap.size W.drew w1) : Below W.heap.size W w1 := ⟨hb.os, hb.tape, hb.output, hb.size, hb.block⟩

/-- A slot that leads to a vector in new memory. -/
def VAt (p q r : Option Nat) (B : Nat) (W : World) (v : Value) (w' : World) : Prop :=
  ∃ k a b c, v = .pointer (some ⟨k, 0, none⟩) ∧ B ≤ k ∧ k < w'.heap.size ∧ w'.cell? ⟨k, 0, none⟩ = some (.float .f32 a) ∧ w'.cell? ⟨k, 1, none⟩ = some (.float .f32 b) ∧ w'.cell? ⟨k, 2, none⟩ = some (.float .f32 c) ∧ Is .f32 p a ∧ Is .f32 q b ∧ Is .f32 r c ∧ Below B W w'

theorem vat_set {p q r : Option Nat} {B : Nat} {W w1 : World} {k a b c : Nat} (hB : B ≤ k) (hp : Is .f32 p a) (hq : Is .f32 q b) (hr : Is .f32 r c) (hb : Below B W w1)
    (d0 : (w1.cell? ⟨k, 0, none⟩).isSome = true) (d1 : (w1.cell? ⟨k, 1, none⟩).isSome = true) (d2 : (w1.cell? ⟨k, 2, none⟩).isSome = true) :
    VAt p q r B W (.pointer (some ⟨k, 0, none⟩)) (((w1.setCell ⟨k, 0, none⟩ (.float .f32 a)).setCell ⟨k, 1, none⟩ (.float .f32 b)).setCell ⟨k, 2, none⟩ (.float .f32 c)) := by
  obtain ⟨u0, c0⟩ := Option.isSome_iff_exists.1 d0
  obtain ⟨u1, c1⟩ := Option.isSome_iff_exists.1 d1
  obtain ⟨u2, c2⟩ := Option.isSome_iff_exists.1 d2
  have hk := World.block_lt_of_cell? w1 _ c0
  have e01 : (⟨k, 0, none⟩ : Addr) ≠ ⟨k, 1, none⟩ := by simp
  have e02 : (⟨k, 0, none⟩ : Addr) ≠ ⟨k, 2, none⟩ := by simp
  have e12 : (⟨k, 1, none⟩ : Addr) ≠ ⟨k, 2, none⟩ := by simp
  refine ⟨k, a, b, c, rfl, hB, by simpa using hk, ?_, ?_, ?_, hp, hq, hr, ((hb.setCell hB _).setCell hB _).setCell hB _⟩
  · rw [World.cell?_setCell_other _ _ _ _ e02.symm, World.cell?_setCell_other _ _ _ _ e01.symm]
    exact World.cell?_setCell_same _ _ _ c0
  · rw [World.cell?_setCell_other _ _ _ _ e12.symm]
    exact World.cell?_setCell_same _ _ _ ((World.cell?_setCell_other _ _ _ _ e01).trans c1)
  · exact World.cell?_setCell_same _ _ _ ((World.cell?_setCell_other _ _ _ _ e12).trans ((World.cell?_setCell_other _ _ _ _ e02).trans c2))

theorem vat_alloc {p q r : Option Nat} {B : Nat} {W w1 : World} {t a b c : Nat} (hB : B ≤ w1.heap.size) (hp : Is .f32 p a) (hq : Is .f32 q b) (hr : Is .f32 r c) (hb : Below B W w1) :
    VAt p q r B W (.pointer (some ⟨w1.heap.size, 0, none⟩)) (w1.alloc (.cells #[.float .f32 a, .float .f32 b, .float .f32 c] t)) :=
  ⟨_, a, b, c, rfl, hB, by simp, by simp, by simp, by simp, hp, hq, hr, hb.alloc hB _⟩

end Go.Proofs.Ytcclmlabcihdoaa
