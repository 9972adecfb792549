/-
  What the functions over vectors of three floats come to. Conditions: where two vectors are held to be the same, their bits are those of float32 numbers.
-/
import Derived.Test.YtfmlebjaopfelaaDoorBase
import Derived.Below
import Derived.Deep.RegionHeld3
import Derived.Deep.DeepCutAuto
namespace Go.Proofs.YtfmlebjaopfelaaDoor
open Go.RowKit Go.Proofs.YtfmlebjaopfelaaDoor.Fl

@[go_sem] theorem buildVec (a b c : Nat) (w : World) : (Instr.build 43 #[(0, .float .f32 a), (1, .float .f32 b), (2, .float .f32 c)]).run Tryd.prog w = .ok (.agg #[.float .f32 a, .float .f32 b, .float .f32 c]) w := run_build w 43 _ _ (by kernel_rfl)


theorem mkS2 {B p q : Nat} {W w' : World} (h : Below B W w') (hp : p < B) (hq : q < B) (hW : B ≤ W.heap.size) :
    (∀ o, w'.cell? ⟨p, o, none⟩ = W.cell? ⟨p, o, none⟩) ∧ (∀ o, w'.cell? ⟨q, o, none⟩ = W.cell? ⟨q, o, none⟩) ∧ B ≤ w'.heap.size ∧ Below B W w' :=
  ⟨fun o => h.cell (p := ⟨p, o, none⟩) hp, fun o => h.cell (p := ⟨q, o, none⟩) hq, Nat.le_trans hW h.size, h⟩

theorem bcell3 {W w1 : World} (hb : Below W.heap.size W w1) : (∀ b o, b < W.heap.size → w1.cell? ⟨b, o, none⟩ = W.cell? ⟨b, o, none⟩) ∧ (∀ b o, b < W.heap.size → w1.frozen? ⟨b, o, none⟩ = W.frozen? ⟨b, o, none⟩) ∧ (∀ n, n < W.heap.size → n < w1.heap.size) :=
  ⟨fun b o h => hb.cell (p := ⟨b, o, none⟩) h, fun b o h => hb.frozen (p := ⟨b, o, none⟩) h, fun _ h => Nat.lt_of_lt_of_le h hb.size⟩

theorem below_undrew {W w1 : World} (hb : Below W.drew.heap.size W.drew w1) : Below W.heap.size W w1 := ⟨hb.os, hb.tape, hb.output, hb.size, hb.block⟩

/-- A slot that leads to a vector in new memory. -/
def VAt (p q r : Option Nat) (B : Nat) (W : World) (v : Value) (w' : World) : Prop :=
  ∃ k a b c, v = .pointer (some ⟨k, 0, none⟩) ∧ B ≤ k ∧ k < w'.heap.size ∧ w'.cell? ⟨k, 0, none⟩ = some (.float .f32 a) ∧ w'.cell? ⟨k, 1, none⟩ = some (.float .f32 b) ∧ w'.cell? ⟨k, 2, none⟩ = some (.float .f32 c) ∧ Is .f32 p a ∧ Is .f32 q b ∧ Is .f32 r c ∧ Below B W w'

theorem vat_set {p q r : Option Nat} {B : Nat} {W w1 : World} {k a b c : Nat} (hB : B ≤ k) (hp : Is .f32 p a) (hq : Is .f32 q b) (hr : Is .f32 r c) (hb : Below B W w1)
    (d0 : (w1.cell? ⟨k, 0, none⟩).isSome = true) (d1 : (w1.cell? ⟨k, 1, none⟩).isSome = true) (d2 : (w1.cell? ⟨k, 2, none⟩).isSome = true) :
    VAt p q r B W (.pointer (some ⟨k, 0, none⟩)) (((w1.setCell ⟨k, 0, none⟩ (.float .f32 a)).setCell ⟨k, 1, none⟩ (.float .f32 b)).setCell ⟨k, 2, none⟩ (.float .f32 c)) := by
  obtain ⟨u0, c0⟩ := Option.isSome_iff_exists.1 d0
  obtain ⟨u1, c1⟩ := Option.isSome_iff_exists.1 d1
  obtain ⟨u2, c2⟩ := Option.isSome_iff_exists.1 d2
  have hk := World.block_lt_of_cell? w1 _ c0
  have e01 : (⟨k, 0, none⟩ : Addr) ≠ ⟨k, 1, none⟩ := by simp
  have e02 : (⟨k, 0, none⟩ : Addr) ≠ ⟨k, 2, none⟩ := by simp
  have e12 : (⟨k, 1, none⟩ : Addr) ≠ ⟨k, 2, none⟩ := by simp
  refine ⟨k, a, b, c, rfl, hB, by simpa using hk, ?_, ?_, ?_, hp, hq, hr, ((hb.setCell hB _).setCell hB _).setCell hB _⟩
  · rw [World.cell?_setCell_other _ _ _ _ e02.symm, World.cell?_setCell_other _ _ _ _ e01.symm]
    exact World.cell?_setCell_same _ _ _ c0
  · rw [World.cell?_setCell_other _ _ _ _ e12.symm]
    exact World.cell?_setCell_same _ _ _ ((World.cell?_setCell_other _ _ _ _ e01).trans c1)
  · exact World.cell?_setCell_same _ _ _ ((World.cell?_setCell_other _ _ _ _ e12).trans ((World.cell?_setCell_other _ _ _ _ e02).trans c2))

theorem vat_alloc {p q r : Option Nat} {B : Nat} {W w1 : World} {t a b c : Nat} (hB : B ≤ w1.heap.size) (hp : Is .f32 p a) (hq : Is .f32 q b) (hr : Is .f32 r c) (hb : Below B W w1) :
    VAt p q r B W (.pointer (some ⟨w1.heap.size, 0, none⟩)) (w1.alloc (.cells #[.float .f32 a, .float .f32 b, .float .f32 c] t)) :=
  ⟨_, a, b, c, rfl, hB, by simp, by simp, by simp, by simp, hp, hq, hr, hb.alloc hB _⟩

set_option maxHeartbeats 1000000 in
theorem eqVector_any (p q r : Option Nat) (a b c x y z : Nat) (w : World) (ha : Is .f32 p a) (hb : Is .f32 q b) (hc : Is .f32 r c) (hx : Is .f32 p x) (hy : Is .f32 q y) (hz : Is .f32 r z) :
    Calls Tryd.prog 29 #[.agg #[.float .f32 a, .float .f32 b, .float .f32 c], .agg #[.float .f32 x, .float .f32 y, .float .f32 z]] w (RetB (.bool true) w) := by
  go_enter Tryd.func29, Tryd.ntmps29
  go_wp2_with (first | (refine wpList_cv _ rfl _ _ _ rfl .f32 .f64 _ rfl (by rw [Tryd.underlying41]; rfl) Tryd.underlying59 (by first | assumption | exact rfl) (fits_widen _) ?_; intro r n hr) | (go_at_call 49; refine (same_any _ _ _ _ (by assumption) (by assumption)).mono ?_; rintro e w' ⟨rfl, n, rfl⟩))
  all_goals (go_ret; exact ⟨rfl, below_drewN (((Below.refl _ _).alloc (Nat.le_refl _) _).alloc (by first | omega | (simp; done) | (simp; omega)) _) _⟩)
end Go.Proofs.YtfmlebjaopfelaaDoor
