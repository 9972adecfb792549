/-
  The eight digits of a number: both sides make the same text. Conditions: the bits are those of a float32.
-/
import Derived.Test.YtfmlebjaopfelaaBase
import Derived.Below
import Derived.Deep.RegionHeld3
import Derived.Deep.RegionWith
import Derived.Laws.IdiomStrings
import Derived.Maps.AppendAt
import Derived.Lib.Strings
import Derived.Lib.SmallJoins
namespace Go.Proofs.Ytfmlebjaopfelaa.Fl
open Go Go.RowKit

/-- The sixteen digits. -/
def hexL : List UInt8 := [48, 49, 50, 51, 52, 53, 54, 55, 56, 57, 97, 98, 99, 100, 101, 102]
/-- The place of the digit of n behind a shift by 28 - 4k. -/
def hexI (n : Int) (k : Nat) : Int := bits BinOp.and .i64 (n / (2 : Int) ^ (28 - 4 * k)) 15
def hexD (n : Int) (k : Nat) : UInt8 := hexL.getD (hexI n k).toNat 0
/-- The first k digits. -/
def hexs (n : Int) (k : Nat) : List UInt8 := (List.range k).map (hexD n)
/-- All eight. -/
def hexT (n : Int) : ByteArray := ⟨(hexs n 8).toArray⟩

theorem and_15 (m : Int) (h0 : 0 ≤ m) (h1 : m < 9223372036854775808) : bits BinOp.and .i64 m 15 = m % 16 := by
  have h := i64_and_nat m.toNat 15 (by omega) (by decide)
  have e : m.toNat &&& 15 = m.toNat % 16 := Nat.and_two_pow_sub_one_eq_mod m.toNat 4
  rw [e, Int.toNat_of_nonneg h0] at h
  rw [show (15 : Int) = ((15 : Nat) : Int) from rfl, h]
  omega

theorem hexI_eq (n : Int) (k : Nat) (h0 : 0 ≤ n) (h1 : n < 4294967296) : 0 ≤ hexI n k ∧ hexI n k < 16 := by
  unfold hexI
  have hp : (0 : Int) < (2 : Int) ^ (28 - 4 * k) := Int.pow_pos (by decide)
  have a := Int.ediv_nonneg h0 (Int.le_of_lt hp)
  have b := Int.ediv_le_self ((2 : Int) ^ (28 - 4 * k)) h0
  rw [and_15 _ a (by omega)]
  omega

theorem bitsV_bd (x : Nat) (hx : x < 4294967296) : 0 ≤ bitsV (val .f32 x) ∧ bitsV (val .f32 x) < 4294967296 := by
  unfold bitsV val
  split
  · omega
  · rename_i b h
    split at h
    · cases h
    · cases h; omega

theorem hexs_push (n : Int) (k : Nat) (h : (bits BinOp.and .i64 (n / (2 : Int) ^ (28 - 4 * k)) 15).toNat < (⟨#[48, 49, 50, 51, 52, 53, 54, 55, 56, 57, 97, 98, 99, 100, 101, 102]⟩ : ByteArray).size) :
    ((hexs n k).map fun b => Value.int .u8 (b.toNat : Int)) ++ [.int .u8 (((⟨#[48, 49, 50, 51, 52, 53, 54, 55, 56, 57, 97, 98, 99, 100, 101, 102]⟩ : ByteArray)[(bits BinOp.and .i64 (n / (2 : Int) ^ (28 - 4 * k)) 15).toNat]'h).toNat : Int)] = (hexs n (k + 1)).map fun b => Value.int .u8 (b.toNat : Int) := by
  have e : (⟨#[48, 49, 50, 51, 52, 53, 54, 55, 56, 57, 97, 98, 99, 100, 101, 102]⟩ : ByteArray)[(bits BinOp.and .i64 (n / (2 : Int) ^ (28 - 4 * k)) 15).toNat]'h = hexD n k := by
    unfold hexD hexL hexI
    rw [List.getD_eq_getElem?_getD, List.getElem?_eq_getElem (by exact h)]
    rfl
  rw [e]
  simp [hexs, List.range_succ]
end Go.Proofs.Ytfmlebjaopfelaa.Fl
namespace Go.Proofs.Ytfmlebjaopfelaa
open Go.RowKit Go.Proofs.Ytfmlebjaopfelaa.Fl

theorem infoB : (Try.prog.info? 5).map (fun i => (i.zero, i.size, i.bytes)) = some (some (.int .u8 0), 1, 1) := by kernel_rfl

/-- The digits, as a text. -/
def Told (x : Nat) (w : World) (e : Ending) (w' : World) : Prop := e = .returned (.string (hexT (bitsV (val .f32 x)))) ∧ Below w.heap.size w w'

set_option maxHeartbeats 2000000 in
theorem hexText_any (x : Nat) (w : World) (hx : x < 4294967296) : Calls Try.prog 26 #[.float .f32 x] w (Told x w) := by
  obtain ⟨i0, hi, hz0, hz1, hz2⟩ := info_parts infoB
  have HD : Hid (∀ k, 0 ≤ hexI (bitsV (val .f32 x)) k ∧ hexI (bitsV (val .f32 x)) k < 16) := fun k => hexI_eq _ k (bitsV_bd x hx).1 (bitsV_bd x hx).2
  go_enter Try.func26, Try.ntmps26
  go_wp2_with fail
  go_loopw [3, 4] (fun v i wr => ∃ k : Nat, k ≤ 8 ∧ ∃ sh : Int, sh = 28 - 4 * (k : Int) ∧ i = .int .i64 sh ∧ ∃ g cv, v = .slice (some ⟨g, 0, none⟩) k cv ∧ Hid (wr.ownsRow w.heap.size 5 1 v k ((hexs (bitsV (val .f32 x)) k).map fun b => Value.int .u8 (b.toNat : Int))) ∧ Hid (Below w.heap.size w wr)) (fun _ i _ => (intOf i + 4).toNat)
  case atStart => exact ⟨0, Nat.zero_le _, 28, rfl, rfl, _, _, rfl, World.ownsRow_lit _ _ 0 (Nat.le_refl _) (by unfold maxLen; omega) rfl, (Below.refl _ _).alloc (Nat.le_refl _) _⟩
  case round =>
    obtain ⟨k, hk, sh, hsh, rfl, g, cv, rfl, Ho, Hb⟩ := hrel
    by_cases hs0 : 0 ≤ sh
    · have hs1 : sh ≤ 28 := by omega
      obtain ⟨A1, A2⟩ := HD.out k
      unfold hexI at A1 A2
      have hbs := Hb.out.size
      go_wp2_with (first
        | (go_at_call 30; refine (implBitsOf_any _ _ hx).mono ?_; rintro e w' ⟨rfl, n, rfl⟩)
        | (at_builtin; refine wpList_append_own _ rfl _ _ 48 rfl w.heap.size 5 i0 (.int .u8 0) 1 1 Try.underlying48 hi hz0 hz1 hz2 rfl (by decide) _ _ _ rfl (Ho.out.alloc _) ⟨wr.heap.size, 0, none⟩ 1 1 [_] rfl rfl (cell_one_new _ _ _) (fun x hx => by simp at hx; subst hx; rfl) (by unfold maxLen; omega) (by omega) (by simp; omega) ?_; intro v' w3 hown' hgrow3 hnil3))
      rw [hexs_push] at hown'
      obtain ⟨g', c', rfl⟩ := Go.Joins.ownsRow_form hown' (by omega)
      exact ⟨⟨k + 1, by omega, 28 - 4 * (k : Int) - 4, by omega, rfl, g', c', rfl, hown', ((below_drewN Hb.out n).alloc (by simp; omega) _).grown hgrow3 (by simp; omega) (fun q hq => (Ho.out.lt q hq).1)⟩, by simp [intOf]; omega⟩
    · have hk8 : k = 8 := by omega
      subst hk8
      obtain rfl : sh = -4 := by omega
      have hcv := run_convert_bytes_back (P := Try.prog) wr 48 9 5 ⟨g, 0, none⟩ cv (hexs (bitsV (val .f32 x)) 8) Try.underlying48 Try.underlying5 Try.underlying9 (fun j hj => by
        have h8 : (hexs (bitsV (val .f32 x)) 8).length = 8 := by simp [hexs]
        have := Ho.out.cellAt j (by omega)
        rw [show (⟨g, 0, none⟩ : Addr).add j = ⟨g, j, none⟩ from by unfold Addr.add; split <;> simp_all, this]
        simp [hj])
      have h8 : (hexs (bitsV (val .f32 x)) 8).length = 8 := by simp [hexs]
      rw [h8] at hcv
      go_wp2_with fail
      go_ret
      exact ⟨rfl, Hb.out⟩
set_option maxHeartbeats 2000000 in
theorem l01Hex_any (x : Nat) (w : World) (hx : x < 4294967296) : Calls Try.prog 29 #[.float .f32 x] w (Told x w) := by
  obtain ⟨i0, hi, hz0, hz1, hz2⟩ := info_parts infoB
  have HD : Hid (∀ k, 0 ≤ hexI (bitsV (val .f32 x)) k ∧ hexI (bitsV (val .f32 x)) k < 16) := fun k => hexI_eq _ k (bitsV_bd x hx).1 (bitsV_bd x hx).2
  go_enter Try.func29, Try.ntmps29
  go_wp2_with (go_at_call 32; refine (l01Bits_any _ _ hx).mono ?_; rintro e w' ⟨rfl, n, rfl⟩)
  go_loopw [4, 5] (fun v i wr => ∃ k : Nat, k ≤ 8 ∧ ∃ sh : Int, sh = 28 - 4 * (k : Int) ∧ i = .int .i64 sh ∧ ∃ g cv, v = .slice (some ⟨g, 0, none⟩) k cv ∧ Hid (wr.ownsRow w.heap.size 5 1 v k ((hexs (bitsV (val .f32 x)) k).map fun b => Value.int .u8 (b.toNat : Int))) ∧ Hid (Below w.heap.size w wr)) (fun _ i _ => (intOf i + 4).toNat)
  case atStart => exact ⟨0, Nat.zero_le _, 28, rfl, rfl, _, _, rfl, World.ownsRow_lit _ _ 0 (Nat.le_refl _) (by unfold maxLen; omega) rfl, (below_drewN (Below.refl _ _) n).alloc (Nat.le_refl _) _⟩
  case round =>
    obtain ⟨k, hk, sh, hsh, rfl, g, cv, rfl, Ho, Hb⟩ := hrel
    by_cases hs0 : 0 ≤ sh
    · have hs1 : sh ≤ 28 := by omega
      obtain ⟨A1, A2⟩ := HD.out k
      unfold hexI at A1 A2
      have hbs := Hb.out.size
      go_wp2_with ((at_builtin; refine wpList_append_own _ rfl _ _ 48 rfl w.heap.size 5 i0 (.int .u8 0) 1 1 Try.underlying48 hi hz0 hz1 hz2 rfl (by decide) _ _ _ rfl (Ho.out.alloc _) ⟨wr.heap.size, 0, none⟩ 1 1 [_] rfl rfl (cell_one_new _ _ _) (fun x hx => by simp at hx; subst hx; rfl) (by unfold maxLen; omega) (by omega) (by simp; omega) ?_; intro v' w3 hown' hgrow3 hnil3))
      rw [hexs_push] at hown'
      obtain ⟨g', c', rfl⟩ := Go.Joins.ownsRow_form hown' (by omega)
      exact ⟨⟨k + 1, by omega, 28 - 4 * (k : Int) - 4, by omega, rfl, g', c', rfl, hown', (Hb.out.alloc (by omega) _).grown hgrow3 (by simp; omega) (fun q hq => (Ho.out.lt q hq).1)⟩, by simp [intOf]; omega⟩
    · have hk8 : k = 8 := by omega
      subst hk8
      obtain rfl : sh = -4 := by omega
      have hcv := run_convert_bytes_back (P := Try.prog) wr 48 9 5 ⟨g, 0, none⟩ cv (hexs (bitsV (val .f32 x)) 8) Try.underlying48 Try.underlying5 Try.underlying9 (fun j hj => by
        have h8 : (hexs (bitsV (val .f32 x)) 8).length = 8 := by simp [hexs]
        have := Ho.out.cellAt j (by omega)
        rw [show (⟨g, 0, none⟩ : Addr).add j = ⟨g, j, none⟩ from by unfold Addr.add; split <;> simp_all, this]
        simp [hj])
      have h8 : (hexs (bitsV (val .f32 x)) 8).length = 8 := by simp [hexs]
      rw [h8] at hcv
      go_wp2_with fail
      go_ret
      exact ⟨rfl, Hb.out⟩
end Go.Proofs.Ytfmlebjaopfelaa
