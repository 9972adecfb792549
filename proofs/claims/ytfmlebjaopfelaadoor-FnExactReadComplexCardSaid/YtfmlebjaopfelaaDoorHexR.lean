/-
  Reading eight digits: what both sides make of them. Conditions: a text has at most 1048576 letters.
-/
import Derived.Test.YtfmlebjaopfelaaDoorNum
import Derived.Test.YtfmlebjaopfelaaDoorShelf
import Derived.Lib.Bytealg
namespace Go.Proofs.YtfmlebjaopfelaaDoor.Fl
open Go Go.RowKit

/-- The value of a digit. -/
def hexV (c : UInt8) : Option Nat := if 48 ≤ c.toNat ∧ c.toNat ≤ 57 then some (c.toNat - 48) else if 97 ≤ c.toNat ∧ c.toNat ≤ 102 then some (c.toNat - 97 + 10) else none
def hexL16 : List UInt8 := [48, 49, 50, 51, 52, 53, 54, 55, 56, 57, 97, 98, 99, 100, 101, 102]
theorem index_hex_fin : ∀ i : Fin 256, Lib.indexByte hexL16 (UInt8.ofNat i.val) = (match hexV (UInt8.ofNat i.val) with | some d => (d : Int) | none => -1) := by decide +kernel
theorem index_hex (c : UInt8) : Lib.indexByte hexL16 c = (match hexV c with | some d => (d : Int) | none => -1) := by
  have h := index_hex_fin ⟨c.toNat, c.toNat_lt⟩
  simpa using h
theorem hexV_lt {c : UInt8} {d : Nat} (h : hexV c = some d) : d < 16 := by
  unfold hexV at h
  split at h
  · cases h; omega
  · split at h
    · cases h; omega
    · cases h

/-- The number that the first k digits spell. -/
def hexK (l : List UInt8) : Nat → Option Nat
  | 0 => some 0
  | k + 1 => match hexK l k, hexV (l.getD k 0) with
    | some n, some d => some (16 * n + d)
    | _, _ => none
theorem hexK_bd {l : List UInt8} : ∀ {k n : Nat}, hexK l k = some n → n < 16 ^ k
  | 0, n, h => by cases h; decide
  | k + 1, n, h => by
    unfold hexK at h
    cases h1 : hexK l k with
    | none => rw [h1] at h; cases h
    | some m =>
      cases h2 : hexV (l.getD k 0) with
      | none => rw [h1, h2] at h; cases h
      | some d =>
        rw [h1, h2] at h
        cases h
        have := hexK_bd h1
        have := hexV_lt h2
        rw [Nat.pow_succ]
        omega
theorem hexK_none {l : List UInt8} {k : Nat} : ∀ {n : Nat}, k < n → hexV (l.getD k 0) = none → hexK l n = none
  | 0, hk, _ => by omega
  | n + 1, hk, h => by
    unfold hexK
    by_cases e : k = n
    · subst e; rw [h]; cases hexK l k <;> rfl
    · rw [hexK_none (by omega) h]
theorem hexK_succ {l : List UInt8} {k n d : Nat} (h : hexK l k = some n) (h2 : hexV (l.getD k 0) = some d) : hexK l (k + 1) = some (16 * n + d) := by
  rw [hexK, h, h2]

/-- The bits of the number with eight digits. -/
def readH (l : List UInt8) : Option Nat := if l.length = 8 then match hexK l 8 with
  | some n => if bitsV (val .f32 n) = (n : Int) then some n else none
  | none => none
  else none
theorem readH_len {l : List UInt8} (h : l.length ≠ 8) : readH l = none := if_neg h
theorem readH_none {l : List UInt8} {k : Nat} (hk : k < 8) (h : hexV (l.getD k 0) = none) : readH l = none := by
  unfold readH
  split
  · rw [hexK_none hk h]
  · rfl
theorem readH_is {l : List UInt8} {n : Nat} (hl : l.length = 8) (h : hexK l 8 = some n) : readH l = if bitsV (val .f32 n) = (n : Int) then some n else none := by
  unfold readH
  rw [if_pos hl, h]
end Go.Proofs.YtfmlebjaopfelaaDoor.Fl
namespace Go.Proofs.YtfmlebjaopfelaaDoor
open Go.RowKit Go.Proofs.YtfmlebjaopfelaaDoor.Fl

/-- What reading one number ends in. -/
def RetN (l : List UInt8) (w : World) (e : Ending) (w' : World) : Prop := (match readH l with
  | some n => e = .returned (.tuple #[.float .f32 n, .bool true])
  | none => ∃ x, e = .returned (.tuple #[.float .f32 x, .bool false])) ∧ ∃ m, w' = w.drewN m

theorem get_byte (s : ByteArray) (k : Nat) (h : k < s.size) : s.data.toList.getD k 0 = s[k] := by
  have : s.data.toList[k]? = some s[k] := List.getElem?_eq_getElem (by simpa using h)
  simp [List.getD, this]

theorem byte_back (c : UInt8) : ((c.toNat : Int)).toNat.toUInt8 = c := by simp

set_option maxRecDepth 100000 in
set_option maxHeartbeats 2000000 in
theorem readNumber_any (s : ByteArray) (w : World) (hs : s.size ≤ 1048576) : Calls Tryd.prog 37 #[.string s] w (RetN s.data.toList w) := by
  have hlen : s.data.toList.length = s.size := by simp
  go_enter Tryd.func37, Tryd.ntmps37
  go_wp2_with fail
  go_loop [4, 11] (fun v i => ∃ k n : Nat, k ≤ s.size ∧ k ≤ 8 ∧ i = .int .i64 k ∧ v = .int .i64 n ∧ Hid (hexK s.data.toList k = some n)) (fun _ i => s.size - (intOf i).toNat)
  case atStart => exact ⟨0, 0, Nat.zero_le _, by omega, rfl, rfl, rfl⟩
  case round =>
    obtain ⟨k, n, hk, hk8, rfl, rfl, Hk⟩ := hrel
    have hnb : n < 4294967296 := by
      have := hexK_bd Hk.out
      have h4 := Nat.pow_le_pow_right (show 0 < 16 by decide) hk8
      omega
    by_cases hlt : k < s.size
    · have hg := get_byte s k hlt
      have hix := index_hex s[k]
      cases hv : hexV s[k] with
      | none =>
        rw [hv] at hix
        have hr : readH s.data.toList = none := by
          by_cases h8 : k = 8
          · exact readH_len (by omega)
          · exact readH_none (k := k) (by omega) (by rw [hg]; exact hv)
        have Hr := hid hr; clear hr hg hv
        have hixl : Lib.indexByte (⟨#[48, 49, 50, 51, 52, 53, 54, 55, 56, 57, 97, 98, 99, 100, 101, 102]⟩ : ByteArray).data.toList ((s[k].toNat : Int)).toNat.toUInt8 = -1 := by rw [byte_back]; exact hix
        have Hix := hid hixl; clear hixl hix
        go_wp2_with (go_at_call 54; refine (Tryd.strings_IndexByte _ _ _).mono ?_; rw [Hix.out]; rintro e w' ⟨rfl, hw⟩; obtain rfl := hw.symm)
        go_ret2
        unfold RetN
        rw [Hr.out]
        exact ⟨⟨0, rfl⟩, 0, rfl⟩
      | some d =>
        rw [hv] at hix
        have hd16 := hexV_lt hv
        have hixl : Lib.indexByte (⟨#[48, 49, 50, 51, 52, 53, 54, 55, 56, 57, 97, 98, 99, 100, 101, 102]⟩ : ByteArray).data.toList ((s[k].toNat : Int)).toNat.toUInt8 = (d : Int) := by rw [byte_back]; exact hix
        have Hix := hid hixl; clear hixl hix
        by_cases h8 : (k : Int) = 8
        · have hr : readH s.data.toList = none := readH_len (by omega)
          have Hr := hid hr; clear hr hg hv
          have h8b : ((k : Int) == 8) = true := by simpa using h8
          clear h8
          go_wp2_with (go_at_call 54; refine (Tryd.strings_IndexByte _ _ _).mono ?_; rw [Hix.out]; rintro e w' ⟨rfl, hw⟩; obtain rfl := hw.symm)
          go_ret2
          unfold RetN
          rw [Hr.out]
          exact ⟨⟨0, rfl⟩, 0, rfl⟩
        · have hk1 : Hid (hexK s.data.toList (k + 1) = some (16 * n + d)) := hexK_succ Hk.out (by rw [hg]; exact hv)
          have hk8' : k + 1 ≤ 8 := by omega
          have h8f : ((k : Int) == 8) = false := by simpa using h8
          have hd0 : decide ((d : Int) < 0) = false := decide_eq_false (by omega)
          clear hg hv h8
          go_wp2_with (go_at_call 54; refine (Tryd.strings_IndexByte _ _ _).mono ?_; rw [Hix.out]; rintro e w' ⟨rfl, hw⟩; obtain rfl := hw.symm)
          have hmul : (n : Int) * 16 + (d : Int) = ((16 * n + d : Nat) : Int) := by omega
          exact ⟨⟨k + 1, 16 * n + d, by omega, by omega, by go_num, by rw [hmul], hk1⟩, by simp only [intOf]; omega⟩
    · have hkl : k = s.size := by omega
      subst hkl
      have hb : bitsNat (n : Int) = n := by
        have e3 : inBits (n : Int) = true := decide_eq_true (by omega)
        unfold bitsNat; rw [e3]; simp
      have Hb := hid hb; clear hb
      by_cases h8 : ((s.size : Int) == 8) = true
      · have h8' : s.size = 8 := by have := eq_of_beq h8; omega
        have hr := readH_is (l := s.data.toList) (n := n) (by omega) (by rw [← h8']; exact Hk.out)
        have Hr := hid hr; clear hr h8'
        cases hq : (bitsV (val .f32 n) == (n : Int)) with
        | true =>
          have hq2 : bitsV (val .f32 n) = (n : Int) := by simpa using hq
          go_wp2_with (first
            | (go_at_call 55; refine (implFromBits_any _ _).mono ?_; rw [Hb.out]; rintro e w' ⟨rfl, m, rfl⟩)
            | (go_at_call 56; refine (implBitsOf_any _ _ hnb).mono ?_; rintro e w' ⟨rfl, m2, rfl⟩))
          go_ret2
          unfold RetN
          rw [Hr.out, if_pos hq2]
          exact ⟨rfl, _, rfl⟩
        | false =>
          have hq2 : ¬ bitsV (val .f32 n) = (n : Int) := by simpa using hq
          go_wp2_with (first
            | (go_at_call 55; refine (implFromBits_any _ _).mono ?_; rw [Hb.out]; rintro e w' ⟨rfl, m, rfl⟩)
            | (go_at_call 56; refine (implBitsOf_any _ _ hnb).mono ?_; rintro e w' ⟨rfl, m2, rfl⟩))
          go_ret2
          unfold RetN
          rw [Hr.out, if_neg hq2]
          exact ⟨⟨_, rfl⟩, _, rfl⟩
      · have h8f : ((s.size : Int) == 8) = false := by simpa using h8
        have h8' : ¬ s.size = 8 := by intro h; rw [h] at h8f; exact absurd h8f (by decide)
        have hr : readH s.data.toList = none := readH_len (by omega)
        have Hr := hid hr; clear hr h8 h8'
        go_wp2_with (first
          | (go_at_call 55; refine (implFromBits_any _ _).mono ?_; rw [Hb.out]; rintro e w' ⟨rfl, m, rfl⟩))
        go_ret2
        unfold RetN
        rw [Hr.out]
        exact ⟨⟨_, rfl⟩, _, rfl⟩
end Go.Proofs.YtfmlebjaopfelaaDoor
