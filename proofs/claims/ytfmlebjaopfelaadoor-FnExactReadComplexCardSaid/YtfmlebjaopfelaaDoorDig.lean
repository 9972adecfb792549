/-
  Reading eight digits, the reference's own: the same number. Conditions: the text has eight letters.
-/
import Derived.Test.YtfmlebjaopfelaaDoorHexR
namespace Go.Proofs.YtfmlebjaopfelaaDoor
open Go.RowKit Go.Proofs.YtfmlebjaopfelaaDoor.Fl

set_option maxRecDepth 100000 in
set_option maxHeartbeats 4000000 in
theorem l01Digits_any (s : ByteArray) (w : World) (h8 : s.size = 8) : Calls Tryd.prog 52 #[.string s] w (RetN s.data.toList w) := by
  have hlen : s.data.toList.length = 8 := by rw [← h8]; simp
  go_enter Tryd.func52, Tryd.ntmps52
  go_wp2_with fail
  go_loop [4, 5] (fun nv kv => ∃ j n : Nat, j ≤ 8 ∧ kv = .int .i64 j ∧ nv = .int .i64 n ∧ Hid (hexK s.data.toList j = some n)) (fun _ kv => 8 - (intOf kv).toNat)
  case atStart => exact ⟨0, 0, by omega, rfl, rfl, rfl⟩
  case round =>
    obtain ⟨j, n, hj, rfl, rfl, Hj⟩ := hrel
    have hnb : n < 4294967296 := by
      have := hexK_bd Hj.out
      have h4 := Nat.pow_le_pow_right (show 0 < 16 by decide) hj
      omega
    by_cases hjl : j < 8
    · have hjp : j < s.size := by omega
      have hgb := get_byte s j hjp
      have hc256 : (s[j].toNat : Int) < 256 := by have := s[j].toNat_lt; omega
      by_cases hA : 48 ≤ (s[j].toNat : Int) ∧ (s[j].toNat : Int) ≤ 57
      · have hk1 : Hid (hexK s.data.toList (j + 1) = some (16 * n + (s[j].toNat - 48))) := hexK_succ Hj.out (by rw [hgb]; unfold hexV; rw [if_pos (by omega)])
        obtain ⟨a1, a2⟩ := hA
        have a3 : ¬ 97 ≤ (s[j].toNat : Int) := by omega
        go_wp2_with fail
        exact ⟨⟨j + 1, 16 * n + (s[j].toNat - 48), by omega, by go_num, by go_num, hk1⟩, by simp only [intOf]; omega⟩
      · by_cases hB : 97 ≤ (s[j].toNat : Int) ∧ (s[j].toNat : Int) ≤ 102
        · have hk1 : Hid (hexK s.data.toList (j + 1) = some (16 * n + (s[j].toNat - 97 + 10))) := hexK_succ Hj.out (by rw [hgb]; unfold hexV; rw [if_neg (by omega), if_pos (by omega)])
          obtain ⟨a1, a2⟩ := hB
          have a0 : 48 ≤ (s[j].toNat : Int) := by omega
          have a3 : ¬ (s[j].toNat : Int) ≤ 57 := by omega
          clear hA
          go_wp2_with fail
          exact ⟨⟨j + 1, 16 * n + (s[j].toNat - 97 + 10), by omega, by go_num, by go_num, hk1⟩, by simp only [intOf]; omega⟩
        · have hno : hexV s[j] = none := by unfold hexV; rw [if_neg (by omega), if_neg (by omega)]
          have hr : readH s.data.toList = none := readH_none (k := j) (by omega) (by rw [hgb]; exact hno)
          have Hr2 := hid hr
          clear hno hgb hr
          by_cases b1 : 48 ≤ (s[j].toNat : Int)
          · have b2 : ¬ (s[j].toNat : Int) ≤ 57 := fun h => hA ⟨b1, h⟩
            by_cases b3 : 97 ≤ (s[j].toNat : Int)
            · have b4 : ¬ (s[j].toNat : Int) ≤ 102 := fun h => hB ⟨b3, h⟩
              clear hA hB
              go_wp2_with fail
              go_ret2
              unfold RetN
              rw [Hr2.out]
              exact ⟨⟨_, rfl⟩, 0, rfl⟩
            · clear hA hB
              go_wp2_with fail
              go_ret2
              unfold RetN
              rw [Hr2.out]
              exact ⟨⟨_, rfl⟩, 0, rfl⟩
          · have b3 : ¬ 97 ≤ (s[j].toNat : Int) := by omega
            clear hA hB
            go_wp2_with fail
            go_ret2
            unfold RetN
            rw [Hr2.out]
            exact ⟨⟨_, rfl⟩, 0, rfl⟩
    · have hj8 : j = 8 := by omega
      subst hj8
      have hri := readH_is (l := s.data.toList) (n := n) hlen Hj.out
      have hnn : ((n : Int)).toNat = n := by simp
      cases hq : (bitsV (val .f32 n) == (n : Int)) with
      | false =>
        have hq2 : ¬ bitsV (val .f32 n) = (n : Int) := by simpa using hq
        have hr : readH s.data.toList = none := by rw [hri, if_neg hq2]
        have Hr2 := hid hr
        clear hri hr
        go_wp2_with (first
          | (go_at_call 62; refine (l01From_any _ _ (by omega) (by omega)).mono ?_; rw [hnn]; rintro e w2 ⟨rfl, m, rfl⟩)
          | (go_at_call 63; refine (l01Bits_any _ _ hnb).mono ?_; rintro e w2 ⟨rfl, m2, rfl⟩))
        go_ret2
        unfold RetN
        rw [Hr2.out]
        exact ⟨⟨_, rfl⟩, _, rfl⟩
      | true =>
        have hq2 : bitsV (val .f32 n) = (n : Int) := by simpa using hq
        have hr : readH s.data.toList = some n := by rw [hri, if_pos hq2]
        have Hr2 := hid hr
        clear hri hr
        go_wp2_with (first
          | (go_at_call 62; refine (l01From_any _ _ (by omega) (by omega)).mono ?_; rw [hnn]; rintro e w2 ⟨rfl, m, rfl⟩)
          | (go_at_call 63; refine (l01Bits_any _ _ hnb).mono ?_; rintro e w2 ⟨rfl, m2, rfl⟩))
        go_ret2
        unfold RetN
        rw [Hr2.out]
        exact ⟨rfl, _, rfl⟩
end Go.Proofs.YtfmlebjaopfelaaDoor
