/-
  Names and sums of letters: both sides come to the same of every text of at most 1048576 letters. No further conditions.
-/
import Derived.Test.YtfmlebjaopfelaaRows
import Derived.Test.YtfmlebjaopfelaaFl
import Derived.WalkSpells
import Derived.Below
namespace Go.Proofs.Ytfmlebjaopfelaa
open Go.RowKit Go.Proofs.Ytfmlebjaopfelaa.Fl

def letter (c : UInt8) : Bool := 97 ≤ (c.toNat : Int) && (c.toNat : Int) ≤ 122
/-- Whether a text is a name. -/
def named (s : ByteArray) : Bool := s.data.toList.all letter && (decide (1 ≤ (s.size : Int)) && decide ((s.size : Int) ≤ 8))
/-- A sum of letters. -/
def ck (c : Int) (l : List UInt8) : Int := l.foldl (fun c b => (787 * c + (b.toNat : Int) + 97) % 65003) c

theorem take_snoc (s : ByteArray) (k : Nat) (h : k < s.size) : s.data.toList.take (k + 1) = s.data.toList.take k ++ [s[k]] := by
  rw [List.take_succ_eq_append_getElem (by simpa using h)]; rfl
theorem take_all (s : ByteArray) : s.data.toList.take s.size = s.data.toList := List.take_of_length_le (by simp)

theorem ck_bd : ∀ (l : List UInt8) (c : Int), 0 ≤ c → c ≤ 65002 → 0 ≤ ck c l ∧ ck c l ≤ 65002
  | [], c, h0, h1 => ⟨h0, h1⟩
  | b :: l, c, h0, h1 => by
    have e : ck c (b :: l) = ck ((787 * c + (b.toNat : Int) + 97) % 65003) l := rfl
    rw [e]
    exact ck_bd l _ (by omega) (by omega)
theorem ck_snoc (c : Int) (l : List UInt8) (b : UInt8) : ck c (l ++ [b]) = (787 * ck c l + (b.toNat : Int) + 97) % 65003 := by
  unfold ck; rw [List.foldl_append]; rfl

theorem not_named (s : ByteArray) (k : Nat) (h : k < s.size) (hb : letter s[k] = false) : named s = false := by
  unfold named
  have : s.data.toList.all letter = false := by
    rw [List.all_eq_false]
    exact ⟨s[k], by simp [ByteArray.getElem_eq_getElem_data], by simp [hb]⟩
  rw [this]; rfl

set_option maxHeartbeats 800000 in
theorem specIsName_any (s : ByteArray) (w : World) (hs : s.size ≤ 1048576) : Calls Try.prog 7 #[.string s] w (Ret (.bool (named s)) w) := by
  go_enter Try.func7, Try.ntmps7
  go_wp2_with fail
  go_loop [3] (fun i => ∃ k : Nat, k ≤ s.size ∧ i = .int .i64 k ∧ Hid ((s.data.toList.take k).all letter = true)) (fun i => s.size - (intOf i).toNat)
  case atStart => exact ⟨0, Nat.zero_le _, rfl, by simp [Hid]⟩
  case round =>
    obtain ⟨k, hk, rfl, ha⟩ := hrel
    by_cases hlt : k < s.size
    · have hsn := take_snoc s k hlt
      by_cases hl : letter s[k] = true
      · have hl2 : 97 ≤ (s[k].toNat : Int) ∧ (s[k].toNat : Int) ≤ 122 := by simpa [letter] using hl
        have HS : Hid ((s.data.toList.take (k + 1)).all letter = true) := by show _ = _; rw [hsn, List.all_append, ha]; simp [hl]
        clear hsn hl
        obtain ⟨hl3, hl4⟩ := hl2
        go_wp2_with fail
        all_goals
          go_round
          case rel => exact ⟨k + 1, by omega, by go_num, HS⟩
          case measure => simp [intOf]; omega
      · have hf : letter s[k] = false := by simpa using hl
        have HN := hid (not_named s k hlt hf)
        have hl2 : (s[k].toNat : Int) < 97 ∨ 122 < (s[k].toNat : Int) := by simp [letter] at hf; omega
        clear hsn hl hf
        rcases hl2 with hl2 | hl2
        · go_wp2_with fail
          all_goals (go_ret; exact ⟨ret_bool (by rw [HN.out]), 0, rfl⟩)
        · have hl3 : ¬ (s[k].toNat : Int) < 97 := by omega
          go_wp2_with fail
          all_goals (go_ret; exact ⟨ret_bool (by rw [HN.out]), 0, rfl⟩)
    · have hkl : k = s.size := by omega
      have he : named s = (decide (1 ≤ (s.size : Int)) && decide ((s.size : Int) ≤ 8)) := by
        unfold named; rw [← take_all, ← hkl, ha]; rfl
      have He := hid he; clear he
      by_cases h1 : 1 ≤ (s.size : Int)
      · go_wp2_with fail
        all_goals (go_ret; exact ⟨ret_bool (by rw [He.out]; first | (simp [*]; done) | (simp; omega)), 0, rfl⟩)
      · go_wp2_with fail
        all_goals (go_ret; exact ⟨ret_bool (by rw [He.out]; first | (simp [*]; done) | (simp; omega)), 0, rfl⟩)

set_option maxHeartbeats 800000 in
theorem implIsName_any (s : ByteArray) (w : World) (hs : s.size ≤ 1048576) : Calls Try.prog 8 #[.string s] w (Ret (.bool (named s)) w) := by
  go_enter Try.func8, Try.ntmps8
  go_wp2_with fail
  go_loop [6] (fun i => ∃ k : Nat, k ≤ s.size ∧ i = .int .i64 k ∧ Hid ((s.data.toList.take k).all letter = true)) (fun i => s.size - (intOf i).toNat)
  case atStart => exact ⟨0, Nat.zero_le _, rfl, by simp [Hid]⟩
  case round =>
    obtain ⟨k, hk, rfl, ha⟩ := hrel
    by_cases hlt : k < s.size
    · have hsn := take_snoc s k hlt
      by_cases hl : letter s[k] = true
      · have hl2 : 97 ≤ (s[k].toNat : Int) ∧ (s[k].toNat : Int) ≤ 122 := by simpa [letter] using hl
        have HS : Hid ((s.data.toList.take (k + 1)).all letter = true) := by show _ = _; rw [hsn, List.all_append, ha]; simp [hl]
        clear hsn hl
        obtain ⟨hl3, hl4⟩ := hl2
        go_wp2_with fail
        all_goals
          go_round
          case rel => exact ⟨k + 1, by omega, by go_num, HS⟩
          case measure => simp [intOf]; omega
      · have hf : letter s[k] = false := by simpa using hl
        have HN := hid (not_named s k hlt hf)
        have hl2 : (s[k].toNat : Int) < 97 ∨ 122 < (s[k].toNat : Int) := by simp [letter] at hf; omega
        clear hsn hl hf
        rcases hl2 with hl2 | hl2
        · go_wp2_with fail
          all_goals (go_ret; exact ⟨ret_bool (by rw [HN.out]), 0, rfl⟩)
        · have hl3 : ¬ (s[k].toNat : Int) < 97 := by omega
          go_wp2_with fail
          all_goals (go_ret; exact ⟨ret_bool (by rw [HN.out]), 0, rfl⟩)
    · have hkl : k = s.size := by omega
      have he : named s = (decide (1 ≤ (s.size : Int)) && decide ((s.size : Int) ≤ 8)) := by
        unfold named; rw [← take_all, ← hkl, ha]; rfl
      have He := hid he; clear he
      by_cases h1 : 1 ≤ (s.size : Int)
      · go_wp2_with fail
        all_goals (go_ret; exact ⟨ret_bool (by rw [He.out]; first | (simp [*]; done) | (simp; omega)), 0, rfl⟩)
      · go_wp2_with fail
        all_goals (go_ret; exact ⟨ret_bool (by rw [He.out]; first | (simp [*]; done) | (simp; omega)), 0, rfl⟩)

theorem FnExactIsName_walk (s : ByteArray) (w : World) (hs : s.size ≤ maxLen) : Calls Try.prog 3 #[.string s] w (Yes w) := by
  unfold maxLen at hs
  by_cases h : s.size ≤ 1048576
  · go_enter Try.func3, Try.ntmps3
    go_wp2_with (first
      | (go_at_call 7; refine (specIsName_any s _ h).mono ?_; rintro e w' ⟨rfl, n, rfl⟩)
      | (go_at_call 8; refine (implIsName_any s _ h).mono ?_; rintro e w' ⟨rfl, n, rfl⟩))
    all_goals (go_ret; exact ⟨rfl, below_draws _ _⟩)
  · go_enter Try.func3, Try.ntmps3
    go_wp2_with fail
    all_goals (go_ret; exact ⟨rfl, Below.refl _ _⟩)
theorem l00In_any (a b c : Int) (w : World) : Calls Try.prog 18 #[.int .i64 a, .int .i64 b, .int .i64 c] w (Ret (.bool (decide (b ≤ a) && decide (a ≤ c))) w) := by
  by_cases h : b ≤ a
  · go_enter Try.func18, Try.ntmps18
    go_wp2_with fail
    all_goals (go_ret; exact ⟨ret_bool (by first | (simp [*]; done) | (simp; omega)), 0, rfl⟩)
  · go_enter Try.func18, Try.ntmps18
    go_wp2_with fail
    all_goals (go_ret; exact ⟨ret_bool (by first | (simp [*]; done) | (simp; omega)), 0, rfl⟩)
theorem in_any (a b c : Int) (w : World) : Calls Try.prog 20 #[.int .i64 a, .int .i64 b, .int .i64 c] w (Ret (.bool (decide (b ≤ a) && decide (a ≤ c))) w) := by
  by_cases h : b ≤ a
  · go_enter Try.func20, Try.ntmps20
    go_wp2_with fail
    all_goals (go_ret; exact ⟨ret_bool (by first | (simp [*]; done) | (simp; omega)), 0, rfl⟩)
  · go_enter Try.func20, Try.ntmps20
    go_wp2_with fail
    all_goals (go_ret; exact ⟨ret_bool (by first | (simp [*]; done) | (simp; omega)), 0, rfl⟩)

set_option maxHeartbeats 800000 in
theorem l01Check_any (c : Int) (s : ByteArray) (w : World) (hs : s.size ≤ 1048576) (h0 : 0 ≤ c) (h1 : c ≤ 65002) : Calls Try.prog 19 #[.int .i64 c, .string s] w (Ret (.int .i64 (ck c s.data.toList)) w) := by
  go_enter Try.func19, Try.ntmps19
  go_wp2_with fail
  go_loop [0, 5] (fun v i => ∃ k : Nat, k ≤ s.size ∧ i = .int .i64 k ∧ v = .int .i64 (ck c (s.data.toList.take k))) (fun _ i => s.size - (intOf i).toNat)
  case atStart => exact ⟨0, Nat.zero_le _, rfl, rfl⟩
  case round =>
    obtain ⟨k, hk, rfl, rfl⟩ := hrel
    by_cases hlt : k < s.size
    · have HS : Hid (ck c (s.data.toList.take (k + 1)) = (787 * ck c (s.data.toList.take k) + (s[k].toNat : Int) + 97) % 65003) := by show _ = _; rw [take_snoc s k hlt, ck_snoc]
      obtain ⟨hb0, hb1⟩ := ck_bd (s.data.toList.take k) c h0 h1
      have hc : (s[k].toNat : Int) < 256 := by have := s[k].toNat_lt; omega
      go_wp2_with fail
      go_round
      case rel => exact ⟨k + 1, by omega, by go_num, by rw [HS.out]⟩
      case measure => simp [intOf]; omega
    · have hkl : k = s.size := by omega
      subst hkl
      go_wp2_with fail
      go_ret
      exact ⟨congrArg (fun x => Ending.returned (.int .i64 (ck c x))) (take_all s), 0, rfl⟩

theorem no_in (c : Int) (h : ¬ (0 ≤ c ∧ c ≤ 65002)) : (decide ((0 : Int) ≤ c) && decide (c ≤ 65002)) = false := by simp; omega
theorem yes_in (c : Int) (h : 0 ≤ c ∧ c ≤ 65002) : (decide ((0 : Int) ≤ c) && decide (c ≤ 65002)) = true := by simp; omega

/-- What CheckOf returns. -/
def checked (c : Int) (s : ByteArray) : Value := if 0 ≤ c ∧ c ≤ 65002 then .tuple #[.int .i64 (ck c s.data.toList), .bool true] else .tuple #[.int .i64 0, .bool false]

theorem specCheckOf_any (c : Int) (s : ByteArray) (w : World) (hs : s.size ≤ 1048576) : Calls Try.prog 9 #[.int .i64 c, .string s] w (Ret (checked c s) w) := by
  by_cases h : 0 ≤ c ∧ c ≤ 65002
  · have he : checked c s = _ := if_pos h
    rw [he]
    have hy := yes_in c h
    go_enter Try.func9, Try.ntmps9
    go_wp2_with (first
      | (go_at_call 18; refine (l00In_any _ _ _ _).mono ?_; rw [hy]; rintro e w' ⟨rfl, n, rfl⟩)
      | (go_at_call 19; refine (l01Check_any _ _ _ hs h.1 h.2).mono ?_; rintro e w' ⟨rfl, n, rfl⟩))
    refine bodyPost_ret (v := .tuple #[.int .i64 (ck c s.data.toList), .bool true]) (by simp [results, Try.results9, go_sem]) rfl ⟨rfl, _, rfl⟩
  · have he : checked c s = _ := if_neg h
    rw [he]
    have hy := no_in c h
    go_enter Try.func9, Try.ntmps9
    go_wp2_with (go_at_call 18; refine (l00In_any _ _ _ _).mono ?_; rw [hy]; rintro e w' ⟨rfl, n, rfl⟩)
    refine bodyPost_ret (v := .tuple #[.int .i64 0, .bool false]) (by simp [results, Try.results9, go_sem]) rfl ⟨rfl, _, rfl⟩

set_option maxHeartbeats 800000 in
theorem implCheckOf_any (c : Int) (s : ByteArray) (w : World) (hs : s.size ≤ 1048576) : Calls Try.prog 10 #[.int .i64 c, .string s] w (Ret (checked c s) w) := by
  by_cases h : 0 ≤ c ∧ c ≤ 65002
  · have he : checked c s = _ := if_pos h
    rw [he]
    have hy := yes_in c h
    go_enter Try.func10, Try.ntmps10
    go_wp2_with (go_at_call 20; refine (in_any _ _ _ _).mono ?_; rw [hy]; rintro e w' ⟨rfl, n, rfl⟩)
    go_loop [0, 12] (fun v i => ∃ k : Nat, k ≤ s.size ∧ i = .int .i64 k ∧ v = .int .i64 (ck c (s.data.toList.take k))) (fun _ i => s.size - (intOf i).toNat)
    case atStart => exact ⟨0, Nat.zero_le _, rfl, rfl⟩
    case round =>
      obtain ⟨k, hk, rfl, rfl⟩ := hrel
      by_cases hlt : k < s.size
      · have HS : Hid (ck c (s.data.toList.take (k + 1)) = (787 * ck c (s.data.toList.take k) + (s[k].toNat : Int) + 97) % 65003) := by show _ = _; rw [take_snoc s k hlt, ck_snoc]
        obtain ⟨hb0, hb1⟩ := ck_bd (s.data.toList.take k) c h.1 h.2
        have hc : (s[k].toNat : Int) < 256 := by have := s[k].toNat_lt; omega
        go_wp2_with fail
        go_round
        case rel => exact ⟨k + 1, by omega, by go_num, by rw [HS.out]⟩
        case measure => simp [intOf]; omega
      · have hkl : k = s.size := by omega
        subst hkl
        go_wp2_with fail
        refine bodyPost_ret (v := .tuple #[.int .i64 (ck c (s.data.toList.take s.size)), .bool true]) (by simp [results, Try.results10, go_sem]) rfl ⟨by rw [take_all], _, rfl⟩
  · have he : checked c s = _ := if_neg h
    rw [he]
    have hy := no_in c h
    go_enter Try.func10, Try.ntmps10
    go_wp2_with (go_at_call 20; refine (in_any _ _ _ _).mono ?_; rw [hy]; rintro e w' ⟨rfl, n, rfl⟩)
    refine bodyPost_ret (v := .tuple #[.int .i64 0, .bool false]) (by simp [results, Try.results10, go_sem]) rfl ⟨rfl, _, rfl⟩

set_option maxHeartbeats 800000 in
theorem FnExactCheckOf_walk (c : Int) (s : ByteArray) (w : World) (_hc : (Lit.int .i64 c).wf = true) (hs : s.size ≤ maxLen) : Calls Try.prog 4 #[.int .i64 c, .string s] w (Yes w) := by
  unfold maxLen at hs
  clear _hc
  by_cases h : s.size ≤ 1048576
  · by_cases hc : 0 ≤ c ∧ c ≤ 65002
    · have he : checked c s = _ := if_pos hc
      go_enter Try.func4, Try.ntmps4
      go_wp2_with (first
        | (go_at_call 9; refine (specCheckOf_any _ s _ h).mono ?_; rw [he]; rintro e w' ⟨rfl, n, rfl⟩)
        | (go_at_call 10; refine (implCheckOf_any _ s _ h).mono ?_; rw [he]; rintro e w' ⟨rfl, n, rfl⟩))
      all_goals (go_ret; exact ⟨rfl, below_draws _ _⟩)
    · have he : checked c s = _ := if_neg hc
      go_enter Try.func4, Try.ntmps4
      go_wp2_with (first
        | (go_at_call 9; refine (specCheckOf_any _ s _ h).mono ?_; rw [he]; rintro e w' ⟨rfl, n, rfl⟩)
        | (go_at_call 10; refine (implCheckOf_any _ s _ h).mono ?_; rw [he]; rintro e w' ⟨rfl, n, rfl⟩))
      all_goals (go_ret; exact ⟨rfl, below_draws _ _⟩)
  · go_enter Try.func4, Try.ntmps4
    go_wp2_with fail
    all_goals (go_ret; exact ⟨rfl, Below.refl _ _⟩)
end Go.Proofs.Ytfmlebjaopfelaa
