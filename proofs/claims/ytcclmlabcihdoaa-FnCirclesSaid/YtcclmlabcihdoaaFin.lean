/-
  Whether all numbers of a list are finite, and greater than 0: what the program's tests come to. Conditions: the cells of the list are known; a list has at most 1048576 numbers.
-/
import Derived.Test.YtcclmlabcihdoaaSinT
namespace Go.Proofs.Ytcclmlabcihdoaa.Fl
open Go

/-- Whether one of the first n numbers is bad. -/
def anyB (bad : Nat → Bool) (zs : List Nat) : Nat → Bool
  | 0 => false
  | n + 1 => anyB bad zs n || bad (zs.getD n 0)
theorem anyB_true {bad : Nat → Bool} {zs : List Nat} {k n : Nat} (hk : k < n) (h : bad (zs.getD k 0) = true) : anyB bad zs n = true := by
  induction n with
  | zero => omega
  | succ n ih =>
    unfold anyB
    by_cases e : k = n
    · subst e; rw [h, Bool.or_true]
    · rw [ih (by omega), Bool.true_or]

/-- The place of the first bad number, or -1. -/
def RetIdx (b : Bool) (w : World) (e : Ending) (w' : World) : Prop := ∃ i : Int, e = .returned (.int .i64 i) ∧ decide (0 ≤ i) = b ∧ ∃ m, w' = w.drewN m
def notFin (x : Nat) : Bool := !(fin (val .f32 x))
def notPos (x : Nat) : Bool := FloatKind.f32.format.order x 0 == some .lt || FloatKind.f32.format.order x 0 == some .eq
end Go.Proofs.Ytcclmlabcihdoaa.Fl
namespace Go.Proofs.Ytcclmlabcihdoaa
open Go.RowKit Go.Proofs.Ytcclmlabcihdoaa.Fl

theorem finite1_any (x : Nat) (w : World) : Calls Try.prog 94 #[.float .f32 x] w (Ret (.bool (notFin x)) w) := by
  go_enter Try.func94, Try.ntmps94
  go_wp2_with (go_at_call 58; refine (implIsFinite_any _ _).mono ?_; rintro e w' ⟨rfl, n, rfl⟩)
  go_ret
  exact ⟨rfl, _, rfl⟩

set_option maxHeartbeats 1000000 in
theorem indexFin_any (p n : Nat) (zs : List Nat) (w : World) (hn : n ≤ 1048576)
    (hz : ∀ i, i < n → w.cell? ⟨p, i, none⟩ = some (.float .f32 (zs.getD i 0))) :
    Calls Try.prog 96 #[.slice (some ⟨p, 0, none⟩) n n, .func (.func 94) #[] #[]] w (RetIdx (anyB notFin zs n) w) := by
  have hn' : (n : Int) ≤ 1048576 := by omega
  have Hz := hid hz
  clear hz
  go_enter Try.func96, Try.ntmps96
  go_wp2_with fail
  go_loopw [8] (fun i wr => ∃ k : Nat, k ≤ n ∧ i = .int .i64 k ∧ anyB notFin zs k = false ∧ ∃ m, wr = w.drewN m) (fun i _ => n - (intOf i).toNat)
  case atStart => exact ⟨0, Nat.zero_le _, rfl, rfl, 0, rfl⟩
  case round =>
    obtain ⟨k, hk, rfl, hs, m, rfl⟩ := hrel
    by_cases hlt : k < n
    · have c1 := Hz.out k hlt
      have hsn : anyB notFin zs (k + 1) = (anyB notFin zs k || notFin (zs.getD k 0)) := rfl
      rw [hs, Bool.false_or] at hsn
      have hfl : notFin (zs.getD k 0) = true → anyB notFin zs n = true := anyB_true hlt
      have Hsn := hid hsn; have Hfl := hid hfl; clear hsn hs hfl
      generalize zs.getD k 0 = z at *
      cases hb : notFin z with
      | true =>
        go_wp2_with fail
        refine (finite1_any _ _).mono ?_
        rintro e w' ⟨rfl, j, rfl⟩
        go_wp2_with fail
        go_ret
        exact ⟨_, rfl, (decide_eq_true (by omega)).trans (Hfl.out hb).symm, _, rfl⟩
      | false =>
        go_wp2_with fail
        refine (finite1_any _ _).mono ?_
        rintro e w' ⟨rfl, j, rfl⟩
        go_wp2_with fail
        exact ⟨⟨k + 1, by omega, by go_num, Hsn.out.trans hb, _, rfl⟩, by simp [intOf]; omega⟩
    · have hkn : k = n := by omega
      have Hs := hid hs; clear hs
      go_wp2_with fail
      go_ret
      exact ⟨_, rfl, (by rw [← hkn]; exact Hs.out.symm), _, rfl⟩

theorem containsFin_any (p n : Nat) (zs : List Nat) (w : World) (hn : n ≤ 1048576)
    (hz : ∀ i, i < n → w.cell? ⟨p, i, none⟩ = some (.float .f32 (zs.getD i 0))) :
    Calls Try.prog 78 #[.slice (some ⟨p, 0, none⟩) n n, .func (.func 94) #[] #[]] w (Ret (.bool (anyB notFin zs n)) w) := by
  have Hz := hid hz
  clear hz
  go_enter Try.func78, Try.ntmps78
  go_wp2_with fail
  refine (indexFin_any p n zs _ hn Hz.out).mono ?_
  rintro e w' ⟨i, rfl, hi, m, rfl⟩
  have Hi := hid hi
  clear hi
  go_wp2_with fail
  go_ret
  exact ⟨ret_bool Hi.out, _, rfl⟩

theorem finite_any (p n : Nat) (zs : List Nat) (w : World) (hn : n ≤ 1048576) (hz : ∀ i, i < n → w.cell? ⟨p, i, none⟩ = some (.float .f32 (zs.getD i 0))) :
    Calls Try.prog 73 #[.slice (some ⟨p, 0, none⟩) n n] w (Ret (.bool (!(anyB notFin zs n))) w) := by
  have Hz := hid hz
  clear hz
  go_enter Try.func73, Try.ntmps73
  go_wp2_with fail
  refine (containsFin_any p n zs _ hn Hz.out).mono ?_
  rintro e w' ⟨rfl, m, rfl⟩
  go_wp2_with fail
  go_ret
  exact ⟨rfl, _, rfl⟩

theorem length1_any (x : Nat) (w : World) : Calls Try.prog 79 #[.float .f32 x] w (Ret (.bool (notPos x)) w) := by
  go_enter Try.func79, Try.ntmps79
  go_wp2_with fail
  go_ret
  exact ⟨rfl, 0, rfl⟩

set_option maxHeartbeats 1000000 in
theorem indexPos_any (p n : Nat) (zs : List Nat) (w : World) (hn : n ≤ 1048576)
    (hz : ∀ i, i < n → w.cell? ⟨p, i, none⟩ = some (.float .f32 (zs.getD i 0))) :
    Calls Try.prog 96 #[.slice (some ⟨p, 0, none⟩) n n, .func (.func 79) #[] #[]] w (RetIdx (anyB notPos zs n) w) := by
  have hn' : (n : Int) ≤ 1048576 := by omega
  have Hz := hid hz
  clear hz
  go_enter Try.func96, Try.ntmps96
  go_wp2_with fail
  go_loopw [8] (fun i wr => ∃ k : Nat, k ≤ n ∧ i = .int .i64 k ∧ anyB notPos zs k = false ∧ ∃ m, wr = w.drewN m) (fun i _ => n - (intOf i).toNat)
  case atStart => exact ⟨0, Nat.zero_le _, rfl, rfl, 0, rfl⟩
  case round =>
    obtain ⟨k, hk, rfl, hs, m, rfl⟩ := hrel
    by_cases hlt : k < n
    · have c1 := Hz.out k hlt
      have hsn : anyB notPos zs (k + 1) = (anyB notPos zs k || notPos (zs.getD k 0)) := rfl
      rw [hs, Bool.false_or] at hsn
      have hfl : notPos (zs.getD k 0) = true → anyB notPos zs n = true := anyB_true hlt
      have Hsn := hid hsn; have Hfl := hid hfl; clear hsn hs hfl
      generalize zs.getD k 0 = z at *
      cases hb : notPos z with
      | true =>
        go_wp2_with fail
        refine (length1_any _ _).mono ?_
        rintro e w' ⟨rfl, j, rfl⟩
        go_wp2_with fail
        go_ret
        exact ⟨_, rfl, (decide_eq_true (by omega)).trans (Hfl.out hb).symm, _, rfl⟩
      | false =>
        go_wp2_with fail
        refine (length1_any _ _).mono ?_
        rintro e w' ⟨rfl, j, rfl⟩
        go_wp2_with fail
        exact ⟨⟨k + 1, by omega, by go_num, Hsn.out.trans hb, _, rfl⟩, by simp [intOf]; omega⟩
    · have hkn : k = n := by omega
      have Hs := hid hs; clear hs
      go_wp2_with fail
      go_ret
      exact ⟨_, rfl, (by rw [← hkn]; exact Hs.out.symm), _, rfl⟩

theorem containsPos_any (p n : Nat) (zs : List Nat) (w : World) (hn : n ≤ 1048576)
    (hz : ∀ i, i < n → w.cell? ⟨p, i, none⟩ = some (.float .f32 (zs.getD i 0))) :
    Calls Try.prog 78 #[.slice (some ⟨p, 0, none⟩) n n, .func (.func 79) #[] #[]] w (Ret (.bool (anyB notPos zs n)) w) := by
  have Hz := hid hz
  clear hz
  go_enter Try.func78, Try.ntmps78
  go_wp2_with fail
  refine (indexPos_any p n zs _ hn Hz.out).mono ?_
  rintro e w' ⟨i, rfl, hi, m, rfl⟩
  have Hi := hid hi
  clear hi
  go_wp2_with fail
  go_ret
  exact ⟨ret_bool Hi.out, _, rfl⟩

theorem lengthOk_any (p n : Nat) (zs : List Nat) (w : World) (hn : n ≤ 1048576) (hz : ∀ i, i < n → w.cell? ⟨p, i, none⟩ = some (.float .f32 (zs.getD i 0))) :
    Calls Try.prog 50 #[.slice (some ⟨p, 0, none⟩) n n] w (Ret (.bool (!(anyB notFin zs n) && !(anyB notPos zs n))) w) := by
  have Hz := hid hz
  clear hz
  cases hf : anyB notFin zs n with
  | true =>
    go_enter Try.func50, Try.ntmps50
    go_wp2_with fail
    refine (finite_any p n zs _ hn Hz.out).mono ?_
    rw [hf]
    rintro e w' ⟨rfl, m, rfl⟩
    go_wp2_with fail
    go_ret
    exact ⟨rfl, _, rfl⟩
  | false =>
    go_enter Try.func50, Try.ntmps50
    go_wp2_with fail
    refine (finite_any p n zs _ hn Hz.out).mono ?_
    rw [hf]
    rintro e w' ⟨rfl, m, rfl⟩
    go_wp2_with fail
    refine (containsPos_any p n zs (w.drewN m) hn Hz.out).mono ?_
    rintro e w' ⟨rfl, m2, rfl⟩
    go_wp2_with fail
    go_ret
    exact ⟨rfl, _, rfl⟩
end Go.Proofs.Ytcclmlabcihdoaa
