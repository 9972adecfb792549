/-
  Whether two vectors are the same: what both sides come to, and the walk of the law. Conditions: the bits of each number are those of a float32.
-/
import Derived.Test.YtppodhfkmdojoaaVec
namespace Go.Proofs.Ytppodhfkmdojoaa
open Go.RowKit Go.Proofs.Ytppodhfkmdojoaa.Fl

/-- Whether two float32 numbers are the same, by their bits. -/
def sameB (z u : Nat) : Bool := bitsV (val .f32 z) == bitsV (val .f32 u)

/-- Whether the first n numbers of two lists are the same. -/
def allSame (zs us : List Nat) : Nat → Bool
  | 0 => true
  | n + 1 => allSame zs us n && sameB (zs.getD n 0) (us.getD n 0)

theorem allSame_false {zs us : List Nat} {k n : Nat} (hk : k < n) (h : sameB (zs.getD k 0) (us.getD k 0) = false) : allSame zs us n = false := by
  induction n with
  | zero => omega
  | succ n ih =>
    unfold allSame
    by_cases e : k = n
    · subst e; rw [h, Bool.and_false]
    · rw [ih (by omega), Bool.false_and]

set_option maxHeartbeats 1000000 in
theorem equalFunc_any (p q n : Nat) (zs us : List Nat) (w : World) (hn : n ≤ 1048576) (hz : ∀ i, i < n → w.cell? ⟨p, i, none⟩ = some (.float .f32 (zs.getD i 0))) (hu : ∀ i, i < n → w.cell? ⟨q, i, none⟩ = some (.float .f32 (us.getD i 0)))
    (bz : ∀ i, zs.getD i 0 < 4294967296) (bu : ∀ i, us.getD i 0 < 4294967296) :
    Calls Try.prog 53 #[.slice (some ⟨p, 0, none⟩) n n, .slice (some ⟨q, 0, none⟩) n n, .func (.func 54) #[] #[]] w (Ret (.bool (allSame zs us n)) w) := by
  have hn' : (n : Int) ≤ 1048576 := by omega
  have Hz := hid hz; have Hu := hid hu; have Bz := hid bz; have Bu := hid bu
  clear hz hu bz bu
  go_enter Try.func53, Try.ntmps53
  go_wp2_with fail
  go_loopw [17] (fun i wr => ∃ k : Nat, k ≤ n ∧ i = .int .i64 k ∧ allSame zs us k = true ∧ ∃ m, wr = w.drewN m) (fun i _ => n - (intOf i).toNat)
  case atStart => exact ⟨0, Nat.zero_le _, rfl, rfl, 0, rfl⟩
  case round =>
    obtain ⟨k, hk, rfl, hs, m, rfl⟩ := hrel
    by_cases hlt : k < n
    · have c1 := Hz.out k hlt
      have c2 := Hu.out k hlt
      have b1 := Bz.out k
      have b2 := Bu.out k
      have hsn : allSame zs us (k + 1) = (allSame zs us k && sameB (zs.getD k 0) (us.getD k 0)) := rfl
      rw [hs, Bool.true_and] at hsn
      have hfl : sameB (zs.getD k 0) (us.getD k 0) = false → allSame zs us n = false := allSame_false hlt
      have Hsn := hid hsn; have Hfl := hid hfl; clear hsn hs hfl
      generalize zs.getD k 0 = z at *
      generalize us.getD k 0 = u at *
      cases hb : (bitsV (val .f32 z) == bitsV (val .f32 u)) with
      | false =>
        go_wp2_with (go_at_call 54; refine (implSameNumber_any _ _ _ b1 b2).mono ?_; rintro e w' ⟨rfl, j, rfl⟩)
        go_ret
        exact ⟨ret_bool (Hfl.out hb).symm, _, rfl⟩
      | true =>
        go_wp2_with (go_at_call 54; refine (implSameNumber_any _ _ _ b1 b2).mono ?_; rintro e w' ⟨rfl, j, rfl⟩)
        exact ⟨⟨k + 1, by omega, by go_num, Hsn.out.trans hb, _, rfl⟩, by simp [intOf]; omega⟩
    · have hkn : k = n := by omega
      have Hs := hid hs; clear hs
      go_wp2_with fail
      go_ret
      exact ⟨ret_bool (by rw [← hkn]; exact Hs.out.symm), _, rfl⟩

theorem sameList_any (p q n : Nat) (zs us : List Nat) (w : World) (hn : n ≤ 1048576) (hz : ∀ i, i < n → w.cell? ⟨p, i, none⟩ = some (.float .f32 (zs.getD i 0))) (hu : ∀ i, i < n → w.cell? ⟨q, i, none⟩ = some (.float .f32 (us.getD i 0)))
    (bz : ∀ i, zs.getD i 0 < 4294967296) (bu : ∀ i, us.getD i 0 < 4294967296) :
    Calls Try.prog 47 #[.slice (some ⟨p, 0, none⟩) n n, .slice (some ⟨q, 0, none⟩) n n] w (Ret (.bool (allSame zs us n)) w) := by
  have Hz := hid hz; have Hu := hid hu; have Bz := hid bz; have Bu := hid bu
  clear hz hu bz bu
  go_enter Try.func47, Try.ntmps47
  go_wp2_with (go_at_call 53; refine (equalFunc_any _ _ _ _ _ _ hn Hz.out Hu.out Bz.out Bu.out).mono ?_; rintro e w' ⟨rfl, j, rfl⟩)
  go_ret
  exact ⟨rfl, _, rfl⟩

theorem numbers_exact (x y z : Nat) (w : World) : Calls Try.prog 48 #[.agg #[.float .f32 x, .float .f32 y, .float .f32 z]] w fun e w' => e = .returned (.slice (some ⟨w.heap.size + 1, 0, none⟩) 3 3) ∧ w' = (w.alloc (.cells #[.float .f32 x, .float .f32 y, .float .f32 z] 33)).alloc (.cells #[.float .f32 x, .float .f32 y, .float .f32 z] 22) := by
  go_enter Try.func48, Try.ntmps48
  go_wp2_with fail
  go_ret
  exact ⟨rfl, rfl⟩

def same3 (a b c x y z : Nat) : Bool := sameB a x && sameB b y && sameB c z
theorem allSame3 (a b c x y z : Nat) : allSame [a, b, c] [x, y, z] 3 = same3 a b c x y z := rfl

theorem three_cells {w : World} {p a b c : Nat} (h0 : w.cell? ⟨p, 0, none⟩ = some (.float .f32 a)) (h1 : w.cell? ⟨p, 1, none⟩ = some (.float .f32 b)) (h2 : w.cell? ⟨p, 2, none⟩ = some (.float .f32 c)) :
    ∀ i, i < 3 → w.cell? ⟨p, i, none⟩ = some (.float .f32 ([a, b, c].getD i 0)) := by
  intro i hi
  match i, hi with
  | 0, _ => exact h0
  | 1, _ => exact h1
  | 2, _ => exact h2
theorem three_bits {a b c : Nat} (ha : a < 4294967296) (hb : b < 4294967296) (hc : c < 4294967296) : ∀ i, [a, b, c].getD i 0 < 4294967296 := by
  intro i
  match i with
  | 0 => exact ha
  | 1 => exact hb
  | 2 => exact hc
  | i + 3 => simp

set_option maxHeartbeats 1000000 in
theorem implSameVector_any (a b c x y z : Nat) (w : World) (ha : a < 4294967296) (hb : b < 4294967296) (hc : c < 4294967296) (hx : x < 4294967296) (hy : y < 4294967296) (hz : z < 4294967296) :
    Calls Try.prog 30 #[.agg #[.float .f32 a, .float .f32 b, .float .f32 c], .agg #[.float .f32 x, .float .f32 y, .float .f32 z]] w (RetB (.bool (same3 a b c x y z)) w) := by
  go_enter Try.func30, Try.ntmps30
  go_wp2_with fail
  obtain ⟨W, hW⟩ : ∃ W, W = ((w.alloc (.cells #[.float .f32 a, .float .f32 b, .float .f32 c] 33)).alloc (.cells #[.float .f32 x, .float .f32 y, .float .f32 z] 33)) := ⟨_, rfl⟩
  rw [← hW]
  have g0 : W.cell? ⟨w.heap.size, 0, none⟩ = some (.float .f32 a) := by rw [hW]; simp [go_sem]
  have g1 : W.cell? ⟨w.heap.size, 1, none⟩ = some (.float .f32 b) := by rw [hW]; simp [go_sem]
  have g2 : W.cell? ⟨w.heap.size, 2, none⟩ = some (.float .f32 c) := by rw [hW]; simp [go_sem]
  have g3 : W.cell? ⟨w.heap.size + 1, 0, none⟩ = some (.float .f32 x) := by rw [hW]; simp [go_sem]
  have g4 : W.cell? ⟨w.heap.size + 1, 1, none⟩ = some (.float .f32 y) := by rw [hW]; simp [go_sem]
  have g5 : W.cell? ⟨w.heap.size + 1, 2, none⟩ = some (.float .f32 z) := by rw [hW]; simp [go_sem]
  have gs : w.heap.size + 2 ≤ W.heap.size := by rw [hW]; simp
  have gb : Below w.heap.size w W := by rw [hW]; exact ((Below.refl _ _).alloc (Nat.le_refl _) _).alloc (by simp) _
  clear hW
  go_region_held3 (fun w' => (∀ o, w'.cell? ⟨w.heap.size, o, none⟩ = W.cell? ⟨w.heap.size, o, none⟩) ∧ (∀ o, w'.cell? ⟨w.heap.size + 1, o, none⟩ = W.cell? ⟨w.heap.size + 1, o, none⟩) ∧ w.heap.size + 2 ≤ w'.heap.size ∧ Below (w.heap.size + 2) W w')
    (first | (exact mkS2 (Below.refl _ _).drew (by omega) (by omega) (by omega)) | (go_split_ands; refine mkS2 ?_ (by omega) (by omega) (by omega); repeat (first | assumption | exact Below.refl _ _ | refine Below.drew ?_ | refine below_drewN ?_ _ | refine Below.alloc ?_ (by first | assumption | omega | (simp; done) | (simp; omega)) _)))
    (first | (go_at_call 48; refine (numbers_exact _ _ _ _).mono ?_; rintro e w1 ⟨rfl, rfl⟩) | (go_at_call 47; refine (sameList_any _ _ 3 [a, b, c] [x, y, z] _ (by omega) (three_cells (by simp [go_sem]) (by simp [go_sem]) (by simp [go_sem])) (three_cells (by simp [go_sem]) (by simp [go_sem]) (by simp [go_sem])) (three_bits ha hb hc) (three_bits hx hy hz)).mono ?_; rintro e w1 ⟨rfl, j, rfl⟩))
  go_split_ands
  go_wp2_with fail
  go_ret
  refine ⟨rfl, gb.trans ?_⟩
  repeat (first | exact Below.refl _ _ | refine Below.drew ?_ | refine below_drewN ?_ _ | refine Below.alloc ?_ (by first | omega | (simp; done) | (simp; omega)) _)

set_option maxHeartbeats 1000000 in
theorem l01VSame_any (a b c x y z : Nat) (w : World) (ha : a < 4294967296) (hb : b < 4294967296) (hc : c < 4294967296) (hx : x < 4294967296) (hy : y < 4294967296) (hz : z < 4294967296) :
    Calls Try.prog 46 #[.agg #[.float .f32 a, .float .f32 b, .float .f32 c], .agg #[.float .f32 x, .float .f32 y, .float .f32 z]] w (RetB (.bool (same3 a b c x y z)) w) := by
  have H3 : Hid (same3 a b c x y z = ((bitsV (val .f32 a) == bitsV (val .f32 x)) && (bitsV (val .f32 b) == bitsV (val .f32 y)) && (bitsV (val .f32 c) == bitsV (val .f32 z)))) := hid rfl
  cases h1 : (bitsV (val .f32 a) == bitsV (val .f32 x)) with
  | false =>
    go_enter Try.func46, Try.ntmps46
    go_wp2_with (go_at_call 52; refine (l01Same_any _ _ _ ha hx).mono ?_; rintro e w' ⟨rfl, n, rfl⟩)
    go_ret
    exact ⟨ret_bool (by rw [H3.out, h1]; rfl), below_drewN (((Below.refl _ _).alloc (Nat.le_refl _) _).alloc (by simp) _) _⟩
  | true =>
    cases h2 : (bitsV (val .f32 b) == bitsV (val .f32 y)) with
    | false =>
      go_enter Try.func46, Try.ntmps46
      go_wp2_with fail
      refine (l01Same_any _ _ _ ha hx).mono ?_
      rintro e w' ⟨rfl, n, rfl⟩
      go_wp2_with fail
      refine (l01Same_any _ _ _ hb hy).mono ?_
      rintro e w' ⟨rfl, n, rfl⟩
      go_wp2_with fail
      go_ret
      exact ⟨ret_bool (by rw [H3.out, h1, h2]; rfl), below_drewN (((Below.refl _ _).alloc (Nat.le_refl _) _).alloc (by simp) _) _⟩
    | true =>
      go_enter Try.func46, Try.ntmps46
      go_wp2_with fail
      refine (l01Same_any _ _ _ ha hx).mono ?_
      rintro e w' ⟨rfl, n, rfl⟩
      go_wp2_with fail
      refine (l01Same_any _ _ _ hb hy).mono ?_
      rintro e w' ⟨rfl, n, rfl⟩
      go_wp2_with fail
      refine (l01Same_any _ _ _ hc hz).mono ?_
      rintro e w' ⟨rfl, n, rfl⟩
      go_wp2_with fail
      go_ret
      exact ⟨ret_bool (by rw [H3.out, h1, h2]; rfl), below_drewN (((Below.refl _ _).alloc (Nat.le_refl _) _).alloc (by simp) _) _⟩

theorem specSameVector_any (a b c x y z : Nat) (w : World) (ha : a < 4294967296) (hb : b < 4294967296) (hc : c < 4294967296) (hx : x < 4294967296) (hy : y < 4294967296) (hz : z < 4294967296) :
    Calls Try.prog 29 #[.agg #[.float .f32 a, .float .f32 b, .float .f32 c], .agg #[.float .f32 x, .float .f32 y, .float .f32 z]] w (RetB (.bool (same3 a b c x y z)) w) := by
  go_enter Try.func29, Try.ntmps29
  go_wp2_with (go_at_call 46; refine (l01VSame_any _ _ _ _ _ _ _ ha hb hc hx hy hz).mono ?_; rintro e w1 ⟨rfl, hb⟩)
  go_ret
  exact ⟨rfl, (((Below.refl _ _).alloc (Nat.le_refl _) _).alloc (by simp) _).trans (hb.mono (by simp; omega))⟩

set_option maxHeartbeats 4000000 in
theorem FnExactSameVector_walk (a b c x y z : Nat) (w : World) (ha : a < 4294967296) (hb : b < 4294967296) (hc : c < 4294967296) (hx : x < 4294967296) (hy : y < 4294967296) (hz : z < 4294967296) :
    Calls Try.prog 10 #[.agg #[.float .f32 a, .float .f32 b, .float .f32 c], .agg #[.float .f32 x, .float .f32 y, .float .f32 z]] w (Yes w) := by
  have Hall : Hid (a < 4294967296 ∧ b < 4294967296 ∧ c < 4294967296 ∧ x < 4294967296 ∧ y < 4294967296 ∧ z < 4294967296) := hid ⟨ha, hb, hc, hx, hy, hz⟩
  clear ha hb hc hx hy hz
  go_enter Try.func10, Try.ntmps10
  go_wp2_with fail
  obtain ⟨W, hW⟩ : ∃ W, W = ((w.alloc (.cells #[.float .f32 a, .float .f32 b, .float .f32 c] 31)).alloc (.cells #[.float .f32 x, .float .f32 y, .float .f32 z] 31)) := ⟨_, rfl⟩
  rw [← hW]
  have g0 : W.cell? ⟨w.heap.size, 0, none⟩ = some (.float .f32 a) := by rw [hW]; simp [go_sem]
  have g1 : W.cell? ⟨w.heap.size, 1, none⟩ = some (.float .f32 b) := by rw [hW]; simp [go_sem]
  have g2 : W.cell? ⟨w.heap.size, 2, none⟩ = some (.float .f32 c) := by rw [hW]; simp [go_sem]
  have g3 : W.cell? ⟨w.heap.size + 1, 0, none⟩ = some (.float .f32 x) := by rw [hW]; simp [go_sem]
  have g4 : W.cell? ⟨w.heap.size + 1, 1, none⟩ = some (.float .f32 y) := by rw [hW]; simp [go_sem]
  have g5 : W.cell? ⟨w.heap.size + 1, 2, none⟩ = some (.float .f32 z) := by rw [hW]; simp [go_sem]
  have gs : w.heap.size + 2 ≤ W.heap.size := by rw [hW]; simp
  have gb : Below w.heap.size w W := by rw [hW]; exact ((Below.refl _ _).alloc (Nat.le_refl _) _).alloc (by simp) _
  clear hW
  go_region_held3 (fun w' => (∀ o, w'.cell? ⟨w.heap.size, o, none⟩ = W.cell? ⟨w.heap.size, o, none⟩) ∧ (∀ o, w'.cell? ⟨w.heap.size + 1, o, none⟩ = W.cell? ⟨w.heap.size + 1, o, none⟩) ∧ w.heap.size + 2 ≤ w'.heap.size ∧ Below (w.heap.size + 2) W w')
    (first | (exact mkS2 (Below.refl _ _).drew (by omega) (by omega) (by omega)) | (go_split_ands; refine mkS2 ?_ (by omega) (by omega) (by omega); repeat (first | assumption | exact Below.refl _ _ | refine Below.drew ?_ | refine below_drewN ?_ _ | refine Below.alloc ?_ (by first | assumption | omega | (simp; done) | (simp; omega)) _ | refine Below.trans ?_ (hbb.mono (by first | omega | (simp; done) | (simp; omega))))))
    (first | (go_at_call 18; refine (toVector_exact _ _ _ _).mono ?_; rintro e w1 ⟨rfl, rfl⟩) | (go_at_call 29; refine (specSameVector_any _ _ _ _ _ _ _ Hall.out.1 Hall.out.2.1 Hall.out.2.2.1 Hall.out.2.2.2.1 Hall.out.2.2.2.2.1 Hall.out.2.2.2.2.2).mono ?_; rintro e w1 ⟨rfl, hbb⟩))
  have hbW : Below (w.heap.size + 2) W w1 := by go_split_ands; assumption
  clear hbb
  go_split_ands
  obtain ⟨wa, hwa⟩ : ∃ x, x = w1 := ⟨w1, rfl⟩
  subst hwa
  have hs0 := hbW.size
  have g0 : wa.cell? ⟨w.heap.size, 0, none⟩ = some (.float .f32 a) := (hbW.cell (by first | omega | (simp; done) | (simp; omega))).trans g0
  have g1 : wa.cell? ⟨w.heap.size, 1, none⟩ = some (.float .f32 b) := (hbW.cell (by first | omega | (simp; done) | (simp; omega))).trans g1
  have g2 : wa.cell? ⟨w.heap.size, 2, none⟩ = some (.float .f32 c) := (hbW.cell (by first | omega | (simp; done) | (simp; omega))).trans g2
  have g3 : wa.cell? ⟨w.heap.size + 1, 0, none⟩ = some (.float .f32 x) := (hbW.cell (by first | omega | (simp; done) | (simp; omega))).trans g3
  have g4 : wa.cell? ⟨w.heap.size + 1, 1, none⟩ = some (.float .f32 y) := (hbW.cell (by first | omega | (simp; done) | (simp; omega))).trans g4
  have g5 : wa.cell? ⟨w.heap.size + 1, 2, none⟩ = some (.float .f32 z) := (hbW.cell (by first | omega | (simp; done) | (simp; omega))).trans g5
  have gb := gb.trans (hbW.mono (by omega))
  clear hbW
  go_wp2_with fail
  go_region_held3 (fun w' => (∀ o, w'.cell? ⟨w.heap.size, o, none⟩ = wa.cell? ⟨w.heap.size, o, none⟩) ∧ (∀ o, w'.cell? ⟨w.heap.size + 1, o, none⟩ = wa.cell? ⟨w.heap.size + 1, o, none⟩) ∧ wa.heap.size ≤ w'.heap.size ∧ Below wa.heap.size wa w')
    (first | (exact mkS2 (Below.refl _ _).drew (by omega) (by omega) (by omega)) | (go_split_ands; refine mkS2 ?_ (by omega) (by omega) (by omega); repeat (first | assumption | exact Below.refl _ _ | refine Below.drew ?_ | refine below_drewN ?_ _ | refine Below.alloc ?_ (by first | assumption | omega | (simp; done) | (simp; omega)) _ | refine Below.trans ?_ (hbb.mono (by first | omega | (simp; done) | (simp; omega))))))
    (first | (go_at_call 18; refine (toVector_exact _ _ _ _).mono ?_; rintro e w1 ⟨rfl, rfl⟩) | (go_at_call 30; refine (implSameVector_any _ _ _ _ _ _ _ Hall.out.1 Hall.out.2.1 Hall.out.2.2.1 Hall.out.2.2.2.1 Hall.out.2.2.2.2.1 Hall.out.2.2.2.2.2).mono ?_; rintro e w1 ⟨rfl, hbb⟩))
  have hbW : Below wa.heap.size wa w1 := by go_split_ands; assumption
  have gb := gb.trans (hbW.mono (by omega))
  go_wp2_with fail
  all_goals (go_ret; exact ⟨rfl, gb⟩)
end Go.Proofs.Ytppodhfkmdojoaa
