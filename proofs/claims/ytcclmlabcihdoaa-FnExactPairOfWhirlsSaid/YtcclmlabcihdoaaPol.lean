/-
  The rate of a polygon: both sides come to one value, and the law. Conditions: the bits are those of float32 numbers.
-/
import Derived.Test.YtcclmlabcihdoaaFin
import Derived.Test.YtcclmlabcihdoaaLogW
namespace Go.Proofs.Ytcclmlabcihdoaa.Fl
open Go

/-- What is no number does not become one by a product or a quotient. -/
def NoNum (v : Option Nat) : Prop := ∀ x, v = some x → ∀ s m p, Ieee.single.read x ≠ .number s m p
theorem write_inf32 (s : Bool) : Ieee.single.read (Ieee.single.write (.infinity s)) = .infinity s := by
  show Ieee.single.read (Ieee.single.word s Ieee.single.infRung) = _
  rw [read_word_inf _ _ (by have := sgl; omega)]
theorem NoNum.mul {a b : Option Nat} (ha : NoNum a) : NoNum (ar .mul .f32 a b) := by
  intro z hz s m p hr
  unfold ar at hz
  cases a with
  | none => cases hz
  | some x =>
    cases b with
    | none => cases hz
    | some y =>
      have hz : ((Ieee.single.read x).product (Ieee.single.read y)).map Ieee.single.write = some z := hz
      cases hx : Ieee.single.read x with
      | number s m p => exact absurd hx (ha x rfl s m p)
      | nan s t => rw [hx] at hz; cases hz
      | infinity s =>
        cases hy : Ieee.single.read y with
        | nan s t => rw [hx, hy] at hz; cases hz
        | infinity t =>
          rw [hx, hy] at hz
          cases hz
          have e : Ieee.single.read (Ieee.single.write (.infinity (s ^^ t))) = .infinity (s ^^ t) := write_inf32 _
          rw [e] at hr
          cases hr
        | number t n q =>
          rw [hx, hy] at hz
          unfold Ieee.Datum.product at hz
          simp only at hz
          split at hz
          · cases hz
          · cases hz
            have e : Ieee.single.read (Ieee.single.write (.infinity (s ^^ t))) = .infinity (s ^^ t) := write_inf32 _
            rw [e] at hr
            cases hr
theorem NoNum.quo {a b : Option Nat} (ha : NoNum a) : NoNum (ar .quo .f32 a b) := by
  intro z hz s m p hr
  unfold ar at hz
  cases a with
  | none => cases hz
  | some x =>
    cases b with
    | none => cases hz
    | some y =>
      have hz : ((Ieee.single.read x).quotient (23 + 2) (Ieee.single.read y)).map Ieee.single.write = some z := hz
      cases hx : Ieee.single.read x with
      | number s m p => exact absurd hx (ha x rfl s m p)
      | nan s t => rw [hx] at hz; cases hz
      | infinity s =>
        cases hy : Ieee.single.read y with
        | nan s t => rw [hx, hy] at hz; cases hz
        | infinity t => rw [hx, hy] at hz; cases hz
        | number t n q =>
          rw [hx, hy] at hz
          cases hz
          have e : Ieee.single.read (Ieee.single.write (.infinity (s ^^ t))) = .infinity (s ^^ t) := write_inf32 _
          rw [e] at hr
          cases hr
theorem noNum_of {x : Nat} (h : ∀ s m p, Ieee.single.read x ≠ .number s m p) : NoNum (val .f32 x) := by
  intro z hz
  obtain rfl := (val_some hz).1
  exact h
theorem NoNum.fin {v : Option Nat} {r : Nat} (h : NoNum v) (hr : Is .f32 v r) : fin (val .f32 r) = false := by
  refine not_num_fin fun s m p hd => ?_
  have hv := val_num32 hd
  exact h r (by rw [← show val .f32 r = v from hr, hv]) s m p hd

/-- The number, if it is finite. -/
def told (v : Option Nat) : Option Nat := if fin v = true then v else some 0
/-- A call that hands back a float32 of this value, and whether there is one. -/
def RetP (v : Option Nat) (b : Bool) (w : World) (e : Ending) (w' : World) : Prop := ∃ r, Is .f32 v r ∧ e = .returned (.tuple #[.float .f32 r, .bool b]) ∧ RowKit.Below w.heap.size w w'
/-- The rate. -/
def rateV (n : Int) (r s : Nat) : Option Nat := ar .quo .f32 (ar .mul .f32 (val .f32 s) (val .f32 (floatOfInt .f32 (n - 1)))) (ar .mul .f32 (ar .mul .f32 (val .f32 1117645287) (val .f32 r)) (val .f32 r))
theorem zero_is32 : Is .f32 (some 0) 0 := by
  show val .f32 0 = _
  decide +kernel
theorem any1 (bad : Nat → Bool) (a : Nat) : anyB bad [a] 1 = bad a := by
  show (false || bad a) = _
  rw [Bool.false_or]
theorem one_cell {w : World} {p a : Nat} (h0 : w.cell? ⟨p, 0, none⟩ = some (.float .f32 a)) : ∀ i, i < 1 → w.cell? ⟨p, i, none⟩ = some (.float .f32 ([a].getD i 0)) := by
  intro i hi
  match i, hi with
  | 0, _ => exact h0
/-- Whether a number is above nought, as both sides ask. -/
theorem pos_cases (x : Nat) : (fin (val .f32 x) = false) ∨ (fin (val .f32 x) = true ∧ FloatKind.f32.format.order x 0 = some .gt) ∨ (fin (val .f32 x) = true ∧ (FloatKind.f32.format.order x 0 = some .lt ∨ FloatKind.f32.format.order x 0 = some .eq)) := by
  by_cases hnum : ∃ s m p, Ieee.single.read x = .number s m p
  · obtain ⟨s, m, p, hr⟩ := hnum
    have ho : FloatKind.f32.format.order x 0 = _ := order_zero Ieee.single hr zero_read32
    right
    have hf := num_fin hr
    by_cases hm : m = 0
    · right; exact ⟨hf, .inr (by rw [ho, if_pos hm])⟩
    · rw [if_neg hm] at ho
      cases s
      · left; exact ⟨hf, ho⟩
      · right; exact ⟨hf, .inl ho⟩
  · left; exact not_num_fin fun s m p h => hnum ⟨s, m, p, h⟩
end Go.Proofs.Ytcclmlabcihdoaa.Fl
namespace Go.Proofs.Ytcclmlabcihdoaa
open Go.RowKit Go.Proofs.Ytcclmlabcihdoaa.Fl

theorem implIn_yes (n : Int) (w : World) (h1 : 1 ≤ n) (h2 : n ≤ 32) : Calls Try.prog 49 #[.int .i64 n, .int .i64 1, .int .i64 32] w (Ret (.bool true) w) := by
  go_enter Try.func49, Try.ntmps49
  go_wp2_with fail
  all_goals (go_ret; exact ⟨rfl, 0, rfl⟩)
theorem specIn_yes (n : Int) (w : World) (h1 : 1 ≤ n) (h2 : n ≤ 32) : Calls Try.prog 45 #[.int .i64 n, .int .i64 1, .int .i64 32] w (Ret (.bool true) w) := by
  go_enter Try.func45, Try.ntmps45
  go_wp2_with fail
  all_goals (go_ret; exact ⟨rfl, 0, rfl⟩)
theorem implIn_no (n : Int) (w : World) (h : n < 1 ∨ 32 < n) : Calls Try.prog 49 #[.int .i64 n, .int .i64 1, .int .i64 32] w (Ret (.bool false) w) := by
  rcases h with h | h
  · go_enter Try.func49, Try.ntmps49
    go_wp2_with fail
    all_goals (go_ret; exact ⟨rfl, 0, rfl⟩)
  · have h1 : 1 ≤ n := by omega
    have h2 : decide (n ≤ 32) = false := decide_eq_false (by omega)
    go_enter Try.func49, Try.ntmps49
    go_wp2_with fail
    all_goals (go_ret; exact ⟨rfl, 0, rfl⟩)
theorem specIn_no (n : Int) (w : World) (h : n < 1 ∨ 32 < n) : Calls Try.prog 45 #[.int .i64 n, .int .i64 1, .int .i64 32] w (Ret (.bool false) w) := by
  rcases h with h | h
  · go_enter Try.func45, Try.ntmps45
    go_wp2_with fail
    all_goals (go_ret; exact ⟨rfl, 0, rfl⟩)
  · have h1 : 1 ≤ n := by omega
    have h2 : decide (n ≤ 32) = false := decide_eq_false (by omega)
    go_enter Try.func45, Try.ntmps45
    go_wp2_with fail
    all_goals (go_ret; exact ⟨rfl, 0, rfl⟩)

/-- Whether a float32 is finite and above nought. -/
def posB (x : Nat) : Bool := fin (val .f32 x) && (FloatKind.f32.format.order x 0 == some .gt)
theorem above_any (x : Nat) (w : World) : Calls Try.prog 46 #[.float .f32 x] w (Ret (.bool (posB x)) w) := by
  rcases pos_cases x with hf | ⟨hf, ho⟩ | ⟨hf, ho | ho⟩
  · have hp : Hid (posB x = false) := by show _ = _; unfold posB; rw [hf]; rfl
    have Hf := hid hf
    clear hf
    go_enter Try.func46, Try.ntmps46
    go_wp2_with (go_at_call 47; refine (l01Finite_any _ _).mono ?_; rw [Hf.out]; rintro e w' ⟨rfl, n, rfl⟩)
    go_ret
    exact ⟨ret_bool hp.out.symm, _, rfl⟩
  all_goals
    have hp : Hid (posB x = (FloatKind.f32.format.order x 0 == some .gt)) := by show _ = _; unfold posB; rw [hf]; rfl
    rw [ho] at hp
    have Hf := hid hf
    clear hf
    go_enter Try.func46, Try.ntmps46
    go_wp2_with (go_at_call 47; refine (l01Finite_any _ _).mono ?_; rw [Hf.out]; rintro e w' ⟨rfl, n, rfl⟩)
    go_ret
    exact ⟨ret_bool hp.out.symm, _, rfl⟩
theorem length_pos (x : Nat) : (!(anyB notFin [x] 1) && !(anyB notPos [x] 1)) = posB x := by
  rw [any1, any1]
  unfold notFin notPos posB
  rcases pos_cases x with hf | ⟨hf, ho⟩ | ⟨hf, ho | ho⟩
  · rw [hf]; rfl
  · rw [hf, ho]; rfl
  · rw [hf, ho]; rfl
  · rw [hf, ho]; rfl

theorem toldNumber_any (x : Nat) (w : World) : Calls Try.prog 51 #[.float .f32 x] w (RetP (told (val .f32 x)) (fin (val .f32 x)) w) := by
  cases hf : fin (val .f32 x) with
  | true =>
    have e : told (val .f32 x) = val .f32 x := if_pos hf
    rw [e]
    go_enter Try.func51, Try.ntmps51
    go_wp2_with (go_at_call 58; refine (implIsFinite_any _ _).mono ?_; rw [hf]; rintro e w' ⟨rfl, n, rfl⟩)
    go_ret2
    exact ⟨x, rfl, rfl, below_draws _ _⟩
  | false =>
    have e : told (val .f32 x) = some 0 := if_neg (by rw [hf]; decide)
    rw [e]
    have hz := hid zero_is32
    go_enter Try.func51, Try.ntmps51
    go_wp2_with (go_at_call 58; refine (implIsFinite_any _ _).mono ?_; rw [hf]; rintro e w' ⟨rfl, n, rfl⟩)
    go_ret2
    exact ⟨0, hz.out, rfl, below_draws _ _⟩
theorem l02Number_any (x : Nat) (w : World) : Calls Try.prog 48 #[.float .f32 x] w (RetP (told (val .f32 x)) (fin (val .f32 x)) w) := by
  cases hf : fin (val .f32 x) with
  | true =>
    have e : told (val .f32 x) = val .f32 x := if_pos hf
    rw [e]
    go_enter Try.func48, Try.ntmps48
    go_wp2_with (go_at_call 47; refine (l01Finite_any _ _).mono ?_; rw [hf]; rintro e w' ⟨rfl, n, rfl⟩)
    go_ret2
    exact ⟨x, rfl, rfl, below_draws _ _⟩
  | false =>
    have e : told (val .f32 x) = some 0 := if_neg (by rw [hf]; decide)
    rw [e]
    have hz := hid zero_is32
    go_enter Try.func48, Try.ntmps48
    go_wp2_with (go_at_call 47; refine (l01Finite_any _ _).mono ?_; rw [hf]; rintro e w' ⟨rfl, n, rfl⟩)
    go_ret2
    exact ⟨0, hz.out, rfl, below_draws _ _⟩

/-- What both sides of PolygonRate come to: the value, and whether there is one. -/
def polV (n : Int) (r s : Nat) : Option Nat := if 1 ≤ n ∧ n ≤ 32 ∧ posB r = true then told (rateV n r s) else some 0
def polB (n : Int) (r s : Nat) : Bool := if 1 ≤ n ∧ n ≤ 32 ∧ posB r = true then fin (rateV n r s) else false

set_option maxHeartbeats 1000000 in
theorem implPol_any (n : Int) (r s : Nat) (w : World) : Calls Try.prog 14 #[.int .i64 n, .float .f32 r, .float .f32 s] w (RetP (polV n r s) (polB n r s) w) := by
  have hz := hid zero_is32
  by_cases hn : 1 ≤ n ∧ n ≤ 32
  · have h1 := hn.1
    have h2 := hn.2
    cases hp : posB r with
    | true =>
      have e1 : polV n r s = told (rateV n r s) := if_pos ⟨h1, h2, hp⟩
      have e2 : polB n r s = fin (rateV n r s) := if_pos ⟨h1, h2, hp⟩
      rw [e1, e2]
      have HL : Hid ((!(anyB notFin [r] 1) && !(anyB notPos [r] 1)) = true) := by show _ = _; rw [length_pos, hp]
      clear e1 e2 hn hp
      go_enter Try.func14, Try.ntmps14
      go_wp2_with (first | (go_at_call 49; refine (implIn_yes _ _ h1 h2).mono ?_; rintro e w' ⟨rfl, k, rfl⟩) | (go_at_call 50; refine (lengthOk_any _ 1 [r] _ (by omega) (one_cell (by simp [go_sem]))).mono ?_; rw [HL.out]; rintro e w' ⟨rfl, k, rfl⟩) | (refine wpList_ar _ rfl _ _ _ _ _ rfl _ _ _ rfl rfl rfl (by first | assumption | exact rfl) (by first | assumption | exact rfl) ?_; intro z j hj))
      have Hj := hid hj
      clear hj
      refine (toldNumber_any _ _).mono ?_
      rw [show val .f32 z = rateV n r s from Hj.out]
      rintro e w' ⟨q, hq, rfl, hb⟩
      have Hq := hid hq
      have Hb := hid hb
      clear hq hb
      go_wp2_with fail
      go_ret2
      exact ⟨q, Hq.out, rfl, (below_drewN ((Below.refl _ _).alloc (Nat.le_refl _) _) _).trans (Hb.out.mono (by first | omega | (simp; done) | (simp; omega)))⟩
    | false =>
      have e1 : polV n r s = some 0 := if_neg (by rw [hp]; simp)
      have e2 : polB n r s = false := if_neg (by rw [hp]; simp)
      rw [e1, e2]
      have HL : Hid ((!(anyB notFin [r] 1) && !(anyB notPos [r] 1)) = false) := by show _ = _; rw [length_pos, hp]
      clear e1 e2 hn hp
      go_enter Try.func14, Try.ntmps14
      go_wp2_with (first | (go_at_call 49; refine (implIn_yes _ _ h1 h2).mono ?_; rintro e w' ⟨rfl, k, rfl⟩) | (go_at_call 50; refine (lengthOk_any _ 1 [r] _ (by omega) (one_cell (by simp [go_sem]))).mono ?_; rw [HL.out]; rintro e w' ⟨rfl, k, rfl⟩))
      go_ret2
      exact ⟨0, hz.out, rfl, below_drewN ((Below.refl _ _).alloc (Nat.le_refl _) _) _⟩
  · have hn' : n < 1 ∨ 32 < n := by omega
    have e1 : polV n r s = some 0 := if_neg (fun h => hn ⟨h.1, h.2.1⟩)
    have e2 : polB n r s = false := if_neg (fun h => hn ⟨h.1, h.2.1⟩)
    rw [e1, e2]
    have HI := hid (fun W : World => implIn_no n W hn')
    clear e1 e2 hn hn'
    go_enter Try.func14, Try.ntmps14
    go_wp2_with (go_at_call 49; refine (HI.out _).mono ?_; rintro e w' ⟨rfl, k, rfl⟩)
    go_ret2
    exact ⟨0, hz.out, rfl, below_draws _ _⟩

set_option maxHeartbeats 1000000 in
theorem specPol_any (n : Int) (r s : Nat) (w : World) : Calls Try.prog 13 #[.int .i64 n, .float .f32 r, .float .f32 s] w (RetP (polV n r s) (polB n r s) w) := by
  have hz := hid zero_is32
  by_cases hn : 1 ≤ n ∧ n ≤ 32
  · have h1 := hn.1
    have h2 := hn.2
    cases hp : posB r with
    | true =>
      have e1 : polV n r s = told (rateV n r s) := if_pos ⟨h1, h2, hp⟩
      have e2 : polB n r s = fin (rateV n r s) := if_pos ⟨h1, h2, hp⟩
      rw [e1, e2]
      clear e1 e2 hn
      cases hf : fin (val .f32 s) with
      | true =>
        go_enter Try.func13, Try.ntmps13
        go_wp2_with (first | (go_at_call 45; refine (specIn_yes _ _ h1 h2).mono ?_; rintro e w' ⟨rfl, k, rfl⟩) | (go_at_call 46; refine (above_any _ _).mono ?_; rw [hp]; rintro e w' ⟨rfl, k, rfl⟩) | (go_at_call 47; refine (l01Finite_any _ _).mono ?_; rw [hf]; rintro e w' ⟨rfl, k, rfl⟩) | (refine wpList_ar _ rfl _ _ _ _ _ rfl _ _ _ rfl rfl rfl (by first | assumption | exact rfl) (by first | assumption | exact rfl) ?_; intro z j hj))
        have Hj := hid hj
        clear hj
        refine (l02Number_any _ _).mono ?_
        rw [show val .f32 z = rateV n r s from Hj.out]
        rintro e w' ⟨q, hq, rfl, hb⟩
        have Hq := hid hq
        have Hb := hid hb
        clear hq hb
        go_wp2_with fail
        go_ret2
        exact ⟨q, Hq.out, rfl, (below_draws _ _).trans (Hb.out.mono (by first | omega | (simp; done) | (simp; omega)))⟩
      | false =>
        -- what is not finite stays so
        have hs : ∀ a m p, Ieee.single.read s ≠ .number a m p := by
          intro a m p h
          rw [num_fin h] at hf
          cases hf
        have hno : NoNum (rateV n r s) := ((noNum_of hs).mul).quo
        have hfin : fin (rateV n r s) = false := by
          cases hv : rateV n r s with
          | none => rfl
          | some z =>
            have hz2 := hno z hv
            unfold fin
            have : ar .sub .f32 (some z) (some z) = none := by
              show ((Ieee.single.read z).sum (Ieee.single.read z).opposite).map Ieee.single.write = none
              cases hd : Ieee.single.read z with
              | number a m p => exact absurd hd (hz2 a m p)
              | infinity a => cases a <;> rfl
              | nan a t => rfl
            rw [this]; rfl
        have e1 : told (rateV n r s) = some 0 := if_neg (by rw [hfin]; decide)
        rw [e1, hfin]
        clear e1 hfin hno hs
        go_enter Try.func13, Try.ntmps13
        go_wp2_with (first | (go_at_call 45; refine (specIn_yes _ _ h1 h2).mono ?_; rintro e w' ⟨rfl, k, rfl⟩) | (go_at_call 46; refine (above_any _ _).mono ?_; rw [hp]; rintro e w' ⟨rfl, k, rfl⟩) | (go_at_call 47; refine (l01Finite_any _ _).mono ?_; rw [hf]; rintro e w' ⟨rfl, n, rfl⟩))
        go_ret2
        exact ⟨0, hz.out, rfl, below_draws _ _⟩
    | false =>
      have e1 : polV n r s = some 0 := if_neg (by rw [hp]; simp)
      have e2 : polB n r s = false := if_neg (by rw [hp]; simp)
      rw [e1, e2]
      clear e1 e2 hn
      go_enter Try.func13, Try.ntmps13
      go_wp2_with (first | (go_at_call 45; refine (specIn_yes _ _ h1 h2).mono ?_; rintro e w' ⟨rfl, k, rfl⟩) | (go_at_call 46; refine (above_any _ _).mono ?_; rw [hp]; rintro e w' ⟨rfl, k, rfl⟩))
      go_ret2
      exact ⟨0, hz.out, rfl, below_draws _ _⟩
  · have hn' : n < 1 ∨ 32 < n := by omega
    have e1 : polV n r s = some 0 := if_neg (fun h => hn ⟨h.1, h.2.1⟩)
    have e2 : polB n r s = false := if_neg (fun h => hn ⟨h.1, h.2.1⟩)
    rw [e1, e2]
    have HI := hid (fun W : World => specIn_no n W hn')
    clear e1 e2 hn hn'
    go_enter Try.func13, Try.ntmps13
    go_wp2_with (go_at_call 45; refine (HI.out _).mono ?_; rintro e w' ⟨rfl, k, rfl⟩)
    go_ret2
    exact ⟨0, hz.out, rfl, below_draws _ _⟩

theorem FnExactPolygonRate_walk (n : Int) (r s : Nat) (w : World) (_hn : (Lit.int IntKind.i64 n).wf = true) (_hr : r < 4294967296) (_hs : s < 4294967296) : Calls Try.prog 3 #[.int .i64 n, .float .f32 r, .float .f32 s] w (Yes w) := by
  clear _hn _hr _hs
  have HS := hid (fun W : World => specPol_any n r s W)
  have HI := hid (fun W : World => implPol_any n r s W)
  generalize polV n r s = V at *
  generalize polB n r s = B at *
  cases B
  all_goals
    go_enter Try.func3, Try.ntmps3
    go_wp2_with fail
    refine (HS.out _).mono ?_
    rintro e w1 ⟨q1, h1, rfl, hb1⟩
    have Hb1 := hid hb1
    clear hb1
    go_wp2_with fail
    refine (HI.out _).mono ?_
    rintro e w2 ⟨q2, h2, rfl, hb2⟩
    have Hb2 := hid hb2
    clear hb2
    go_wp2_with (first | (refine wpList_cv _ rfl _ _ _ rfl .f32 .f64 _ rfl (by rw [Try.underlying22]; rfl) Try.underlying26 (by assumption) (fits_widen _) ?_; intro z n hz) | (go_at_call 15; refine (same_any _ _ _ _ (by assumption) (by assumption)).mono ?_; rintro e w' ⟨rfl, n, rfl⟩))
    go_ret
    exact ⟨rfl, below_drewN (Hb1.out.trans (Hb2.out.mono Hb1.out.size)) _⟩
end Go.Proofs.Ytcclmlabcihdoaa
