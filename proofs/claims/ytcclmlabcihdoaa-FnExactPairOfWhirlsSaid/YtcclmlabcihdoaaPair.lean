/-
  A pair of whirls: what the two sides' tests come to, and both sides. Conditions: those of each contract.
-/
import Derived.Test.YtcclmlabcihdoaaHalf
import Derived.Test.YtcclmlabcihdoaaPol
import Derived.Test.YtcclmlabcihdoaaPhaT
import Derived.Laws.AppendOwn
import Derived.Laws.OwnMore
import Derived.StillTailTactics
import Derived.Deep.RegionHeld3
namespace Go.Proofs.Ytcclmlabcihdoaa.Fl
open Go Go.RowKit

/-- Whether a whirl is finite. -/
def wok (a b c : Nat) : Bool := fin (val .f32 a) && fin (val .f32 b) && fin (val .f32 c)
abbrev ng (x : Nat) : Nat := Op.negFloat .f32 x
/-- The cells of a pair. -/
def pairL (h s : Nat) : List Value := [.complex .f32 h 0, .float .f32 s, .complex .f32 (ng h) (ng 0), .float .f32 (ng s)]
def okP (h s : Nat) : Bool := wok h 0 s && wok (ng h) (ng 0) (ng s)
/-- A block that holds two whirls. -/
def TwoW (w : World) (g a b c a' b' c' : Nat) : Prop := w.cell? ⟨g, 0, none⟩ = some (.complex .f32 a b) ∧ w.cell? ⟨g, 1, none⟩ = some (.float .f32 c) ∧ w.cell? ⟨g, 2, none⟩ = some (.complex .f32 a' b') ∧ w.cell? ⟨g, 3, none⟩ = some (.float .f32 c')
theorem TwoW.below {w w' : World} {g a b c a' b' c' : Nat} (h : TwoW w g a b c a' b' c') (hb : Below w.heap.size w w') : TwoW w' g a b c a' b' c' := by
  obtain ⟨h1, h2, h3, h4⟩ := h
  exact ⟨by rw [hb.cell (World.block_lt_of_cell? w _ h1)]; exact h1, by rw [hb.cell (World.block_lt_of_cell? w _ h2)]; exact h2, by rw [hb.cell (World.block_lt_of_cell? w _ h3)]; exact h3, by rw [hb.cell (World.block_lt_of_cell? w _ h4)]; exact h4⟩
theorem TwoW.own {w : World} {B g h s : Nat} {e : TypeId} (ho : w.ownsRow B e 2 (.slice (some ⟨g, 0, none⟩) 2 2) 2 (pairL h s)) : TwoW w g h 0 s (ng h) (ng 0) (ng s) :=
  ⟨by rw [ho.cellAt 0 (by omega)]; rfl, by rw [ho.cellAt 1 (by omega)]; rfl, by rw [ho.cellAt 2 (by omega)]; rfl, by rw [ho.cellAt 3 (by omega)]; rfl⟩

/-- What PairOfWhirls ends in. -/
def RetPair (b : Bool) (h s : Nat) (w : World) (e : Ending) (w' : World) : Prop := match b with
  | false => e = .returned (.tuple #[.slice none 0 0, .bool false]) ∧ Below w.heap.size w w'
  | true => ∃ g, e = .returned (.tuple #[.slice (some ⟨g, 0, none⟩) 2 2, .bool true]) ∧ w'.ownsRow w.heap.size 66 2 (.slice (some ⟨g, 0, none⟩) 2 2) 2 (pairL h s) ∧ Below w.heap.size w w'
theorem own_below2 {B : Nat} {e : TypeId} {k : Nat} {v : Value} {n : Nat} {xs : List Value} {w w' : World} (h : w.ownsRow B e k v n xs) (hb : Below w.heap.size w w') : w'.ownsRow B e k v n xs :=
  h.kept (row := none) ⟨hb.os, hb.tape, hb.output, hb.size, fun j hj _ => hb.block j hj⟩ (by cases hv : v.ownBlock <;> simp)
end Go.Proofs.Ytcclmlabcihdoaa.Fl
namespace Go.Proofs.Ytcclmlabcihdoaa
open Go.RowKit Go.Proofs.Ytcclmlabcihdoaa.Fl

theorem l01CFinite_any (a b : Nat) (w : World) : Calls Try.prog 98 #[.complex .f32 a b] w (Ret (.bool (fin (val .f32 a) && fin (val .f32 b))) w) := by
  cases ha : fin (val .f32 a) with
  | false =>
    have Ha := hid ha; clear ha
    go_enter Try.func98, Try.ntmps98
    go_wp2_with fail
    refine (l01Finite_any _ _).mono ?_
    rw [Ha.out]
    rintro e w' ⟨rfl, n, rfl⟩
    go_wp2_with fail
    go_ret
    exact ⟨rfl, _, rfl⟩
  | true =>
    have Ha := hid ha; clear ha
    go_enter Try.func98, Try.ntmps98
    go_wp2_with fail
    refine (l01Finite_any _ _).mono ?_
    rw [Ha.out]
    rintro e w' ⟨rfl, n, rfl⟩
    go_wp2_with fail
    refine (l01Finite_any _ _).mono ?_
    rintro e w' ⟨rfl, n, rfl⟩
    go_wp2_with fail
    go_ret
    exact ⟨rfl, _, rfl⟩

/-- One whirl, as the reference's test meets it. -/
theorem implCFinite_any (a b : Nat) (w : World) : Calls Try.prog 108 #[.complex .f32 a b] w (RetB (.bool (fin (val .f32 a) && fin (val .f32 b))) w) := by
  have H : Hid ((!(anyB notFin [a, b] 2)) = (fin (val .f32 a) && fin (val .f32 b))) := by
    show _ = _
    have e : anyB notFin [a, b] 2 = (notFin a || notFin b) := by
      show ((false || notFin a) || notFin b) = _
      rw [Bool.false_or]
    rw [e]
    unfold notFin
    cases fin (val .f32 a) <;> cases fin (val .f32 b) <;> rfl
  go_enter Try.func108, Try.ntmps108
  go_wp2_with fail
  refine (finite_any _ 2 [a, b] _ (by omega) (by
    intro i hi
    match i, hi with
    | 0, _ => simp [go_sem]
    | 1, _ => simp [go_sem])).mono ?_
  rw [H.out]
  rintro e w' ⟨rfl, n, rfl⟩
  go_wp2_with fail
  go_ret
  exact ⟨rfl, below_drewN ((Below.refl _ _).alloc (Nat.le_refl _) _) _⟩

set_option maxHeartbeats 2000000 in
theorem l02Are_two (p a b c a' b' c' : Nat) (w : World) (h : TwoW w p a b c a' b' c') : Calls Try.prog 87 #[.slice (some ⟨p, 0, none⟩) 2 2] w (Ret (.bool (wok a b c && wok a' b' c')) w) := by
  obtain ⟨g0, g1, g2, g3⟩ := h
  go_enter Try.func87, Try.ntmps87
  go_wp2_with fail
  go_loopw [3] (fun i wr => ∃ k : Nat, k ≤ 2 ∧ i = .int .i64 k ∧ Hid ((1 ≤ k → wok a b c = true) ∧ (2 ≤ k → wok a' b' c' = true)) ∧ ∃ m, wr = w.drewN m) (fun i _ => 2 - (intOf i).toNat)
  case atStart => exact ⟨0, by omega, rfl, ⟨by omega, by omega⟩, 0, rfl⟩
  case round =>
    obtain ⟨k, hk, rfl, HK, m, rfl⟩ := hrel
    obtain rfl | rfl | rfl : k = 0 ∨ k = 1 ∨ k = 2 := by omega
    · cases h1 : (fin (val .f32 a) && fin (val .f32 b)) with
      | false =>
        have hr : Hid ((wok a b c && wok a' b' c') = false) := by
          have e : wok a b c = false := by unfold wok; rw [h1]; rfl
          show _ = _
          rw [e]; rfl
        have H1 := hid h1; clear h1
        go_wp2_with fail
        refine (l01CFinite_any _ _ _).mono ?_
        rw [H1.out]
        rintro e w' ⟨rfl, n, rfl⟩
        go_wp2_with fail
        go_ret
        exact ⟨ret_bool hr.out.symm, _, rfl⟩
      | true =>
        cases h2 : fin (val .f32 c) with
        | false =>
          have hr : Hid ((wok a b c && wok a' b' c') = false) := by
            have e : wok a b c = false := by unfold wok; rw [h1, h2]; rfl
            show _ = _
            rw [e]; rfl
          have H1 := hid h1; have H2 := hid h2; clear h1 h2
          go_wp2_with fail
          refine (l01CFinite_any _ _ _).mono ?_
          rw [H1.out]
          rintro e w' ⟨rfl, n, rfl⟩
          go_wp2_with fail
          refine (l01Finite_any _ _).mono ?_
          rw [H2.out]
          rintro e w' ⟨rfl, n, rfl⟩
          go_wp2_with fail
          go_ret
          exact ⟨ret_bool hr.out.symm, _, rfl⟩
        | true =>
          have hr : Hid (wok a b c = true) := by show _ = _; unfold wok; rw [h1, h2]; rfl
          have H1 := hid h1; have H2 := hid h2; clear h1 h2
          go_wp2_with fail
          refine (l01CFinite_any _ _ _).mono ?_
          rw [H1.out]
          rintro e w' ⟨rfl, n, rfl⟩
          go_wp2_with fail
          refine (l01Finite_any _ _).mono ?_
          rw [H2.out]
          rintro e w' ⟨rfl, n, rfl⟩
          go_wp2_with fail
          exact ⟨⟨1, by omega, by go_num, ⟨fun _ => hr.out, by omega⟩, _, rfl⟩, by simp [intOf]⟩
    · cases h1 : (fin (val .f32 a') && fin (val .f32 b')) with
      | false =>
        have hr : Hid ((wok a b c && wok a' b' c') = false) := by
          have e : wok a' b' c' = false := by unfold wok; rw [h1]; rfl
          show _ = _
          rw [e]; rw [Bool.and_false]
        have H1 := hid h1; clear h1
        go_wp2_with fail
        refine (l01CFinite_any _ _ _).mono ?_
        rw [H1.out]
        rintro e w' ⟨rfl, n, rfl⟩
        go_wp2_with fail
        go_ret
        exact ⟨ret_bool hr.out.symm, _, rfl⟩
      | true =>
        cases h2 : fin (val .f32 c') with
        | false =>
          have hr : Hid ((wok a b c && wok a' b' c') = false) := by
            have e : wok a' b' c' = false := by unfold wok; rw [h1, h2]; rfl
            show _ = _
            rw [e]; rw [Bool.and_false]
          have H1 := hid h1; have H2 := hid h2; clear h1 h2
          go_wp2_with fail
          refine (l01CFinite_any _ _ _).mono ?_
          rw [H1.out]
          rintro e w' ⟨rfl, n, rfl⟩
          go_wp2_with fail
          refine (l01Finite_any _ _).mono ?_
          rw [H2.out]
          rintro e w' ⟨rfl, n, rfl⟩
          go_wp2_with fail
          go_ret
          exact ⟨ret_bool hr.out.symm, _, rfl⟩
        | true =>
          have hr : Hid (wok a' b' c' = true) := by show _ = _; unfold wok; rw [h1, h2]; rfl
          have H1 := hid h1; have H2 := hid h2; clear h1 h2
          go_wp2_with fail
          refine (l01CFinite_any _ _ _).mono ?_
          rw [H1.out]
          rintro e w' ⟨rfl, n, rfl⟩
          go_wp2_with fail
          refine (l01Finite_any _ _).mono ?_
          rw [H2.out]
          rintro e w' ⟨rfl, n, rfl⟩
          go_wp2_with fail
          exact ⟨⟨2, by omega, by go_num, ⟨fun _ => HK.out.1 (by omega), fun _ => hr.out⟩, _, rfl⟩, by simp [intOf]⟩
    · have hr : Hid ((wok a b c && wok a' b' c') = true) := by
        show _ = _
        rw [HK.out.1 (by omega), HK.out.2 (by omega)]; rfl
      go_wp2_with fail
      go_ret
      exact ⟨ret_bool hr.out.symm, _, rfl⟩

theorem finW1_any (a b c : Nat) (w : World) : Calls Try.prog 107 #[.agg #[.complex .f32 a b, .float .f32 c]] w (RetB (.bool (!(wok a b c))) w) := by
  cases h1 : (fin (val .f32 a) && fin (val .f32 b)) with
  | false =>
    have hr : Hid ((!(wok a b c)) = true) := by show _ = _; unfold wok; rw [h1]; rfl
    have H1 := hid h1; clear h1
    go_enter Try.func107, Try.ntmps107
    go_wp2_with fail
    refine (implCFinite_any _ _ _).mono ?_
    rw [H1.out]
    rintro e w1 ⟨rfl, hb⟩
    have Hb := hid hb; clear hb
    go_wp2_with fail
    go_ret
    exact ⟨ret_bool hr.out.symm, ((Below.refl _ _).alloc (Nat.le_refl _) _).trans (Hb.out.mono (by first | omega | (simp; done) | (simp; omega)))⟩
  | true =>
    have hr : Hid ((!(wok a b c)) = !(fin (val .f32 c))) := by show _ = _; unfold wok; rw [h1]; rfl
    have H1 := hid h1; clear h1
    go_enter Try.func107, Try.ntmps107
    go_wp2_with fail
    refine (implCFinite_any _ _ _).mono ?_
    rw [H1.out]
    rintro e w1 ⟨rfl, hb⟩
    have c1 : w1.cell? ⟨w.heap.size, 1, none⟩ = some (.float .f32 c) := by
      rw [hb.cell (by simp)]
      simp [go_sem]
    have Hb := hid hb; clear hb
    go_wp2_with fail
    refine (implIsFinite_any _ _).mono ?_
    rintro e w' ⟨rfl, n, rfl⟩
    go_wp2_with fail
    go_ret
    exact ⟨ret_bool hr.out.symm, below_drewN (((Below.refl _ _).alloc (Nat.le_refl _) _).trans (Hb.out.mono (by first | omega | (simp; done) | (simp; omega)))) _⟩

/-- The place of the first bad whirl, or -1. -/
def RetIdxB (b : Bool) (w : World) (e : Ending) (w' : World) : Prop := ∃ i : Int, e = .returned (.int .i64 i) ∧ decide (0 ≤ i) = b ∧ Below w.heap.size w w'

set_option maxHeartbeats 2000000 in
theorem indexW_two (p a b c a' b' c' : Nat) (w : World) (h : TwoW w p a b c a' b' c') :
    Calls Try.prog 110 #[.slice (some ⟨p, 0, none⟩) 2 2, .func (.func 107) #[] #[]] w (RetIdxB (!(wok a b c && wok a' b' c')) w) := by
  have Ht := hid h
  clear h
  go_enter Try.func110, Try.ntmps110
  go_wp2_with fail
  go_loopw [8] (fun i wr => ∃ k : Nat, k ≤ 2 ∧ i = .int .i64 k ∧ Hid ((1 ≤ k → wok a b c = true) ∧ (2 ≤ k → wok a' b' c' = true)) ∧ Hid (Below w.heap.size w wr)) (fun i _ => 2 - (intOf i).toNat)
  case atStart => exact ⟨0, by omega, rfl, ⟨by omega, by omega⟩, Below.refl _ _⟩
  case round =>
    obtain ⟨k, hk, rfl, HK, HB⟩ := hrel
    obtain ⟨g0, g1, g2, g3⟩ := Ht.out.below HB.out
    have hs := HB.out.size
    obtain rfl | rfl | rfl : k = 0 ∨ k = 1 ∨ k = 2 := by omega
    · rcases Bool.eq_false_or_eq_true (wok a b c) with h1 | h1
      case inr =>
        have hr : Hid ((!(wok a b c && wok a' b' c')) = true) := by show _ = _; rw [h1]; rfl
        have H1 := hid h1; clear h1
        go_wp2_with fail
        refine (finW1_any _ _ _ _).mono ?_
        rw [H1.out]
        rintro e w1 ⟨rfl, hb⟩
        have Hb := hid hb; clear hb
        go_wp2_with fail
        go_ret
        exact ⟨_, rfl, (by rw [hr.out]; decide), HB.out.trans (Hb.out.mono hs)⟩
      case inl =>
        have H1 := hid h1; clear h1
        go_wp2_with fail
        refine (finW1_any _ _ _ _).mono ?_
        rw [H1.out]
        rintro e w1 ⟨rfl, hb⟩
        have Hb := hid hb; clear hb
        go_wp2_with fail
        exact ⟨⟨1, by omega, by go_num, ⟨fun _ => H1.out, by omega⟩, HB.out.trans (Hb.out.mono hs)⟩, by simp [intOf]⟩
    · rcases Bool.eq_false_or_eq_true (wok a' b' c') with h1 | h1
      case inr =>
        have hr : Hid ((!(wok a b c && wok a' b' c')) = true) := by show _ = _; rw [h1, Bool.and_false]; rfl
        have H1 := hid h1; clear h1
        go_wp2_with fail
        refine (finW1_any _ _ _ _).mono ?_
        rw [H1.out]
        rintro e w1 ⟨rfl, hb⟩
        have Hb := hid hb; clear hb
        go_wp2_with fail
        go_ret
        exact ⟨_, rfl, (by rw [hr.out]; decide), HB.out.trans (Hb.out.mono hs)⟩
      case inl =>
        have H1 := hid h1; clear h1
        go_wp2_with fail
        refine (finW1_any _ _ _ _).mono ?_
        rw [H1.out]
        rintro e w1 ⟨rfl, hb⟩
        have Hb := hid hb; clear hb
        go_wp2_with fail
        exact ⟨⟨2, by omega, by go_num, ⟨fun _ => HK.out.1 (by omega), fun _ => H1.out⟩, HB.out.trans (Hb.out.mono hs)⟩, by simp [intOf]⟩
    · have hr : Hid ((!(wok a b c && wok a' b' c')) = false) := by
        show _ = _
        rw [HK.out.1 (by omega), HK.out.2 (by omega)]; rfl
      go_wp2_with fail
      go_ret
      exact ⟨_, rfl, (by rw [hr.out]; decide), HB.out⟩

theorem containsW_two (p a b c a' b' c' : Nat) (w : World) (h : TwoW w p a b c a' b' c') :
    Calls Try.prog 106 #[.slice (some ⟨p, 0, none⟩) 2 2, .func (.func 107) #[] #[]] w (RetB (.bool (!(wok a b c && wok a' b' c'))) w) := by
  have Ht := hid h
  clear h
  go_enter Try.func106, Try.ntmps106
  go_wp2_with fail
  refine (indexW_two _ _ _ _ _ _ _ _ Ht.out).mono ?_
  rintro e w1 ⟨i, rfl, hi, hb⟩
  have Hi := hid hi; have Hb := hid hb
  clear hi hb
  go_wp2_with fail
  go_ret
  exact ⟨ret_bool Hi.out, Hb.out⟩

theorem finiteW_two (p a b c a' b' c' : Nat) (w : World) (h : TwoW w p a b c a' b' c') : Calls Try.prog 99 #[.slice (some ⟨p, 0, none⟩) 2 2] w (RetB (.bool (wok a b c && wok a' b' c')) w) := by
  have Ht := hid h
  clear h
  go_enter Try.func99, Try.ntmps99
  go_wp2_with fail
  refine (containsW_two _ _ _ _ _ _ _ _ Ht.out).mono ?_
  rintro e w1 ⟨rfl, hb⟩
  have Hb := hid hb
  clear hb
  go_wp2_with fail
  go_ret
  exact ⟨rfl, Hb.out⟩

theorem areW_two (p a b c a' b' c' : Nat) (w : World) (h : TwoW w p a b c a' b' c') : Calls Try.prog 88 #[.slice (some ⟨p, 0, none⟩) 2 2] w (RetB (.bool (wok a b c && wok a' b' c')) w) := by
  have Ht := hid h
  clear h
  go_enter Try.func88, Try.ntmps88
  go_wp2_with fail
  refine (finiteW_two _ _ _ _ _ _ _ _ Ht.out).mono ?_
  rintro e w1 ⟨rfl, hb⟩
  have Hb := hid hb
  clear hb
  go_wp2_with fail
  go_ret
  exact ⟨rfl, Hb.out⟩

/-- The list itself, if it is right. -/
def RetOwn (b : Bool) (p : Nat) (w : World) (e : Ending) (w' : World) : Prop := (match b with
  | true => e = .returned (.tuple #[.slice (some ⟨p, 0, none⟩) 2 2, .bool true])
  | false => e = .returned (.tuple #[.slice none 0 0, .bool false])) ∧ Below w.heap.size w w'
theorem told_two (p a b c a' b' c' : Nat) (w : World) (h : TwoW w p a b c a' b' c') : Calls Try.prog 66 #[.slice (some ⟨p, 0, none⟩) 2 2] w (RetOwn (wok a b c && wok a' b' c') p w) := by
  have HA := hid (areW_two p a b c a' b' c' w h)
  clear h
  generalize (wok a b c && wok a' b' c') = B at *
  cases B
  all_goals
    go_enter Try.func66, Try.ntmps66
    go_wp2_with fail
    refine HA.out.mono ?_
    rintro e w1 ⟨rfl, hb⟩
    have Hb := hid hb
    clear hb
    go_wp2_with fail
    go_ret2
    exact ⟨rfl, Hb.out⟩
theorem give_two (p a b c a' b' c' : Nat) (w : World) (h : TwoW w p a b c a' b' c') : Calls Try.prog 65 #[.slice (some ⟨p, 0, none⟩) 2 2] w (RetOwn (wok a b c && wok a' b' c') p w) := by
  have HA := hid (l02Are_two p a b c a' b' c' w h)
  clear h
  generalize (wok a b c && wok a' b' c') = B at *
  cases B
  all_goals
    go_enter Try.func65, Try.ntmps65
    go_wp2_with fail
    refine HA.out.mono ?_
    rintro e w1 ⟨rfl, n, rfl⟩
    go_wp2_with fail
    go_ret2
    exact ⟨rfl, below_draws _ _⟩

/-- What both sides of PairOfWhirls come to. -/
def pairB (gap s : Nat) : Bool := posB gap && okP (halfN gap) s
theorem negF_run (x : Nat) : Op.negFloat .f32 x = ng x := rfl

set_option maxHeartbeats 2000000 in
theorem specPair_any (gap s : Nat) (w : World) : Calls Try.prog 25 #[.float .f32 gap, .float .f32 s] w (RetPair (pairB gap s) (halfN gap) s w) := by
  cases hp : posB gap with
  | false =>
    have e : pairB gap s = false := by unfold pairB; rw [hp]; rfl
    rw [e]
    clear e
    go_enter Try.func25, Try.ntmps25
    go_wp2_with (go_at_call 46; refine (above_any _ _).mono ?_; rw [hp]; rintro e w' ⟨rfl, k, rfl⟩)
    go_ret2
    exact ⟨rfl, below_draws _ _⟩
  | true =>
    have e : pairB gap s = okP (halfN gap) s := by unfold pairB; rw [hp]; rfl
    have hnum : ∃ a m p, Ieee.single.read gap = .number a m p := by
      by_cases h : ∃ a m p, Ieee.single.read gap = .number a m p
      · exact h
      · exfalso
        have := not_num_fin (x := gap) fun a m p hh => h ⟨a, m, p, hh⟩
        unfold posB at hp
        rw [this] at hp
        cases hp
    obtain ⟨a, m, p, hr⟩ := hnum
    have q1 : ∀ W : World, (binOp .mul 22 (.float .f32 1056964608) (.float .f32 gap)).run Try.prog W = .ok (.float .f32 (halfN gap)) W := fun W => run_float_arith W .mul 22 .f32 _ _ _ (half_both hr).1
    rw [e]
    clear e hr
    generalize halfN gap = h at *
    go_enter Try.func25, Try.ntmps25
    go_wp2_with (go_at_call 46; refine (above_any _ _).mono ?_; rw [hp]; rintro e w' ⟨rfl, k, rfl⟩)
    have hB : okP h s = (wok h 0 s && wok (ng h) (ng 0) (ng s)) := rfl
    rcases Bool.eq_false_or_eq_true (okP h s) with hv | hv
    all_goals
      refine (give_two _ h 0 s (ng h) (ng 0) (ng s) _ ⟨by simp [go_sem], by simp [go_sem], by simp [go_sem], by simp [go_sem]⟩).mono ?_
      rw [← hB, hv]
      rintro e w1 ⟨rfl, hb⟩
      have Hb := hid hb
      clear hb hB
      go_wp2_with fail
      go_ret2
    · unfold RetPair
      rw [hv]
      exact ⟨_, rfl, own_below2 (own_below2 (World.ownsRow_lit _ _ 2 (Nat.le_refl _) (by unfold maxLen; omega) rfl) (below_draws _ _)) Hb.out, (below_drewN ((Below.refl _ _).alloc (Nat.le_refl _) _) _).trans (Hb.out.mono (by first | omega | (simp; done) | (simp; omega)))⟩
    · unfold RetPair
      rw [hv]
      exact ⟨rfl, (below_drewN ((Below.refl _ _).alloc (Nat.le_refl _) _) _).trans (Hb.out.mono (by first | omega | (simp; done) | (simp; omega)))⟩

set_option maxHeartbeats 2000000 in
theorem implPair_any (gap s : Nat) (w : World) : Calls Try.prog 26 #[.float .f32 gap, .float .f32 s] w (RetPair (pairB gap s) (halfN gap) s w) := by
  cases hp : posB gap with
  | false =>
    have e : pairB gap s = false := by unfold pairB; rw [hp]; rfl
    rw [e]
    have HL : Hid ((!(anyB notFin [gap] 1) && !(anyB notPos [gap] 1)) = false) := by show _ = _; rw [length_pos, hp]
    clear e
    go_enter Try.func26, Try.ntmps26
    go_wp2_with (go_at_call 50; refine (lengthOk_any _ 1 [gap] _ (by omega) (one_cell (by simp [go_sem]))).mono ?_; rw [HL.out]; rintro e w' ⟨rfl, k, rfl⟩)
    go_ret2
    exact ⟨rfl, below_drewN ((Below.refl _ _).alloc (Nat.le_refl _) _) _⟩
  | true =>
    have e : pairB gap s = okP (halfN gap) s := by unfold pairB; rw [hp]; rfl
    have HL : Hid ((!(anyB notFin [gap] 1) && !(anyB notPos [gap] 1)) = true) := by show _ = _; rw [length_pos, hp]
    have hnum : ∃ a m p, Ieee.single.read gap = .number a m p := by
      by_cases h : ∃ a m p, Ieee.single.read gap = .number a m p
      · exact h
      · exfalso
        have := not_num_fin (x := gap) fun a m p hh => h ⟨a, m, p, hh⟩
        unfold posB at hp
        rw [this] at hp
        cases hp
    obtain ⟨a, m, p, hr⟩ := hnum
    have q1 : ∀ W : World, (binOp .quo 22 (.float .f32 gap) (.float .f32 1073741824)).run Try.prog W = .ok (.float .f32 (halfN gap)) W := fun W => run_float_arith W .quo 22 .f32 _ _ _ (half_both hr).2
    rw [e]
    clear e hr hp
    generalize halfN gap = h at *
    go_enter Try.func26, Try.ntmps26
    go_wp2_with (go_at_call 50; refine (lengthOk_any _ 1 [gap] _ (by omega) (one_cell (by simp [go_sem]))).mono ?_; rw [HL.out]; rintro e w' ⟨rfl, k, rfl⟩)
    have hB : okP h s = (wok h 0 s && wok (ng h) (ng 0) (ng s)) := rfl
    rcases Bool.eq_false_or_eq_true (okP h s) with hv | hv
    all_goals
      refine (told_two _ h 0 s (ng h) (ng 0) (ng s) _ ⟨by simp [go_sem], by simp [go_sem], by simp [go_sem], by simp [go_sem]⟩).mono ?_
      rw [← hB, hv]
      rintro e w1 ⟨rfl, hb⟩
      have Hb := hid hb
      clear hb hB
      go_wp2_with fail
      go_ret2
    · unfold RetPair
      rw [hv]
      have ho := World.ownsRow_lit (base := w.heap.size) (e := 66) (size := 2) (w.alloc (.cells #[.float .f32 gap] 22)) #[.complex .f32 h 0, .float .f32 s, .complex .f32 (ng h) (ng 0), .float .f32 (ng s)] 2 (by simp) (by unfold maxLen; omega) rfl
      rw [World.size_alloc] at ho
      exact ⟨_, rfl, own_below2 (own_below2 ho (below_draws _ _)) Hb.out, (below_drewN (((Below.refl _ _).alloc (Nat.le_refl _) _).alloc (by simp) _) _).trans (Hb.out.mono (by first | omega | (simp; done) | (simp; omega)))⟩
    · unfold RetPair
      rw [hv]
      exact ⟨rfl, (below_drewN (((Below.refl _ _).alloc (Nat.le_refl _) _).alloc (by simp) _) _).trans (Hb.out.mono (by first | omega | (simp; done) | (simp; omega)))⟩
end Go.Proofs.Ytcclmlabcihdoaa
