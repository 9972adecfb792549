/-
  Sums and sums of products of lists of float32 numbers: what both sides come to, and the walks of the two laws. Conditions: the bits of each number are those of a float32.
-/
import Derived.Test.YtekaacpdapghhaaList
namespace Go.Proofs.Ytekaacpdapghhaa.Fl
open Go Go.RowKit
theorem run_ar_nan {P : Program} (w : World) (op : BinOp) (hop : isAr op = true) (t : TypeId) (k : FloatKind) (x y : Nat) (h : floatBits op k x y = none) :
    (binOp op t (.float k x) (.float k y)).run P w = .ok (.float k ((Question.nanBits k x y).cut (w.tape w.drawn (.nanBits k x y)))) w.drew := by
  unfold floatBits at h
  cases op <;> simp [isAr] at hop <;> simp only at h <;> simp [binOp, Op.floatArith, h, Question.forced]

theorem ar_none_right (op : BinOp) (k : FloatKind) (a : Option Nat) : ar op k a none = none := by cases a <;> rfl

/-- The sum that is told: nothing of a list that is too long. -/
def sumTold (zs : List Nat) (len : Nat) : Option Nat := if (len : Int) ≤ 256 then sumTo zs len else val .f32 0
def dotTold (zs us : List Nat) (len len' : Nat) : Option Nat := if (len : Int) ≤ 256 ∧ len = len' then dotTo zs us len else val .f32 0
end Go.Proofs.Ytekaacpdapghhaa.Fl
namespace Go.Proofs.Ytekaacpdapghhaa
open Go.RowKit Go.Proofs.Ytekaacpdapghhaa.Fl

theorem specSum_any (p len cap : Nat) (zs : List Nat) (w : World) (hrow : NewF w p len zs) (hlen : len ≤ 1048576) :
    Calls Try.prog 10 #[.slice (some ⟨p, 0, none⟩) len cap] w (RetFT (sumTold zs len) (decide ((len : Int) ≤ 256)) w) := by
  have Hrow := hid hrow; clear hrow
  by_cases h : (len : Int) ≤ 256
  · have hs : sumTold zs len = sumTo zs len := if_pos h
    have Hs := hid hs; clear hs
    have Hd := hid (decide_eq_true h)
    go_enter Try.func10, Try.ntmps10
    go_wp2_with (first | (go_at_call 12; refine (l01Few_any _ _ _ _).mono ?_; rintro e w' ⟨rfl, n, rfl⟩) | (go_at_call 16; refine (l01Sum_any _ _ _ _ _ (Hrow.out.drewN _) hlen).mono ?_; rintro e w' ⟨r, hr, rfl, n, rfl⟩))
    go_ret2
    exact ⟨_, (by rw [Hs.out]; assumption), by rw [Hd.out]; rfl, _, rfl⟩
  · have hs : sumTold zs len = val .f32 0 := if_neg h
    have Hs := hid hs; clear hs
    have hd : decide ((len : Int) ≤ 256) = false := decide_eq_false h
    clear h
    go_enter Try.func10, Try.ntmps10
    go_wp2_with (first | (go_at_call 12; refine (l01Few_any _ _ _ _).mono ?_; rintro e w' ⟨rfl, n, rfl⟩))
    go_ret2
    exact ⟨0, Hs.out.symm, by rw [hd]; rfl, _, rfl⟩
theorem implSum_any (p len cap : Nat) (zs : List Nat) (w : World) (hrow : NewF w p len zs) (hlen : len ≤ 1048576) :
    Calls Try.prog 11 #[.slice (some ⟨p, 0, none⟩) len cap] w (RetFT (sumTold zs len) (decide ((len : Int) ≤ 256)) w) := by
  have Hrow := hid hrow; clear hrow
  by_cases h : (len : Int) ≤ 256
  · have hs : sumTold zs len = sumTo zs len := if_pos h
    have Hs := hid hs; clear hs
    have Hd := hid (decide_eq_true h)
    go_enter Try.func11, Try.ntmps11
    go_wp2_with (first | (go_at_call 14; refine (listOk_any _ _ _ _).mono ?_; rintro e w' ⟨rfl, n, rfl⟩) | (go_at_call 17; refine (sum_any _ _ _ _ _ (Hrow.out.drewN _) hlen).mono ?_; rintro e w' ⟨r, hr, rfl, n, rfl⟩))
    go_ret2
    exact ⟨_, (by rw [Hs.out]; assumption), by rw [Hd.out]; rfl, _, rfl⟩
  · have hs : sumTold zs len = val .f32 0 := if_neg h
    have Hs := hid hs; clear hs
    have hd : decide ((len : Int) ≤ 256) = false := decide_eq_false h
    clear h
    go_enter Try.func11, Try.ntmps11
    go_wp2_with (first | (go_at_call 14; refine (listOk_any _ _ _ _).mono ?_; rintro e w' ⟨rfl, n, rfl⟩))
    go_ret2
    exact ⟨0, Hs.out.symm, by rw [hd]; rfl, _, rfl⟩
set_option maxHeartbeats 1000000 in
theorem FnExactSumNumbers_walk (a : Option Addr) (len cap : Nat) (zs : List Nat) (w : World) (hrow : RowF w a len zs) : Calls Try.prog 4 #[.slice a len cap] w (Yes w) := by
  have Hrow := hid hrow; clear hrow
  by_cases hlt : (1048576 : Int) < (len : Int)
  · go_enter Try.func4, Try.ntmps4
    go_wp2_with fail
    go_ret
    exact ⟨rfl, Below.refl _ _⟩
  · have hlen : len ≤ 1048576 := by omega
    go_enter Try.func4, Try.ntmps4
    go_wp2_with fail
    refine (toFloat32S_any _ _ _ zs _ Hrow.out hlen).mono ?_
    rintro e w1 ⟨p1, rfl, hn1, hp1, hb1⟩
    have Hn1 := hid hn1; clear hn1
    go_wp2_with fail
    refine (specSum_any _ _ _ zs _ Hn1.out hlen).mono ?_
    rintro e w' ⟨r1, h1, rfl, m1, rfl⟩
    have hb2 := below_drewN hb1 m1
    go_wp2_with fail
    refine (toFloat32S_any _ _ _ zs _ (Hrow.out.below hb2) hlen).mono ?_
    rintro e w2 ⟨p2, rfl, hn2, hp2, hb3⟩
    have Hn2 := hid hn2; clear hn2
    have hb4 := hb2.trans (hb3.mono hb2.size)
    clear hb2 hb3
    go_wp2_with fail
    refine (implSum_any _ _ _ zs _ Hn2.out hlen).mono ?_
    rintro e w' ⟨r2, h2, rfl, m2, rfl⟩
    go_wp2_with (first | (refine wpList_cv _ rfl _ _ _ rfl .f32 .f64 _ rfl (by rw [Try.underlying23]; rfl) Try.underlying28 (by first | assumption | exact rfl) (fits_widen _) ?_; intro r n hr) | (go_at_call 8; refine (same_any _ _ _ _ (by assumption) (by assumption)).mono ?_; rintro e w' ⟨rfl, n, rfl⟩))
    refine (toFloat32S_any _ _ _ zs _ (Hrow.out.below (below_drewN hb4 _)) hlen).mono ?_
    rintro e w3 ⟨p3, rfl, hn3, hp3, hb5⟩
    have Hn3 := hid hn3; clear hn3
    have hb6 := (below_drewN hb4 _).trans (hb5.mono (below_drewN hb4 _).size)
    have Hn4 := hid ((Hn2.out.drewN _).below hb5)
    clear hb4 hb5
    go_wp2_with fail
    refine (eqFloat32S_any _ _ _ zs _ Hn4.out Hn3.out hlen).mono ?_
    rintro e w' ⟨rfl, m3, rfl⟩
    go_wp2_with fail
    all_goals (go_ret; exact ⟨rfl, below_drewN hb6 _⟩)
set_option maxHeartbeats 2000000 in
theorem l01Dot_any (p q len cap len' cap' : Nat) (zs us : List Nat) (w : World) (hp : NewF w p len zs) (hq : NewF w q len us) (hlen : len ≤ 1048576) (hle : len = len') :
    Calls Try.prog 13 #[.slice (some ⟨p, 0, none⟩) len cap, .slice (some ⟨q, 0, none⟩) len' cap'] w (RetF .f32 (dotTo zs us len) w) := by
  have hlen' : (len : Int) ≤ 1048576 := by omega
  subst hle
  have Hp := hid hp; have Hq := hid hq; clear hp hq
  go_enter Try.func13, Try.ntmps13
  go_wp2_with fail
  go_loopw [5, 6] (fun s i wr => ∃ k : Nat, k ≤ len ∧ i = .int .i64 k ∧ ∃ r, Hid (Is .f32 (dotTo zs us k) r) ∧ s = .float .f32 r ∧ ∃ m, wr = w.drewN m) (fun _ i _ => len - (intOf i).toNat)
  case atStart => exact ⟨0, Nat.zero_le _, rfl, 0, hid rfl, rfl, 0, rfl⟩
  case round =>
    obtain ⟨k, hk, rfl, s, hs, rfl, m, rfl⟩ := hrel
    by_cases hlt : k < len
    · have c1 := Hp.out k hlt
      have c2 := Hq.out k hlt
      have hk0 : (0 : Int) ≤ (k : Int) := Int.natCast_nonneg _
      have hk1 : (k : Int) < (len : Int) := by omega
      have hsn : dotTo zs us (k + 1) = ar .add .f32 (dotTo zs us k) (ar .mul .f32 (val .f32 (zs.getD k 0)) (val .f32 (us.getD k 0))) := rfl
      have Hsn := hid hsn; clear hsn
      generalize zs.getD k 0 = z at *
      generalize us.getD k 0 = u at *
      rw [show dotTo zs us k = val .f32 s from hs.out.symm] at Hsn
      clear hs
      cases hm : ar .mul .f32 (val .f32 z) (val .f32 u) with
      | some r =>
        rw [hm] at Hsn
        have hmul := fun t w' => run_float_arith (P := Try.prog) w' .mul t .f32 z u r (by rw [← ar_val]; exact hm)
        have hvr : val .f32 r = some r := val_of_not_nan (floatBits_not_nan (by rw [← ar_val]; exact hm))
        clear hm
        cases ha : ar .add .f32 (val .f32 s) (some r) with
        | some x =>
          rw [ha] at Hsn
          have hfb : floatBits .add .f32 s r = some x := by rw [← ar_val, hvr]; exact ha
          have hadd := fun t w' => run_float_arith (P := Try.prog) w' .add t .f32 s r x hfb
          have hx : Is .f32 (some x) x := val_of_not_nan (floatBits_not_nan hfb)
          have Hx := hid hx
          clear ha hvr hx hfb
          go_wp2_with fail
          go_region_held3 (fun w' => w'.cell? ⟨p, k, none⟩ = some (.float .f32 z) ∧ w'.cell? ⟨q, k, none⟩ = some (.float .f32 u)) (go_keep) (fail)
          go_wp2_with fail
          exact ⟨⟨k + 1, by omega, by go_num, _, (by rw [Hsn.out]; exact Hx.out), rfl, _, rfl⟩, by simp [intOf]; omega⟩
        | none =>
          rw [ha] at Hsn
          have hadd := fun t w' => run_ar_nan (P := Try.prog) w' .add rfl t .f32 s r (by rw [← ar_val, hvr]; exact ha)
          have hx : ∀ t, Is .f32 none ((Question.nanBits .f32 s r).cut t) := fun t => val_of_nan (cut_nan .f32 _ (.inl ⟨s, r, rfl⟩) t)
          have Hx := hid hx
          clear ha hvr hx
          go_wp2_with fail
          go_region_with (fail)
          all_goals go_wp2_with fail
          all_goals exact ⟨⟨k + 1, by omega, by go_num, _, (by rw [Hsn.out]; exact Hx.out _), rfl, _, rfl⟩, by simp [intOf]; omega⟩
      | none =>
        rw [hm, ar_none_right] at Hsn
        have hmul := fun t w' => run_ar_nan (P := Try.prog) w' .mul rfl t .f32 z u (by rw [← ar_val]; exact hm)
        have hadd := fun t w' c => run_ar_nan (P := Try.prog) w' .add rfl t .f32 s ((Question.nanBits .f32 z u).cut c) (floatBits_nan_right (cut_nan .f32 _ (.inl ⟨z, u, rfl⟩) c))
        have hx : ∀ y t, Is .f32 none ((Question.nanBits .f32 s y).cut t) := fun y t => val_of_nan (cut_nan .f32 _ (.inl ⟨s, y, rfl⟩) t)
        have Hx := hid hx
        clear hm hx
        go_wp2_with fail
        go_region_with (fail)
        all_goals go_wp2_with fail
        all_goals exact ⟨⟨k + 1, by omega, by go_num, _, (by rw [Hsn.out]; exact Hx.out _ _), rfl, _, rfl⟩, by simp [intOf]; omega⟩
    · have hkl : k = len := by omega
      go_wp2_with fail
      go_ret
      exact ⟨_, (by rw [← hkl]; exact hs.out), rfl, _, rfl⟩
set_option maxHeartbeats 1000000 in
theorem dot_any (p q len cap len' cap' : Nat) (zs us : List Nat) (w : World) (hp : NewF w p len zs) (hq : NewF w q len us) (hlen : len ≤ 1048576) (hle : len = len') :
    Calls Try.prog 15 #[.slice (some ⟨p, 0, none⟩) len cap, .slice (some ⟨q, 0, none⟩) len' cap'] w (RetF .f32 (dotTo zs us len) w) := by
  have hlen' : (len : Int) ≤ 1048576 := by omega
  subst hle
  have Hp := hid hp; have Hq := hid hq; clear hp hq
  go_enter Try.func15, Try.ntmps15
  go_wp2_with fail
  go_loopw [5, 10] (fun s i wr => ∃ k : Nat, k ≤ len ∧ i = .int .i64 k ∧ ∃ r, Hid (Is .f32 (dotTo zs us k) r) ∧ s = .float .f32 r ∧ ∃ m, wr = w.drewN m) (fun _ i _ => len - (intOf i).toNat)
  case atStart => exact ⟨0, Nat.zero_le _, rfl, 0, hid rfl, rfl, 0, rfl⟩
  case round =>
    obtain ⟨k, hk, rfl, s, hs, rfl, m, rfl⟩ := hrel
    by_cases hlt : k < len
    · have c1 := Hp.out k hlt
      have c2 := Hq.out k hlt
      have hsn : dotTo zs us (k + 1) = ar .add .f32 (dotTo zs us k) (ar .mul .f32 (val .f32 (zs.getD k 0)) (val .f32 (us.getD k 0))) := rfl
      have Hsn := hid hsn; clear hsn
      generalize zs.getD k 0 = z at *
      generalize us.getD k 0 = u at *
      have hs' : Is .f32 (dotTo zs us k) s := hs.out
      generalize dotTo zs us k = v at *
      go_wp2_with (refine wpList_ar _ rfl _ _ _ _ _ rfl _ _ _ rfl rfl rfl (by first | assumption | exact rfl) (by first | assumption | exact rfl) ?_; intro r n hr)
      exact ⟨⟨k + 1, by omega, by go_num, _, (by rw [Hsn.out]; assumption), rfl, _, rfl⟩, by simp [intOf]; omega⟩
    · have hkl : k = len := by omega
      go_wp2_with fail
      go_ret
      exact ⟨_, (by rw [← hkl]; exact hs.out), rfl, _, rfl⟩
set_option maxHeartbeats 1000000 in
theorem specDot_any (p q len cap len' cap' : Nat) (zs us : List Nat) (w : World) (hp : NewF w p len zs) (hq : NewF w q len' us) (hlen : len ≤ 1048576) (hlen2 : len' ≤ 1048576) :
    Calls Try.prog 5 #[.slice (some ⟨p, 0, none⟩) len cap, .slice (some ⟨q, 0, none⟩) len' cap'] w (RetFT (dotTold zs us len len') (decide ((len : Int) ≤ 256 ∧ len = len')) w) := by
  have Hp := hid hp; have Hq := hid hq; clear hp hq
  by_cases h : (len : Int) ≤ 256
  · have hd : decide ((len : Int) ≤ 256) = true := decide_eq_true h
    by_cases he : len = len'
    · subst he
      have hs : dotTold zs us len len = dotTo zs us len := if_pos ⟨h, rfl⟩
      have hdd : decide ((len : Int) ≤ 256 ∧ len = len) = true := decide_eq_true ⟨h, rfl⟩
      have Hs := hid hs; have Hd := hid hdd; clear hs hdd h
      go_enter Try.func5, Try.ntmps5
      go_wp2_with (first | (go_at_call 12; refine (l01Few_any _ _ _ _).mono ?_; rintro e w' ⟨rfl, n, rfl⟩) | (go_at_call 13; refine (l01Dot_any _ _ _ _ _ _ _ _ _ (Hp.out.drewN _) (Hq.out.drewN _) hlen rfl).mono ?_; rintro e w' ⟨r, hr, rfl, n, rfl⟩))
      go_ret2
      exact ⟨_, (by rw [Hs.out]; assumption), by rw [Hd.out]; rfl, _, rfl⟩
    · have hs : dotTold zs us len len' = val .f32 0 := if_neg (fun x => he x.2)
      have hdd : decide ((len : Int) ≤ 256 ∧ len = len') = false := decide_eq_false (fun x => he x.2)
      have hne : ((len : Int) != (len' : Int)) = true := by rw [bne_iff_ne]; omega
      have Hs := hid hs; have Hd := hid hdd; clear hs hdd h he
      go_enter Try.func5, Try.ntmps5
      go_wp2_with (first | (go_at_call 12; refine (l01Few_any _ _ _ _).mono ?_; rintro e w' ⟨rfl, n, rfl⟩))
      go_ret2
      exact ⟨0, Hs.out.symm, by rw [Hd.out]; rfl, _, rfl⟩
  · have hd : decide ((len : Int) ≤ 256) = false := decide_eq_false h
    have hs : dotTold zs us len len' = val .f32 0 := if_neg (fun x => h x.1)
    have hdd : decide ((len : Int) ≤ 256 ∧ len = len') = false := decide_eq_false (fun x => h x.1)
    have Hs := hid hs; have Hd := hid hdd; clear hs hdd h
    go_enter Try.func5, Try.ntmps5
    go_wp2_with (first | (go_at_call 12; refine (l01Few_any _ _ _ _).mono ?_; rintro e w' ⟨rfl, n, rfl⟩))
    go_ret2
    exact ⟨0, Hs.out.symm, by rw [Hd.out]; rfl, _, rfl⟩
set_option maxHeartbeats 1000000 in
theorem implDot_any (p q len cap len' cap' : Nat) (zs us : List Nat) (w : World) (hp : NewF w p len zs) (hq : NewF w q len' us) (hlen : len ≤ 1048576) (hlen2 : len' ≤ 1048576) :
    Calls Try.prog 7 #[.slice (some ⟨p, 0, none⟩) len cap, .slice (some ⟨q, 0, none⟩) len' cap'] w (RetFT (dotTold zs us len len') (decide ((len : Int) ≤ 256 ∧ len = len')) w) := by
  have Hp := hid hp; have Hq := hid hq; clear hp hq
  by_cases h : (len : Int) ≤ 256
  · have hd : decide ((len : Int) ≤ 256) = true := decide_eq_true h
    by_cases he : len = len'
    · subst he
      have hs : dotTold zs us len len = dotTo zs us len := if_pos ⟨h, rfl⟩
      have hdd : decide ((len : Int) ≤ 256 ∧ len = len) = true := decide_eq_true ⟨h, rfl⟩
      have Hs := hid hs; have Hd := hid hdd; clear hs hdd h
      go_enter Try.func7, Try.ntmps7
      go_wp2_with (first | (go_at_call 14; refine (listOk_any _ _ _ _).mono ?_; rintro e w' ⟨rfl, n, rfl⟩) | (go_at_call 15; refine (dot_any _ _ _ _ _ _ _ _ _ (Hp.out.drewN _) (Hq.out.drewN _) hlen rfl).mono ?_; rintro e w' ⟨r, hr, rfl, n, rfl⟩))
      go_ret2
      exact ⟨_, (by rw [Hs.out]; assumption), by rw [Hd.out]; rfl, _, rfl⟩
    · have hs : dotTold zs us len len' = val .f32 0 := if_neg (fun x => he x.2)
      have hdd : decide ((len : Int) ≤ 256 ∧ len = len') = false := decide_eq_false (fun x => he x.2)
      have hne : ((len : Int) != (len' : Int)) = true := by rw [bne_iff_ne]; omega
      have Hs := hid hs; have Hd := hid hdd; clear hs hdd h he
      go_enter Try.func7, Try.ntmps7
      go_wp2_with (first | (go_at_call 14; refine (listOk_any _ _ _ _).mono ?_; rintro e w' ⟨rfl, n, rfl⟩))
      go_ret2
      exact ⟨0, Hs.out.symm, by rw [Hd.out]; rfl, _, rfl⟩
  · have hd : decide ((len : Int) ≤ 256) = false := decide_eq_false h
    have hs : dotTold zs us len len' = val .f32 0 := if_neg (fun x => h x.1)
    have hdd : decide ((len : Int) ≤ 256 ∧ len = len') = false := decide_eq_false (fun x => h x.1)
    have Hs := hid hs; have Hd := hid hdd; clear hs hdd h
    go_enter Try.func7, Try.ntmps7
    go_wp2_with (first | (go_at_call 14; refine (listOk_any _ _ _ _).mono ?_; rintro e w' ⟨rfl, n, rfl⟩))
    go_ret2
    exact ⟨0, Hs.out.symm, by rw [Hd.out]; rfl, _, rfl⟩
set_option maxHeartbeats 4000000 in
theorem FnExactDotNumbers_walk (a : Option Addr) (len cap : Nat) (zs : List Nat) (b : Option Addr) (len' cap' : Nat) (us : List Nat) (w : World) (hrow : RowF w a len zs) (hrow' : RowF w b len' us) :
    Calls Try.prog 3 #[.slice a len cap, .slice b len' cap'] w (Yes w) := by
  have Ha := hid hrow; have Hb := hid hrow'; clear hrow hrow'
  by_cases hlt : (1048576 : Int) < (len : Int)
  · go_enter Try.func3, Try.ntmps3
    go_wp2_with fail
    go_ret
    exact ⟨rfl, Below.refl _ _⟩
  · by_cases hlt' : (1048576 : Int) < (len' : Int)
    · go_enter Try.func3, Try.ntmps3
      go_wp2_with fail
      go_ret
      exact ⟨rfl, Below.refl _ _⟩
    · have hlen : len ≤ 1048576 := by omega
      have hlen' : len' ≤ 1048576 := by omega
      go_enter Try.func3, Try.ntmps3
      go_wp2_with fail
      refine (toFloat32S_any _ _ _ zs _ Ha.out hlen).mono ?_
      rintro e w1 ⟨p1, rfl, hn1, _, hb1⟩
      have Hn1 := hid hn1; clear hn1
      go_wp2_with fail
      refine (toFloat32S_any _ _ _ us _ (Hb.out.below hb1) hlen').mono ?_
      rintro e w2 ⟨q1, rfl, hm1, _, hb2⟩
      have Hm1 := hid hm1; clear hm1
      have Hn1 := hid (Hn1.out.below hb2)
      have hc2 := hb1.trans (hb2.mono hb1.size)
      clear hb1 hb2
      go_wp2_with fail
      refine (specDot_any _ _ _ _ _ _ zs us _ Hn1.out Hm1.out hlen hlen').mono ?_
      rintro e w' ⟨r1, h1, rfl, m1, rfl⟩
      clear Hn1 Hm1
      have hc3 := below_drewN hc2 m1
      clear hc2
      go_wp2_with fail
      refine (toFloat32S_any _ _ _ zs _ (Ha.out.below hc3) hlen).mono ?_
      rintro e w3 ⟨p2, rfl, hn2, _, hb3⟩
      have Hn2 := hid hn2; clear hn2
      have hc4 := hc3.trans (hb3.mono hc3.size)
      clear hb3 hc3
      go_wp2_with fail
      refine (toFloat32S_any _ _ _ us _ (Hb.out.below hc4) hlen').mono ?_
      rintro e w4 ⟨q2, rfl, hm2, _, hb4⟩
      have Hm2 := hid hm2; clear hm2
      have Hn2 := hid (Hn2.out.below hb4)
      have hc5 := hc4.trans (hb4.mono hc4.size)
      clear hb4 hc4
      go_wp2_with fail
      refine (implDot_any _ _ _ _ _ _ zs us _ Hn2.out Hm2.out hlen hlen').mono ?_
      rintro e w' ⟨r2, h2, rfl, m2, rfl⟩
      go_wp2_with (first | (refine wpList_cv _ rfl _ _ _ rfl .f32 .f64 _ rfl (by rw [Try.underlying23]; rfl) Try.underlying28 (by first | assumption | exact rfl) (fits_widen _) ?_; intro r n hr) | (go_at_call 8; refine (same_any _ _ _ _ (by assumption) (by assumption)).mono ?_; rintro e w' ⟨rfl, n, rfl⟩))
      refine (toFloat32S_any _ _ _ zs _ (Ha.out.below (below_drewN hc5 _)) hlen).mono ?_
      rintro e w5 ⟨p3, rfl, hn3, _, hb5⟩
      have Hn3 := hid hn3; clear hn3
      have hc6 := (below_drewN hc5 _).trans (hb5.mono (below_drewN hc5 _).size)
      have Hn4 := hid ((Hn2.out.drewN _).below hb5)
      have Hm4 := hid ((Hm2.out.drewN _).below hb5)
      clear hc5 hb5 Hn2 Hm2
      go_wp2_with fail
      refine (eqFloat32S_any _ _ _ zs _ Hn4.out Hn3.out hlen).mono ?_
      rintro e w' ⟨rfl, m3, rfl⟩
      go_wp2_with fail
      refine (toFloat32S_any _ _ _ us _ (Hb.out.below (below_drewN hc6 _)) hlen').mono ?_
      rintro e w6 ⟨q3, rfl, hm3, _, hb6⟩
      have Hm3 := hid hm3; clear hm3
      have hc7 := (below_drewN hc6 _).trans (hb6.mono (below_drewN hc6 _).size)
      have Hm5 := hid ((Hm4.out.drewN _).below hb6)
      clear hc6 hb6 Hn4 Hm4
      go_wp2_with fail
      refine (eqFloat32S_any _ _ _ us _ Hm5.out Hm3.out hlen').mono ?_
      rintro e w' ⟨rfl, m4, rfl⟩
      go_wp2_with fail
      all_goals (go_ret; exact ⟨rfl, below_drewN hc7 _⟩)
end Go.Proofs.Ytekaacpdapghhaa
