/-
  Sines of turns: what both sides make of a number below 2 ^ 52 in size. Conditions: those of each contract.
-/
import Derived.Test.YtcclmlabcihdoaaBase
import Derived.Test.YtcclmlabcihdoaaInt
namespace Go.Proofs.Ytcclmlabcihdoaa.Fl
open Go

abbrev oneF : Nat := 4607182418800017408
abbrev halfF : Nat := 4602678819172646912
abbrev quartF : Nat := 4598175219545276416
abbrev turnF : Nat := 4618760256179416344

theorem one_read : Ieee.double.read oneF = .number false (2 ^ 52) (-52) := by decide +kernel
theorem half_read : Ieee.double.read halfF = .number false (2 ^ 52) (-53) := by decide +kernel
theorem quart_read : Ieee.double.read quartF = .number false (2 ^ 52) (-54) := by decide +kernel
theorem turn_read : Ieee.double.read turnF = .number false 7074237752028440 (-50) := by decide +kernel
theorem one_le : LeN 0 oneF := len_const 0 52 one_read (by decide) (by decide)
theorem half_le : LeN (-1) halfF := len_const (-1) 52 half_read (by decide) (by decide)
theorem quart_le : LeN (-2) quartF := len_const (-2) 52 quart_read (by decide) (by decide)
theorem turn_le : LeN 3 turnF := len_const 3 53 turn_read (by decide) (by decide)

/-- What is left of a number of turns, before and behind the turn to 0 .. 1. -/
def partF (x : Nat) : Nat := if whl x = 0 then x else fb .sub x (tr x)
def partN (x : Nat) : Nat := if (Ieee.double.order (partF x) 0 == some .lt) = true then fb .add (partF x) oneF else partF x

theorem part_le {x : Nat} (hx : x < 2 ^ 64) (h : Mid x) : LeN 0 (partF x) := by
  obtain ⟨_, _, h0, h1⟩ := whole_bd hx h
  unfold partF
  split
  · rename_i hz; exact (h0 hz).2
  · rename_i hz; exact (h1 hz).2.2
theorem part_add {x : Nat} (hx : x < 2 ^ 64) (h : Mid x) : floatBits .add .f64 (partF x) oneF = some (fb .add (partF x) oneF) ∧ LeN 1 (fb .add (partF x) oneF) := by
  obtain ⟨h1, h2⟩ := LeN.add (op := .add) (.inl rfl) (part_le hx h) one_le (by decide) (by decide)
  exact ⟨h1, h2.mono (by decide)⟩
theorem partN_le {x : Nat} (hx : x < 2 ^ 64) (h : Mid x) : LeN 1 (partN x) := by
  unfold partN
  split
  · exact (part_add hx h).2
  · exact (part_le hx h).mono (by decide)

/-- The divisors. -/
def dS (k : Nat) : Nat := floatOfInt .f64 (2 * (k : Int) * (2 * (k : Int) + 1))
def farB (k : Nat) : Bool := match Ieee.double.read (dS k) with
  | .number false m p => decide (2 ^ 52 ≤ m) && decide (-50 ≤ p)
  | _ => false
theorem dS_far_fin : ∀ k : Fin 9, k.val = 0 ∨ farB k.val = true := by decide +kernel
theorem dS_far {k : Nat} (h1 : 1 ≤ k) (h2 : k ≤ 8) : Far 2 (some (dS k)) := by
  have := dS_far_fin ⟨k, by omega⟩
  rcases this with h | h
  · simp at h; omega
  · unfold farB at h
    split at h
    · rename_i m p hr
      simp only [Bool.and_eq_true, decide_eq_true_eq] at h
      exact far_const 2 52 hr h.1 (by omega)
    · cases h

/-- The sum by Horner's rule, after some rounds. -/
def sinP (u : Nat) : Nat → Nat
  | 0 => oneF
  | j + 1 => fb .sub oneF (fb .quo (fb .mul u (sinP u j)) (dS (8 - j)))

theorem sin_round {u : Nat} (hu : LeN 12 u) {j : Nat} (hj : j < 8) (hp : LeN (11 * j) (sinP u j)) :
    floatBits .mul .f64 u (sinP u j) = some (fb .mul u (sinP u j)) ∧
    floatBits .quo .f64 (fb .mul u (sinP u j)) (dS (8 - j)) = some (fb .quo (fb .mul u (sinP u j)) (dS (8 - j))) ∧
    floatBits .sub .f64 oneF (fb .quo (fb .mul u (sinP u j)) (dS (8 - j))) = some (sinP u (j + 1)) ∧ LeN (11 * ((j + 1 : Nat) : Int)) (sinP u (j + 1)) := by
  obtain ⟨h1, h2⟩ := LeN.mul hu hp (by omega) (by omega) (by omega) (by omega)
  obtain ⟨h3, h4⟩ := LeN.quo h2 (dS_far (k := 8 - j) (by omega) (by omega)) (by omega) (by omega) (by omega) (by omega)
  obtain ⟨h5, h6⟩ := LeN.add (op := .sub) (.inr rfl) (one_le.mono (show (0 : Int) ≤ 12 + 11 * (j : Int) - 2 by omega)) h4 (by omega) (by omega)
  exact ⟨h1, h3, h5, h6.mono (by omega)⟩
theorem sinP_le {u : Nat} (hu : LeN 12 u) : ∀ {j : Nat}, j ≤ 8 → LeN (11 * j) (sinP u j)
  | 0, _ => one_le.mono (by decide)
  | j + 1, h => (sin_round hu (j := j) (by omega) (sinP_le hu (by omega))).2.2.2

/-- The sine, out of what is left of the turns: whether it lies below; the part to a quarter; the sine. -/
def belowF (f : Nat) : Bool := Ieee.double.order f halfF == some .gt || Ieee.double.order f halfF == some .eq
def foldF (f : Nat) : Nat := if belowF f then fb .sub f halfF else f
def backF (f : Nat) : Nat := if (Ieee.double.order (foldF f) quartF == some .gt) = true then fb .sub halfF (foldF f) else foldF f
def radF (f : Nat) : Nat := fb .mul (backF f) turnF
def sqF (f : Nat) : Nat := fb .mul (radF f) (radF f)
def upF (f : Nat) : Nat := fb .mul (radF f) (sinP (sqF f) 8)
def sineN (x : Nat) : Nat := if belowF (partN x) then Op.negFloat .f64 (upF (partN x)) else upF (partN x)

theorem sine_facts {f : Nat} (hf : LeN 1 f) :
    floatBits .sub .f64 f halfF = some (fb .sub f halfF) ∧ floatBits .sub .f64 halfF (foldF f) = some (fb .sub halfF (foldF f)) ∧
    floatBits .mul .f64 (backF f) turnF = some (radF f) ∧ floatBits .mul .f64 (radF f) (radF f) = some (sqF f) ∧ LeN 12 (sqF f) ∧
    floatBits .mul .f64 (radF f) (sinP (sqF f) 8) = some (upF f) ∧ LeN 94 (upF f) := by
  obtain ⟨h1, h2⟩ := LeN.add (op := .sub) (.inr rfl) hf (half_le.mono (show (-1 : Int) ≤ 1 by decide)) (by decide) (by decide)
  have h3 : LeN 2 (foldF f) := by
    unfold foldF
    split
    · exact h2.mono (by decide)
    · exact hf.mono (by decide)
  obtain ⟨h4, h5⟩ := LeN.add (op := .sub) (.inr rfl) (half_le.mono (show (-1 : Int) ≤ 2 by decide)) h3 (by decide) (by decide)
  have h6 : LeN 3 (backF f) := by
    unfold backF
    split
    · exact h5.mono (by decide)
    · exact h3.mono (by decide)
  obtain ⟨h7, h8⟩ := LeN.mul h6 turn_le (by decide) (by decide) (by decide) (by decide)
  obtain ⟨h9, h10⟩ := LeN.mul (a := radF f) (b := radF f) h8 h8 (by decide) (by decide) (by decide) (by decide)
  have h11 := sinP_le (u := sqF f) (h10.mono (by decide)) (j := 8) (by decide)
  obtain ⟨h12, h13⟩ := LeN.mul (a := radF f) (b := sinP (sqF f) 8) h8 h11 (by decide) (by decide) (by decide) (by decide)
  exact ⟨h1, h4, h7, h9, h10.mono (by decide), h12, h13.mono (by decide)⟩

theorem sineN_le {x : Nat} (hx : x < 2 ^ 64) (h : Mid x) : LeN 94 (sineN x) := by
  have := sine_facts (partN_le hx h)
  unfold sineN
  split
  · exact LeN.neg this.2.2.2.2.2.2
  · exact this.2.2.2.2.2.2

/-- The walk's step of an operation on floats whose result is known. -/
theorem runF {P : Program} {op : BinOp} (t : TypeId) {x y r : Nat} (h : floatBits op .f64 x y = some r) : ∀ w : World, (binOp op t (.float .f64 x) (.float .f64 y)).run P w = .ok (.float .f64 r) w := fun w => run_float_arith w op t .f64 x y r h

@[go_sem] theorem run_neg_float (P : Program) (k : FloatKind) (b : Nat) (w : World) : (Op.unary .neg (.float k b)).run P w = .ok (.float k (Op.negFloat k b)) w := rfl

/-- A call that hands back these bits and leaves the world as it was. -/
def Rf (k : FloatKind) (r : Nat) (w : World) (e : Ending) (w' : World) : Prop := e = .returned (.float k r) ∧ w = w'

theorem mid_num {x : Nat} (h : Mid x) : ∃ s m p, Ieee.double.read x = .number s m p := by
  obtain ⟨s, m, p, hr, _⟩ := h
  exact ⟨s, m, p, hr⟩
theorem sub_self {x : Nat} {s : Bool} {m : Nat} {p : Int} (h : Ieee.double.read x = .number s m p) : floatBits .sub .f64 x x = some 0 := by
  show ((Ieee.double.read x).sum (Ieee.double.read x).opposite).map Ieee.double.write = some 0
  rw [h]
  show some (Ieee.double.write (.number (if Ieee.signed s m (p - min p p).toNat + Ieee.signed (!s) m (p - min p p).toNat = 0 then s && !s else _) (Ieee.signed s m (p - min p p).toNat + Ieee.signed (!s) m (p - min p p).toNat).natAbs (min p p))) = _
  have e : Ieee.signed s m (p - min p p).toNat + Ieee.signed (!s) m (p - min p p).toNat = 0 := by
    unfold Ieee.signed
    cases s <;> simp <;> omega
  rw [e, if_pos rfl]
  have e2 : (s && !s) = false := by cases s <;> rfl
  rw [e2]
  exact congrArg some (write_zero false _)
theorem zero_order : FloatKind.f64.format.order 0 0 = some .eq := by decide +kernel
end Go.Proofs.Ytcclmlabcihdoaa.Fl
namespace Go.Proofs.Ytcclmlabcihdoaa
open Go.RowKit Go.Proofs.Ytcclmlabcihdoaa.Fl

theorem toIntegral_eq (n : String) (way : Ieee.Toward) (x : Nat) : Extern.MathFloor.toIntegral n way #[.float .f64 x] = (match FloatKind.f64.decode x with
    | .nan s t => if FloatKind.f64.format.quiet t = t then pure (.float .f64 x) else do
        let kept ← choose (.extern "math.Floor,Ceil,Trunc,RoundToEven.signallingNaN kept" 2)
        pure (.float .f64 (if kept == 1 then x else FloatKind.f64.encode (.nan s (FloatKind.f64.format.quiet t))))
    | d => pure (.float .f64 (FloatKind.f64.encode (d.integral way)))) := rfl

theorem run_trunc {x : Nat} {s : Bool} {m : Nat} {p : Int} (h : Ieee.double.read x = .number s m p) (w : World) : (callFunc 103 #[.float .f64 x]).run Try.prog w = .ok (.value (.float .f64 (tr x))) w := by
  rw [run_callFunc_extern (e := Extern.MathFloor.toIntegral "math.archTrunc" .zero) Try.func103 (by kernel_rfl) (by kernel_rfl) (by kernel_rfl) (by kernel_rfl)]
  have h' : FloatKind.f64.decode x = .number s m p := h
  rw [toIntegral_eq, h']
  unfold tr
  rw [h]
  rfl

theorem Trunc_num {x : Nat} {s : Bool} {m : Nat} {p : Int} (w : World) (h : Ieee.double.read x = .number s m p) : Calls Try.prog 92 #[.float .f64 x] w (Rf .f64 (tr x) w) := by
  have hr := run_trunc h
  clear h
  go_enter Try.func92, Try.ntmps92
  go_wp2_with fail
  go_ret
  exact ⟨rfl, rfl⟩

theorem partOf_mid (x : Nat) (w : World) (hx : x < 2 ^ 64) (h : Mid x) : Calls Try.prog 71 #[.float .f64 x] w (Rf .f64 (partN x) w) := by
  obtain ⟨s, m, p, hn⟩ := mid_num h
  obtain ⟨_, ht, _, hsub⟩ := whole_bd hx h
  have hadd := runF (P := Try.prog) 26 (part_add hx h).1
  have Hn := hid hn; clear hn
  have e : partN x = if (FloatKind.f64.format.order (partF x) 0 == some .lt) = true then fb .add (partF x) oneF else partF x := rfl
  have He := hid e; clear e
  by_cases h0 : whl x = 0
  · have e2 : partF x = x := if_pos h0
    have ht1 : (FloatKind.f64.format.order (tr x) 0 != some .eq) = false := by
      rw [show ∀ a b : Option Ordering, (a != b) = !(a == b) from fun _ _ => rfl, ht, decide_eq_true h0]; rfl
    rw [e2] at He hadd
    clear ht hsub h0 e2 h
    cases hl : (FloatKind.f64.format.order x 0 == some .lt) with
    | true =>
      have H2 : Hid (partN x = fb .add x oneF) := He.out.trans (if_pos hl)
      clear He
      go_enter Try.func71, Try.ntmps71
      go_wp2_with (go_at_call 92; refine (Trunc_num _ Hn.out).mono ?_; rintro e w' ⟨rfl, rfl⟩)
      go_ret
      exact ⟨by rw [H2.out]; rfl, rfl⟩
    | false =>
      have H2 : Hid (partN x = x) := He.out.trans (if_neg (by rw [hl]; decide))
      clear He
      go_enter Try.func71, Try.ntmps71
      go_wp2_with (go_at_call 92; refine (Trunc_num _ Hn.out).mono ?_; rintro e w' ⟨rfl, rfl⟩)
      go_ret
      exact ⟨by rw [H2.out]; rfl, rfl⟩
  · have e2 : partF x = fb .sub x (tr x) := if_neg h0
    have ht1 : (FloatKind.f64.format.order (tr x) 0 != some .eq) = true := by
      rw [show ∀ a b : Option Ordering, (a != b) = !(a == b) from fun _ _ => rfl, ht, decide_eq_false h0]; rfl
    have hs := runF (P := Try.prog) 26 (hsub h0).2.1
    rw [e2] at He hadd
    clear ht hsub h0 e2 h
    cases hl : (FloatKind.f64.format.order (fb .sub x (tr x)) 0 == some .lt) with
    | true =>
      have H2 : Hid (partN x = fb .add (fb .sub x (tr x)) oneF) := He.out.trans (if_pos hl)
      clear He
      go_enter Try.func71, Try.ntmps71
      go_wp2_with (go_at_call 92; refine (Trunc_num _ Hn.out).mono ?_; rintro e w' ⟨rfl, rfl⟩)
      go_ret
      exact ⟨by rw [H2.out]; rfl, rfl⟩
    | false =>
      have H2 : Hid (partN x = fb .sub x (tr x)) := He.out.trans (if_neg (by rw [hl]; decide))
      clear He
      go_enter Try.func71, Try.ntmps71
      go_wp2_with (go_at_call 92; refine (Trunc_num _ Hn.out).mono ?_; rintro e w' ⟨rfl, rfl⟩)
      go_ret
      exact ⟨by rw [H2.out]; rfl, rfl⟩

theorem wrap_k {k : Nat} (h2 : k ≤ 8) : wrap64 (2 * (k : Int) * (2 * (k : Int) + 1)) = 2 * (k : Int) * (2 * (k : Int) + 1) := by
  have h : (2 * k) * (2 * k + 1) ≤ 16 * 17 := Nat.mul_le_mul (by omega) (by omega)
  have e : (2 * (k : Int) * (2 * (k : Int) + 1)) = (((2 * k) * (2 * k + 1) : Nat) : Int) := by push_cast; rfl
  rw [e]
  unfold wrap64
  omega

/-- The facts of a round: what the loop's variable k leaves to do. -/
theorem sin_facts {u : Nat} (hu : LeN 12 u) {k : Nat} (h1 : 1 ≤ k) (h2 : k ≤ 8) :
    floatBits .mul .f64 u (sinP u (8 - k)) = some (fb .mul u (sinP u (8 - k))) ∧
    floatBits .quo .f64 (fb .mul u (sinP u (8 - k))) (floatOfInt .f64 (wrap64 (2 * (k : Int) * (2 * (k : Int) + 1)))) = some (fb .quo (fb .mul u (sinP u (8 - k))) (dS k)) ∧
    floatBits .sub .f64 oneF (fb .quo (fb .mul u (sinP u (8 - k))) (dS k)) = some (sinP u (8 - (k - 1))) := by
  obtain ⟨a, b, c, _⟩ := sin_round hu (j := 8 - k) (by omega) (sinP_le hu (by omega))
  rw [show 8 - (8 - k) = k from by omega] at b c
  rw [show 8 - k + 1 = 8 - (k - 1) from by omega] at c
  rw [wrap_k h2]
  exact ⟨a, b, c⟩

set_option maxHeartbeats 1000000 in
theorem sine_walk (x f g b z u up res : Nat) (w : World) (HP : Hid (∀ W : World, Calls Try.prog 71 #[.float .f64 x] W (Rf .f64 f W)))
    (H1 : (FloatKind.f64.format.order f halfF = some .gt ∧ floatBits .sub .f64 f halfF = some g) ∨ (FloatKind.f64.format.order f halfF = some .eq ∧ floatBits .sub .f64 f halfF = some g) ∨ (FloatKind.f64.format.order f halfF = some .lt ∧ g = f))
    (H2 : ((FloatKind.f64.format.order g quartF == some .gt) = true ∧ floatBits .sub .f64 halfF g = some b) ∨ ((FloatKind.f64.format.order g quartF == some .gt) = false ∧ b = g))
    (s3 : floatBits .mul .f64 b turnF = some z) (s4 : floatBits .mul .f64 z z = some u) (hu : LeN 12 u) (s6 : floatBits .mul .f64 z (sinP u 8) = some up)
    (Hres : Hid (res = if belowF f = true then Op.negFloat .f64 up else up)) :
    Calls Try.prog 64 #[.float .f64 x] w (Rf .f64 res w) := by
  have r3 := runF (P := Try.prog) 26 s3
  have r4 := runF (P := Try.prog) 26 s4
  have r6 := runF (P := Try.prog) 26 s6
  have HR : Hid (∀ k : Nat, 1 ≤ k → k ≤ 8 → _) := fun k h1 h2 => sin_facts hu (k := k) h1 h2
  clear s3 s4 s6 hu
  rcases H1 with ⟨t1, s1⟩ | ⟨t1, s1⟩ | ⟨t1, rfl⟩ <;> rcases H2 with ⟨t2, s2⟩ | ⟨t2, rfl⟩ <;> (try have r1 := runF (P := Try.prog) 26 s1) <;> (try clear s1) <;> (try have r2 := runF (P := Try.prog) 26 s2) <;> (try clear s2)
  all_goals
    have T1 := hid t1
    go_enter Try.func64, Try.ntmps64
    go_wp2_with (go_at_call 71; refine (HP.out _).mono ?_; rintro e w' ⟨rfl, rfl⟩)
    go_loop [7, 8] (fun p i => ∃ k : Nat, k ≤ 8 ∧ i = .int .i64 k ∧ p = .float .f64 (sinP u (8 - k))) (fun _ i => (intOf i).toNat)
    case atStart => exact ⟨8, by omega, rfl, rfl⟩
    case round =>
      obtain ⟨k, hk, rfl, rfl⟩ := hrel
      by_cases hlt : 1 ≤ k
      · obtain ⟨f1, f2, f3⟩ := HR.out k hlt hk
        have q1 := runF (P := Try.prog) 26 f1
        have q2 := runF (P := Try.prog) 26 f2
        have q3 := runF (P := Try.prog) 26 f3
        clear f1 f2 f3
        go_wp2_with fail
        exact ⟨⟨k - 1, by omega, by rw [show ((k : Int) - 1) = ((k - 1 : Nat) : Int) from by omega], rfl⟩, by simp only [intOf]; omega⟩
      · have e8 : sinP u (8 - k) = sinP u 8 := by rw [show 8 - k = 8 from by omega]
        have hk0 : (k : Int) < 1 := by omega
        rw [e8]
        clear e8 hlt
        go_wp2_with fail
        go_ret
        exact ⟨by rw [Hres.out]; unfold belowF; rw [show Ieee.double.order _ halfF = _ from T1.out]; rfl, rfl⟩

theorem fold_facts {f : Nat} (hf : LeN 1 f) (s1 : floatBits .sub .f64 f halfF = some (fb .sub f halfF)) :
    (FloatKind.f64.format.order f halfF = some .gt ∧ floatBits .sub .f64 f halfF = some (foldF f)) ∨ (FloatKind.f64.format.order f halfF = some .eq ∧ floatBits .sub .f64 f halfF = some (foldF f)) ∨ (FloatKind.f64.format.order f halfF = some .lt ∧ foldF f = f) := by
  obtain ⟨s, m, p, ⟨y, hy, hr⟩, _⟩ := hf.out
  cases hy
  have ho : FloatKind.f64.format.order f halfF = some _ := order_num hr half_read
  generalize compare (sv s (mg m p)) (sv false (mg (2 ^ 52) (-53))) = o at ho
  have hb : belowF f = (some o == some .gt || some o == some .eq) := by unfold belowF; rw [show Ieee.double.order f halfF = some o from ho]
  cases o with
  | gt => exact .inl ⟨ho, by rw [s1]; unfold foldF; rw [hb]; rfl⟩
  | eq => exact .inr (.inl ⟨ho, by rw [s1]; unfold foldF; rw [hb]; rfl⟩)
  | lt => exact .inr (.inr ⟨ho, by unfold foldF; rw [hb]; rfl⟩)
theorem back_facts (f : Nat) (s2 : floatBits .sub .f64 halfF (foldF f) = some (fb .sub halfF (foldF f))) :
    ((FloatKind.f64.format.order (foldF f) quartF == some .gt) = true ∧ floatBits .sub .f64 halfF (foldF f) = some (backF f)) ∨ ((FloatKind.f64.format.order (foldF f) quartF == some .gt) = false ∧ backF f = foldF f) := by
  cases h : (FloatKind.f64.format.order (foldF f) quartF == some .gt) with
  | true => exact .inl ⟨rfl, by rw [s2]; unfold backF; rw [show Ieee.double.order (foldF f) quartF == some .gt from h]; rfl⟩
  | false =>
    refine .inr ⟨rfl, ?_⟩
    unfold backF
    rw [if_neg]
    intro h'
    rw [show (Ieee.double.order (foldF f) quartF == some .gt) = false from h] at h'
    cases h'

/-- The program's sine of a middling number. -/
theorem sine_mid (x : Nat) (w : World) (hx : x < 2 ^ 64) (h : Mid x) : Calls Try.prog 64 #[.float .f64 x] w (Rf .f64 (sineN x) w) := by
  obtain ⟨s1, s2, s3, s4, hu, s6, _⟩ := sine_facts (partN_le hx h)
  exact sine_walk x _ _ _ _ _ _ _ w (fun W => partOf_mid x W hx h) (fold_facts (partN_le hx h) s1) (back_facts _ s2) s3 s4 hu s6 rfl
end Go.Proofs.Ytcclmlabcihdoaa
