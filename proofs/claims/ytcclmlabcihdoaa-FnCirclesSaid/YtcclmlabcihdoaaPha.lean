/-
  Phasors: both sides come to one point of the circle; the law. Conditions: the bits are those of a float64.
-/
import Derived.Test.YtcclmlabcihdoaaSinT
import Derived.Laws.Cover3
import Derived.Deep.QuietTactic
import Derived.BigQuiet
namespace Go.Proofs.Ytcclmlabcihdoaa.Fl
open Go

/-- Not above c quarters. -/
structure LeQ (c x : Nat) : Prop where
  out : ∃ s m p, Ieee.double.read x = .number s m p ∧ sv s (mg m p) ≤ (mg c (-2) : Int)

def geQ (x : Nat) : Bool := Ieee.double.order x quartF == some .gt || Ieee.double.order x quartF == some .eq

/-- The number against a quarter. -/
theorem quart_cases {c x : Nat} (h : LeQ c x) : (FloatKind.f64.format.order x quartF = some .gt ∨ FloatKind.f64.format.order x quartF = some .eq ∨ FloatKind.f64.format.order x quartF = some .lt) := by
  obtain ⟨s, m, p, hr, _⟩ := h.out
  have ho : FloatKind.f64.format.order x quartF = some _ := order_num hr quart_read
  generalize compare (sv s (mg m p)) (sv false (mg (2 ^ 52) (-54))) = o at ho
  cases o
  · exact .inr (.inr ho)
  · exact .inr (.inl ho)
  · exact .inl ho
theorem geQ_gt {x : Nat} (h : FloatKind.f64.format.order x quartF = some .gt) : geQ x = true := by unfold geQ; rw [show Ieee.double.order x quartF = _ from h]; rfl
theorem geQ_eq {x : Nat} (h : FloatKind.f64.format.order x quartF = some .eq) : geQ x = true := by unfold geQ; rw [show Ieee.double.order x quartF = _ from h]; rfl
theorem geQ_lt {x : Nat} (h : FloatKind.f64.format.order x quartF = some .lt) : geQ x = false := by unfold geQ; rw [show Ieee.double.order x quartF = _ from h]; rfl

theorem leq_of_len {x : Nat} (h : LeN 1 x) : LeQ 8 x := by
  obtain ⟨s, m, p, ⟨y, hy, hr⟩, hb⟩ := h.out
  cases hy
  refine ⟨s, m, p, hr, ?_⟩
  have e : mg 8 (-2) = 2 ^ ((1 : Int) + 4000).toNat := by rw [show (8 : Nat) = 2 ^ 3 from rfl, mg_pow 3 (-2) (by omega)]; congr 1
  rw [e]
  unfold sv
  split <;> omega

/-- One quarter less. -/
theorem quart_step {c x : Nat} (h : LeQ c x) (hc : c ≤ 8) (hg : geQ x = true) :
    1 ≤ c ∧ floatBits .sub .f64 x quartF = some (fb .sub x quartF) ∧ LeQ (c - 1) (fb .sub x quartF) ∧ LeN 1 (fb .sub x quartF) := by
  obtain ⟨s, m, p, hr, hb⟩ := h.out
  have ho : Ieee.double.order x quartF = some _ := order_num hr quart_read
  have e1 : mg (2 ^ 52) (-54) = mg 1 (-2) := by rw [mg_pow 52 (-54) (by omega)]; unfold mg; rw [Nat.one_mul]; congr 1
  have hge : (mg 1 (-2) : Int) ≤ sv s (mg m p) := by
    unfold geQ at hg
    rw [ho, e1, show sv false (mg 1 (-2)) = (mg 1 (-2) : Int) from rfl] at hg
    rcases Int.lt_or_le (sv s (mg m p)) (mg 1 (-2) : Int) with h1 | h1
    · rw [lt_compare h1] at hg; exact absurd hg (by decide)
    · exact h1
  have hg0 : 0 < mg 1 (-2) := by unfold mg; rw [Nat.one_mul]; exact Nat.two_pow_pos _
  have ec : ∀ z, mg z (-2) = z * mg 1 (-2) := fun z => by unfold mg; rw [Nat.one_mul]
  have hc1 : 1 ≤ c := by
    rcases Nat.eq_zero_or_pos c with h0 | h0
    · rw [h0, mg_zero] at hb; omega
    · exact h0
  have hn1 : Num (some x) s m p := ⟨x, rfl, hr⟩
  have hn2 : Num (some quartF) false (2 ^ 52) (-54) := ⟨quartF, rfl, quart_read⟩
  have b1 := hn1.bd
  obtain ⟨u, N, B, e, hB, hval, _⟩ := ar_sub_num hn1 hn2
  have hval2 : sv u (mg N B) = sv s (mg m p) - (mg 1 (-2) : Int) := by
    rw [hval, e1]; rfl
  have hup : mg N B ≤ mg (c - 1) (-2) := by
    have h1 := sv_abs u (mg N B)
    have h2 : (mg (c - 1) (-2) : Int) = (mg c (-2) : Int) - (mg 1 (-2) : Int) := by
      rw [ec c, ec (c - 1)]
      obtain ⟨d, rfl⟩ : ∃ d, c = d + 1 := ⟨c - 1, by omega⟩
      rw [show d + 1 - 1 = d from rfl, Nat.succ_mul]
      omega
    omega
  obtain ⟨m', p', hr', hp', hu, _⟩ := nearest_bd u (m := N) (p := B) (by omega) (c := c - 1) (e := -2) (by omega) (by omega) (by omega) hup
  have hfb : floatBits .sub .f64 x quartF = some (Ieee.double.write (.number u N B)) := e
  have hb2 := hu (c - 1) (-2) (by omega) (by omega) hup
  have hfb2 : fb .sub x quartF = Ieee.double.write (.number u N B) := by unfold fb; rw [hfb]; rfl
  have hr2 : Ieee.double.read (fb .sub x quartF) = .number u m' p' := by rw [hfb2]; exact hr'
  refine ⟨hc1, by rw [hfb2]; exact hfb, ⟨u, m', p', hr2, ?_⟩, ⟨u, m', p', ⟨_, rfl, hr2⟩, ?_⟩⟩
  · unfold sv; split <;> omega
  · refine Nat.le_trans hb2 ?_
    have e8 : mg 8 (-2) = 2 ^ ((1 : Int) + 4000).toNat := by rw [show (8 : Nat) = 2 ^ 3 from rfl, mg_pow 3 (-2) (by omega)]; congr 1
    rw [← e8]
    exact mg_le_same (by omega)

/-- Quarters taken off as long as there is one: what is left, and how many. -/
def walkQ : Nat → Nat → Nat × Nat
  | 0, f => (f, 0)
  | n + 1, f => if geQ f = true then ((walkQ n (fb .sub f quartF)).1, (walkQ n (fb .sub f quartF)).2 + 1) else (f, 0)
theorem walkQ_step {n f : Nat} (h : geQ f = true) : walkQ (n + 1) f = ((walkQ n (fb .sub f quartF)).1, (walkQ n (fb .sub f quartF)).2 + 1) := by rw [walkQ, if_pos h]
theorem walkQ_stop {n f : Nat} (h : geQ f = false) : walkQ n f = (f, 0) := by
  cases n with
  | zero => rfl
  | succ n => rw [walkQ, if_neg (by rw [h]; decide)]

/-- What holds at the head of each round: k quarters are off, g is left. -/
def AtQ (f0 k g : Nat) : Prop := k ≤ 8 ∧ LeQ (8 - k) g ∧ LeN 1 g ∧ walkQ 9 f0 = ((walkQ (9 - k) g).1, (walkQ (9 - k) g).2 + k)
theorem atQ_start {f : Nat} (h : LeN 1 f) : AtQ f 0 f := ⟨by omega, leq_of_len h, h, rfl⟩
theorem atQ_next {f0 k g : Nat} (h : AtQ f0 k g) (hg : geQ g = true) : k + 1 ≤ 8 ∧ floatBits .sub .f64 g quartF = some (fb .sub g quartF) ∧ AtQ f0 (k + 1) (fb .sub g quartF) := by
  obtain ⟨h1, h2, h3, h4⟩ := h
  obtain ⟨s1, s2, s3, s4⟩ := quart_step h2 (by omega) hg
  refine ⟨by omega, s2, by omega, ?_, s4, ?_⟩
  · rw [show 8 - (k + 1) = 8 - k - 1 from by omega]; exact s3
  · rw [h4, show 9 - k = (9 - (k + 1)) + 1 from by omega, walkQ_step hg]
    simp only [Prod.mk.injEq, true_and]
    omega
theorem atQ_end {f0 k g : Nat} (h : AtQ f0 k g) (hg : geQ g = false) : walkQ 9 f0 = (g, k) ∧ LeN 1 g := by
  obtain ⟨h1, h2, h3, h4⟩ := h
  rw [walkQ_stop hg] at h4
  exact ⟨by rw [h4]; simp, h3⟩

/-- The narrowed number. -/
def nar (x : Nat) : Nat := (floatToFloatBits .f64 x .f32).getD 0
theorem nar_is {k : Int} {x : Nat} (h : LeN k x) (hk : -1074 ≤ k) (hk2 : k ≤ 126) : floatToFloatBits .f64 x .f32 = some (nar x) := by
  have hf := h.out.fits hk hk2
  obtain ⟨s, m, p, ⟨y, hy, hr⟩, _⟩ := h.out
  cases hy
  have hd : FloatKind.f64.decode x = .number s m p := hr
  have := (hf x rfl s m p hd).resolve_left (by decide)
  have e : floatToFloatBits .f64 x .f32 = some (FloatKind.f32.encode (.number s m p)) := by
    unfold floatToFloatBits
    rw [if_neg (by decide), hd]
    simp only [this]
    rfl
  unfold nar
  rw [e]; rfl
theorem len_mid {k : Int} {x : Nat} (h : LeN k x) (hk : -4000 ≤ k) (hk2 : k < 52) : Mid x := by
  obtain ⟨s, m, p, ⟨y, hy, hr⟩, hb⟩ := h.out
  cases hy
  refine ⟨s, m, p, hr, Nat.lt_of_le_of_lt hb ?_⟩
  unfold mg
  rw [Nat.one_mul]
  exact Nat.pow_lt_pow_right (by omega) (by omega)
theorem fb_lt {op : BinOp} {x y : Nat} : fb op x y < 2 ^ 64 := by
  unfold fb
  cases h : floatBits op .f64 x y with
  | none => decide
  | some r =>
    have := floatBits_wf h
    simpa [Lit.wf] using this
theorem neg_lt {x : Nat} (h : x < 2 ^ 64) : Op.negFloat .f64 x < 2 ^ 64 := by
  unfold Op.negFloat
  exact Nat.xor_lt_two_pow h (by decide)

/-- The point, out of what is left of the turns. -/
def restN (x : Nat) : Nat := (walkQ 9 (partN x)).1
def qN (x : Nat) : Nat := (walkQ 9 (partN x)).2
def cosN (x : Nat) : Nat := sineN (fb .sub quartF (restN x))
def sinN (x : Nat) : Nat := sineN (restN x)
def reN (x : Nat) : Nat := if qN x = 1 then fb .sub 0 (sinN x) else if qN x = 2 then fb .sub 0 (cosN x) else if qN x = 3 then sinN x else cosN x
def imN (x : Nat) : Nat := if qN x = 1 then cosN x else if qN x = 2 then fb .sub 0 (sinN x) else if qN x = 3 then fb .sub 0 (cosN x) else sinN x

theorem zero_len : LeN 0 0 := len_const (s := false) (m := 0) (p := -1074) 0 0 (by decide +kernel) (by decide) (by decide)

theorem partN_lt {x : Nat} (hx : x < 2 ^ 64) : partN x < 2 ^ 64 := by
  have h : partF x < 2 ^ 64 := by
    unfold partF
    split
    · exact hx
    · exact fb_lt
  unfold partN
  split
  · exact fb_lt
  · exact h
theorem walkQ_lt : ∀ {n f : Nat}, f < 2 ^ 64 → (walkQ n f).1 < 2 ^ 64
  | 0, f, h => h
  | n + 1, f, h => by
    unfold walkQ
    split
    · exact walkQ_lt fb_lt
    · exact h

/-- All that both sides use of a middling number. -/
theorem pha_facts {x : Nat} (hx : x < 2 ^ 64) (hr : LeN 1 (restN x)) :
    restN x < 2 ^ 64 ∧ Mid (restN x) ∧ floatBits .sub .f64 quartF (restN x) = some (fb .sub quartF (restN x)) ∧ fb .sub quartF (restN x) < 2 ^ 64 ∧ Mid (fb .sub quartF (restN x)) ∧
    floatBits .sub .f64 0 (cosN x) = some (fb .sub 0 (cosN x)) ∧ floatBits .sub .f64 0 (sinN x) = some (fb .sub 0 (sinN x)) ∧
    floatToFloatBits .f64 (cosN x) .f32 = some (nar (cosN x)) ∧ floatToFloatBits .f64 (sinN x) .f32 = some (nar (sinN x)) ∧
    floatToFloatBits .f64 (fb .sub 0 (cosN x)) .f32 = some (nar (fb .sub 0 (cosN x))) ∧ floatToFloatBits .f64 (fb .sub 0 (sinN x)) .f32 = some (nar (fb .sub 0 (sinN x))) := by
  have h1 : restN x < 2 ^ 64 := walkQ_lt (partN_lt hx)
  have h2 : Mid (restN x) := len_mid hr (by decide) (by decide)
  obtain ⟨h3, h4⟩ := LeN.add (op := .sub) (.inr rfl) (quart_le.mono (show (-2 : Int) ≤ 1 by decide)) hr (by decide) (by decide)
  have h5 : Mid (fb .sub quartF (restN x)) := len_mid h4 (by decide) (by decide)
  have c1 : LeN 94 (cosN x) := sineN_le fb_lt h5
  have c2 : LeN 94 (sinN x) := sineN_le h1 h2
  obtain ⟨c3, c4⟩ := LeN.add (op := .sub) (.inr rfl) (zero_len.mono (show (0 : Int) ≤ 94 by decide)) c1 (by decide) (by decide)
  obtain ⟨c5, c6⟩ := LeN.add (op := .sub) (.inr rfl) (zero_len.mono (show (0 : Int) ≤ 94 by decide)) c2 (by decide) (by decide)
  exact ⟨h1, h2, h3, fb_lt, h5, c3, c5, nar_is c1 (by decide) (by decide), nar_is c2 (by decide) (by decide), nar_is c4 (by decide) (by decide), nar_is c6 (by decide) (by decide)⟩

/-- The walk's step of a narrowing whose result is known. -/
theorem runNar {P : Program} (src dst : TypeId) {x r : Nat} (hs : (P.underlying src).isSome = true) (hd : P.underlying dst = some (.float .f32)) (h : floatToFloatBits .f64 x .f32 = some r) : ∀ w : World, (convert src dst (.float .f64 x)).run P w = .ok (.float .f32 r) w :=
  fun w => run_convert_float_float w src dst .f64 .f32 x r hs hd h

/-- A call that hands back this complex number and leaves the world as it was. -/
def Rc (a b : Nat) (w : World) (e : Ending) (w' : World) : Prop := e = .returned (.complex .f32 a b) ∧ w = w'
/-- A call that hands back a complex number of these values. -/
def RetC (u v : Option Nat) (w : World) (e : Ending) (w' : World) : Prop := ∃ a b, Is .f32 u a ∧ Is .f32 v b ∧ e = .returned (.complex .f32 a b) ∧ ∃ n, w' = w.drewN n
theorem RetC.of {a b : Nat} {w w' : World} {e : Ending} (h : Rc a b w e w') : RetC (val .f32 a) (val .f32 b) w e w' := ⟨a, b, rfl, rfl, h.1, 0, h.2.symm⟩

section
variable {P : Program} (w : World)
theorem run_f2f (src dst : TypeId) (s k : FloatKind) (x : Nat) (hs : P.underlying src = some (.float s)) (hd : P.underlying dst = some (.float k)) (hfit : Fits s k (val s x)) :
    ∃ r n, (Conv.floatToFloat s x k).run P w = .ok (.float k r) (w.drewN n) ∧ Is k (cv s k (val s x)) r := by
  obtain ⟨r, n, h1, h2⟩ := run_cv w src dst s k x (by rw [hs]; rfl) hd hfit
  refine ⟨r, n, ?_, h2⟩
  rw [← h1]
  simp [convert, run_underlying hs, run_underlying hd]

theorem run_cvc (src dst fs fd : TypeId) (s k : FloatKind) (x y : Nat) (hs : (P.underlying src).isSome = true) (hd : P.underlying dst = some (.complex k)) (hfs : P.underlying fs = some (.float s)) (hfd : P.underlying fd = some (.float k))
    (hf1 : Fits s k (val s x)) (hf2 : Fits s k (val s y)) :
    ∃ r q n, (convert src dst (.complex s x y)).run P w = .ok (.complex k r q) (w.drewN n) ∧ Is k (cv s k (val s x)) r ∧ Is k (cv s k (val s y)) q := by
  obtain ⟨u, hs'⟩ := Option.isSome_iff_exists.1 hs
  obtain ⟨r, n1, h1, i1⟩ := run_f2f w fs fd s k x hfs hfd hf1
  obtain ⟨q, n2, h2, i2⟩ := run_f2f (w.drewN n1) fs fd s k y hfs hfd hf2
  refine ⟨r, q, n1 + n2, ?_, i1, i2⟩
  have e : (w.drewN n1).drewN n2 = w.drewN (n1 + n2) := by first | rfl | exact World.drewN_drewN _ _ _ | simp
  rw [← e]
  cases u <;> simp [convert, run_underlying hs', run_underlying hd, Conv.complexToComplex, h1, h2]
theorem wpList_cvc {ops : Array Oper} {rest : List Oper} {o : Oper} {a : Act} {Q : Exit → Act → World → Prop}
    (hg : o.guard = none) (src dst fs fd : TypeId) (l : Operand) (hop : o.op = Op.convert src dst l) (s k : FloatKind) (x y : Nat) (hl : a.eval l = .complex s x y) (hs : (P.underlying src).isSome = true) (hd : P.underlying dst = some (.complex k))
    (hfs : P.underlying fs = some (.float s)) (hfd : P.underlying fd = some (.float k))
    {u v : Option Nat} (hx : Is s u x) (hy : Is s v y) (hf1 : Fits s k u) (hf2 : Fits s k v)
    (hK : ∀ r q n, Is k (cv s k u) r → Is k (cv s k v) q → wpList P ops Q rest (a.put o.dst (.complex k r q)) (w.drewN n)) :
    wpList P ops Q (o :: rest) a w := by
  refine wpList_plain hg fun K hK' => ?_
  obtain ⟨r, q, n, hrun, i1, i2⟩ := run_cvc (P := P) w src dst fs fd s k x y hs hd hfs hfd (by rw [show val s x = u from hx]; exact hf1) (by rw [show val s y = v from hy]; exact hf2)
  rw [show val s x = u from hx] at i1
  rw [show val s y = v from hy] at i2
  unfold Oper.wp
  simp [execOp, hop, hl, hrun, Result.andThen]
  exact hK' _ _ (hK r q n i1 i2)
end
end Go.Proofs.Ytcclmlabcihdoaa.Fl
namespace Go.Proofs.Ytcclmlabcihdoaa
open Go.RowKit Go.Proofs.Ytcclmlabcihdoaa.Fl

theorem Narrow_bits {x r : Nat} (w : World) (h : floatToFloatBits .f64 x .f32 = some r) : Calls Try.prog 80 #[.float .f64 x] w (Rf .f32 r w) := by
  have q := runNar (P := Try.prog) 26 22 (by rw [Try.underlying26]; rfl) Try.underlying22 h
  clear h
  go_enter Try.func80, Try.ntmps80
  go_wp2_with fail
  go_ret
  exact ⟨rfl, rfl⟩

/-- What the branches on the quarters say. -/
theorem pha_ways (x k : Nat) (hk : qN x = k) : (k = 1 ∧ reN x = fb .sub 0 (sinN x) ∧ imN x = cosN x) ∨ (k = 2 ∧ reN x = fb .sub 0 (cosN x) ∧ imN x = fb .sub 0 (sinN x)) ∨ (k = 3 ∧ reN x = sinN x ∧ imN x = fb .sub 0 (cosN x)) ∨
    (((k : Int) == 1) = false ∧ ((k : Int) == 2) = false ∧ ((k : Int) == 3) = false ∧ reN x = cosN x ∧ imN x = sinN x) := by
  subst hk
  by_cases h1 : qN x = 1
  · exact .inl ⟨h1, by unfold reN; rw [if_pos h1], by unfold imN; rw [if_pos h1]⟩
  by_cases h2 : qN x = 2
  · exact .inr (.inl ⟨h2, by unfold reN; rw [if_neg h1, if_pos h2], by unfold imN; rw [if_neg h1, if_pos h2]⟩)
  by_cases h3 : qN x = 3
  · exact .inr (.inr (.inl ⟨h3, by unfold reN; rw [if_neg h1, if_neg h2, if_pos h3], by unfold imN; rw [if_neg h1, if_neg h2, if_pos h3]⟩))
  · refine .inr (.inr (.inr ⟨?_, ?_, ?_, by unfold reN; rw [if_neg h1, if_neg h2, if_neg h3], by unfold imN; rw [if_neg h1, if_neg h2, if_neg h3]⟩))
    · rw [beq_eq_false_iff_ne]; omega
    · rw [beq_eq_false_iff_ne]; omega
    · rw [beq_eq_false_iff_ne]; omega

set_option maxHeartbeats 4000000 in
theorem implPhasor_mid (x : Nat) (w : World) (hx : x < 2 ^ 64) (h : Mid x) : Calls Try.prog 33 #[.float .f64 x] w (Rc (nar (reN x)) (nar (imN x)) w) := by
  obtain ⟨s, m, p, hr, hlt⟩ := h
  have q0 := runF (P := Try.prog) 26 (sub_self hr)
  have z0 := zero_order
  have ho := (abs_order hr).2 hlt
  have Hx := hid hx
  have HP := hid (fun W : World => partOf_mid x W hx ⟨s, m, p, hr, hlt⟩)
  have HQ := hid (atQ_start (partN_le hx ⟨s, m, p, hr, hlt⟩))
  have HR := hid (show ∀ k g, walkQ 9 (partN x) = (g, k) → qN x = k ∧ restN x = g from fun k g e => by unfold qN restN; rw [e]; exact ⟨rfl, rfl⟩)
  clear hr hlt hx
  generalize partN x = f0 at *
  go_enter Try.func33, Try.ntmps33
  go_wp2_with (first | (go_at_call 63; refine (Abs_any _ _ Hx.out).mono ?_; rintro e w' ⟨rfl, rfl⟩) | (go_at_call 71; refine (HP.out _).mono ?_; rintro e w' ⟨rfl, rfl⟩))
  go_loop [3, 4] (fun f i => ∃ k g : Nat, i = .int .i64 k ∧ f = .float .f64 g ∧ Hid (AtQ f0 k g)) (fun _ i => 9 - (intOf i).toNat)
  case atStart => exact ⟨0, f0, rfl, rfl, HQ⟩
  case round =>
    obtain ⟨k, g, rfl, rfl, HA⟩ := hrel
    have hk8 : k ≤ 8 := HA.out.1
    rcases quart_cases HA.out.2.1 with t | t | t
    · obtain ⟨n1, n2, n3⟩ := atQ_next HA.out (geQ_gt t)
      have r1 := runF (P := Try.prog) 26 n2
      have N3 := hid n3
      clear n2 n3
      go_wp2_with fail
      exact ⟨⟨k + 1, _, by go_num, rfl, N3⟩, by simp only [intOf]; omega⟩
    · obtain ⟨n1, n2, n3⟩ := atQ_next HA.out (geQ_eq t)
      have r1 := runF (P := Try.prog) 26 n2
      have N3 := hid n3
      clear n2 n3
      go_wp2_with fail
      exact ⟨⟨k + 1, _, by go_num, rfl, N3⟩, by simp only [intOf]; omega⟩
    · obtain ⟨n1, n2⟩ := atQ_end HA.out (geQ_lt t)
      obtain ⟨e1, e2⟩ := HR.out _ _ n1
      have hw := pha_ways x k e1
      obtain ⟨p1, p2, p3, p4, p5, p6, p7, p8, p9, p10, p11⟩ := pha_facts Hx.out (by rw [e2]; exact n2)
      have c1 : Hid (∀ W : World, Calls Try.prog 64 #[.float .f64 (fb .sub quartF g)] W (Rf .f64 (cosN x) W)) := fun W => by rw [← e2]; exact sine_mid _ W p4 p5
      have c2 : Hid (∀ W : World, Calls Try.prog 64 #[.float .f64 g] W (Rf .f64 (sinN x) W)) := fun W => by unfold sinN; rw [← e2]; exact sine_mid _ W p1 p2
      rw [e2] at p3
      have r3 := runF (P := Try.prog) 26 p3
      have r6 := runF (P := Try.prog) 26 p6
      have r7 := runF (P := Try.prog) 26 p7
      have v8 := runNar (P := Try.prog) 26 22 (by rw [Try.underlying26]; rfl) Try.underlying22 p8
      have v9 := runNar (P := Try.prog) 26 22 (by rw [Try.underlying26]; rfl) Try.underlying22 p9
      have v10 := runNar (P := Try.prog) 26 22 (by rw [Try.underlying26]; rfl) Try.underlying22 p10
      have v11 := runNar (P := Try.prog) 26 22 (by rw [Try.underlying26]; rfl) Try.underlying22 p11
      clear n1 n2 e1 e2 p1 p2 p3 p4 p5 p6 p7 p8 p9 p10 p11 HR HA
      rcases hw with ⟨rfl, a1, a2⟩ | ⟨rfl, a1, a2⟩ | ⟨rfl, a1, a2⟩ | ⟨h1, h2, h3, a1, a2⟩
      all_goals
        have A1 := hid a1
        have A2 := hid a2
        clear a1 a2
        go_wp2_with fail
        refine (c1.out _).mono ?_
        rintro e w' ⟨rfl, rfl⟩
        go_wp2_with fail
        refine (c2.out _).mono ?_
        rintro e w' ⟨rfl, rfl⟩
        go_wp2_with fail
        go_ret
        exact ⟨by rw [A1.out, A2.out]; rfl, rfl⟩

set_option maxHeartbeats 4000000 in
theorem specPhasor_mid (x : Nat) (w : World) (hx : x < 2 ^ 64) (h : Mid x) : Calls Try.prog 70 #[.float .f64 x] w (Rc (nar (reN x)) (nar (imN x)) w) := by
  obtain ⟨ci, _, h0, h1⟩ := whole_bd hx h
  obtain ⟨o1, o2⟩ := mid_order h
  have ht := turn_facts hx h
  have HQ := hid (atQ_start (partN_le hx h))
  obtain ⟨s, m, p, hr, hlt⟩ := h
  have q0 := runF (P := Try.prog) 26 (sub_self hr)
  have z0 := zero_order
  have s0 : floatBits .sub .f64 x (floatOfInt .f64 (whl x)) = some (partF x) := by
    unfold partF
    by_cases hz : whl x = 0
    · rw [if_pos hz]; exact (h0 hz).1
    · rw [if_neg hz, (h1 hz).1]; exact (h1 hz).2.1
  have r0 := runF (P := Try.prog) 26 s0
  have qi : ∀ W : World, (convert 26 2 (.float .f64 x)).run Try.prog W = .ok (.int .i64 (whl x)) W := fun W => run_convert_float_int W 26 2 .f64 .i64 x _ (by rw [Try.underlying26]; rfl) Try.underlying2 ci
  have qf : ∀ W : World, (convert 2 26 (.int .i64 (whl x))).run Try.prog W = .ok (.float .f64 (floatOfInt .f64 (whl x))) W := fun W => run_convert_int_float W 2 26 .i64 .f64 (whl x) (by rw [Try.underlying2]; rfl) Try.underlying26
  have Hx := hid hx
  have HR := hid (show ∀ k g, walkQ 9 (partN x) = (g, k) → qN x = k ∧ restN x = g from fun k g e => by unfold qN restN; rw [e]; exact ⟨rfl, rfl⟩)
  clear hr hlt hx ci h0 h1 s0
  generalize partN x = f0 at *
  generalize floatOfInt .f64 (whl x) = iw at *
  rcases ht with ⟨t0, sa⟩ | ⟨t0, rfl⟩ <;> (try have ra := runF (P := Try.prog) 26 sa) <;> (try clear sa)
  all_goals
    go_enter Try.func70, Try.ntmps70
    go_wp2_with fail
    go_loop [3, 4] (fun f i => ∃ k g : Nat, i = .int .i64 k ∧ f = .float .f64 g ∧ Hid (AtQ _ k g)) (fun _ i => 9 - (intOf i).toNat)
    case atStart => exact ⟨0, _, rfl, rfl, HQ⟩
    case round =>
      obtain ⟨k, g, rfl, rfl, HA⟩ := hrel
      have hk8 : k ≤ 8 := HA.out.1
      rcases quart_cases HA.out.2.1 with t | t | t
      · obtain ⟨n1, n2, n3⟩ := atQ_next HA.out (geQ_gt t)
        have r1 := runF (P := Try.prog) 26 n2
        have N3 := hid n3
        clear n2 n3
        go_wp2_with fail
        exact ⟨⟨k + 1, _, by go_num, rfl, N3⟩, by simp only [intOf]; omega⟩
      · obtain ⟨n1, n2, n3⟩ := atQ_next HA.out (geQ_eq t)
        have r1 := runF (P := Try.prog) 26 n2
        have N3 := hid n3
        clear n2 n3
        go_wp2_with fail
        exact ⟨⟨k + 1, _, by go_num, rfl, N3⟩, by simp only [intOf]; omega⟩
      · obtain ⟨n1, n2⟩ := atQ_end HA.out (geQ_lt t)
        obtain ⟨e1, e2⟩ := HR.out _ _ n1
        have hw := pha_ways x k e1
        obtain ⟨p1, p2, p3, p4, p5, p6, p7, p8, p9, p10, p11⟩ := pha_facts Hx.out (by rw [e2]; exact n2)
        have c1 : Hid (∀ W : World, Calls Try.prog 85 #[.float .f64 (fb .sub quartF g)] W (Rf .f64 (cosN x) W)) := fun W => by rw [← e2]; exact wide_mid _ W p4 p5
        have c2 : Hid (∀ W : World, Calls Try.prog 85 #[.float .f64 g] W (Rf .f64 (sinN x) W)) := fun W => by unfold sinN; rw [← e2]; exact wide_mid _ W p1 p2
        rw [e2] at p3
        have r3 := runF (P := Try.prog) 26 p3
        have r6 := runF (P := Try.prog) 26 p6
        have r7 := runF (P := Try.prog) 26 p7
        have v8 : Hid (∀ W : World, Calls Try.prog 80 #[.float .f64 (cosN x)] W _) := fun W => Narrow_bits W p8
        have v9 : Hid (∀ W : World, Calls Try.prog 80 #[.float .f64 (sinN x)] W _) := fun W => Narrow_bits W p9
        have v10 : Hid (∀ W : World, Calls Try.prog 80 #[.float .f64 (fb .sub 0 (cosN x))] W _) := fun W => Narrow_bits W p10
        have v11 : Hid (∀ W : World, Calls Try.prog 80 #[.float .f64 (fb .sub 0 (sinN x))] W _) := fun W => Narrow_bits W p11
        clear n1 n2 e1 e2 p1 p2 p3 p4 p5 p6 p7 p8 p9 p10 p11 HR HA
        rcases hw with ⟨rfl, a1, a2⟩ | ⟨rfl, a1, a2⟩ | ⟨rfl, a1, a2⟩ | ⟨h1, h2, h3, a1, a2⟩
        all_goals
          have A1 := hid a1
          have A2 := hid a2
          clear a1 a2
          go_wp2_with fail
          refine (c1.out _).mono ?_
          rintro e w' ⟨rfl, rfl⟩
          go_wp2_with fail
          refine (c2.out _).mono ?_
          rintro e w' ⟨rfl, rfl⟩
          go_wp2_with fail
          ((with_reducible first | refine (v8.out _).mono ?_ | refine (v9.out _).mono ?_ | refine (v10.out _).mono ?_ | refine (v11.out _).mono ?_); rintro e w' ⟨rfl, rfl⟩)
          go_wp2_with fail
          ((with_reducible first | refine (v8.out _).mono ?_ | refine (v9.out _).mono ?_ | refine (v10.out _).mono ?_ | refine (v11.out _).mono ?_); rintro e w' ⟨rfl, rfl⟩)
          go_wp2_with fail
          go_ret
          exact ⟨by rw [A1.out, A2.out]; rfl, rfl⟩
end Go.Proofs.Ytcclmlabcihdoaa
