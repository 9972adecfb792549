/-
  Lists of float32 numbers: copies, comparisons, sums, sums of products: what both sides come to. Conditions: a list holds at most 1048576 numbers; the bits of each are those of a float32.
-/
import Derived.Test.YtfmlebjaopfelaaDoorBase
import Derived.Below
import Derived.Deep.RegionHeld3
import Derived.Deep.RegionWith
namespace Go.Proofs.YtfmlebjaopfelaaDoor.Fl
open Go Go.RowKit

/-- A slice of float32 numbers that came in: nil, or a row of cells. -/
def RowF (w : World) (a : Option Addr) (len : Nat) (zs : List Nat) : Prop :=
  (∀ i, zs.getD i 0 < 4294967296) ∧ (len = 0 ∨ ∃ b o, a = some ⟨b, o, none⟩ ∧ ∀ i, i < len → w.cell? ⟨b, o + i, none⟩ = some (.float .f32 (zs.getD i 0)))

/-- A slice of the call's own: at the head of a block. -/
def NewF (w : World) (p len : Nat) (zs : List Nat) : Prop := ∀ i, i < len → w.cell? ⟨p, i, none⟩ = some (.float .f32 (zs.getD i 0))

theorem RowF.below {w w' : World} {a : Option Addr} {len : Nat} {zs : List Nat} (h : RowF w a len zs) (hb : Below w.heap.size w w') : RowF w' a len zs := by
  refine ⟨h.1, ?_⟩
  rcases h.2 with h | ⟨b, o, rfl, hc⟩
  · exact .inl h
  · refine .inr ⟨b, o, rfl, fun i hi => ?_⟩
    have h1 := hc i hi
    rw [hb.cell (World.block_lt_of_cell? w _ h1)]
    exact h1

theorem NewF.below {w w' : World} {p len : Nat} {zs : List Nat} (h : NewF w p len zs) (hb : Below w.heap.size w w') : NewF w' p len zs := fun i hi => by
  have h1 := h i hi
  rw [hb.cell (World.block_lt_of_cell? w _ h1)]
  exact h1
theorem NewF.drewN {w : World} {p len : Nat} {zs : List Nat} (h : NewF w p len zs) (n : Nat) : NewF (w.drewN n) p len zs := h

/-- The sum of the first k numbers. -/
def sumTo (zs : List Nat) : Nat → Option Nat
  | 0 => val .f32 0
  | k + 1 => ar .add .f32 (sumTo zs k) (val .f32 (zs.getD k 0))
/-- The sum of the first k products. -/
def dotTo (zs us : List Nat) : Nat → Option Nat
  | 0 => val .f32 0
  | k + 1 => ar .add .f32 (dotTo zs us k) (ar .mul .f32 (val .f32 (zs.getD k 0)) (val .f32 (us.getD k 0)))

/-- Two results: a float of a known value, and a Bool. -/
def RetFT (v : Option Nat) (b : Bool) (w : World) (e : Ending) (w' : World) : Prop := ∃ r, Is .f32 v r ∧ e = .returned (.tuple #[.float .f32 r, .bool b]) ∧ ∃ n, w' = w.drewN n

/-- A copy: a new slice with the same numbers. -/
def Copied (len : Nat) (zs : List Nat) (w : World) (e : Ending) (w' : World) : Prop :=
  ∃ p, e = .returned (.slice (some ⟨p, 0, none⟩) len len) ∧ NewF w' p len zs ∧ w.heap.size ≤ p ∧ Below w.heap.size w w'

theorem cv_not_nan {s k : FloatKind} {x r : Nat} (h : cv s k (val s x) = some r) : (k.decode r).isNaN = false := by
  unfold cv val at h
  split at h
  · cases h
  · rename_i hn
    simp only [Option.bind_some] at h
    unfold floatToFloatBits at h
    split at h
    · rename_i e; cases h; subst e; simpa using hn
    · split at h
      · cases h
      · cases h; exact write_not_nan _ _ rfl
      · split at h
        · cases h
        · cases h; exact write_not_nan _ _ rfl

theorem cv_none {x : Nat} (h : cv .f32 .f64 (val .f32 x) = none) : val .f32 x = none := by
  cases hv : val .f32 x with
  | none => rfl
  | some b =>
    exfalso
    obtain rfl := (val_some hv).1
    have hn := (val_some hv).2
    rw [hv] at h
    simp only [cv, Option.bind_some, floatToFloatBits] at h
    rw [if_neg (by decide)] at h
    cases hx : FloatKind.f32.decode b with
    | nan p q => simp [hx, Ieee.Datum.isNaN] at hn
    | infinity p => simp [hx] at h
    | number p q e =>
      have := (fits_widen (some b) b rfl p q e hx).resolve_left (by decide)
      simp [hx, this] at h

theorem copied_set {zs : List Nat} {len k : Nat} (hk : k < len) :
    (((List.range len).map fun i => Value.float .f32 (if i < k then zs.getD i 0 else 0)).set k (.float .f32 (zs.getD k 0))) = (List.range len).map fun i => Value.float .f32 (if i < k + 1 then zs.getD i 0 else 0) := by
  apply List.ext_getElem?
  intro j
  rw [List.getElem?_set]
  simp only [List.getElem?_map, List.length_map, List.length_range]
  by_cases hj : k = j
  · subst hj; simp [hk]
  · rw [if_neg hj]
    by_cases hj2 : j < len
    · simp only [List.getElem?_range hj2, Option.map_some]
      have : (j < k) = (j < k + 1) := by rw [eq_iff_iff]; omega
      simp only [this]
    · rw [List.getElem?_eq_none (by simp; omega)]; rfl

theorem copied_zero (len : Nat) : (madeCells (Value.float .f32 0).cells (len * 1)).toList = (List.range len).map fun i => Value.float .f32 (if i < 0 then ([] : List Nat).getD i 0 else 0) := by
  rw [Nat.mul_one, show (Value.float .f32 0).cells = #[.float .f32 0] from rfl, toList_madeCells_one]
  apply List.ext_getElem?
  intro j
  by_cases hj : j < len
  · simp [hj]
  · simp [hj]

theorem copied_start (zs : List Nat) (len : Nat) : (madeCells (Value.float .f32 0).cells (len * 1)).toList = (List.range len).map fun i => Value.float .f32 (if i < 0 then zs.getD i 0 else 0) := by
  rw [copied_zero]; simp
end Go.Proofs.YtfmlebjaopfelaaDoor.Fl
namespace Go.Proofs.YtfmlebjaopfelaaDoor
open Go.RowKit Go.Proofs.YtfmlebjaopfelaaDoor.Fl

theorem infoF : (Tryd.prog.info? 41).map (fun i => (i.zero, i.size, i.bytes)) = some (some (.float .f32 0), 1, 4) := by kernel_rfl


theorem run_cv_some {P : Program} (w : World) (src dst : TypeId) (s k : FloatKind) (x r : Nat) (hs : (P.underlying src).isSome = true) (hd : P.underlying dst = some (.float k)) (h : cv s k (val s x) = some r) :
    (convert src dst (.float s x)).run P w = .ok (.float k r) w := by
  have hx : val s x = some x := by
    unfold val; split
    · rename_i hn; rw [val_of_nan hn] at h; cases h
    · rfl
  rw [hx] at h
  exact run_convert_float_float w src dst s k x r hs hd h

theorem run_cv_nan {P : Program} (w : World) (src dst : TypeId) (x : Nat) (hs : (P.underlying src).isSome = true) (hd : P.underlying dst = some (.float .f64)) (h : val .f32 x = none) :
    (convert src dst (.float .f32 x)).run P w = .ok (.float .f64 ((Question.nanConv .f64 x).cut (w.tape w.drawn (.nanConv .f64 x)))) w.drew := by
  obtain ⟨u, hs'⟩ := Option.isSome_iff_exists.1 hs
  have hn : (FloatKind.f32.decode x).isNaN = true := by
    unfold val at h; split at h
    · assumption
    · cases h
  cases hx : FloatKind.f32.decode x with
  | nan p q => cases u <;> simp [convert, run_underlying hs', run_underlying hd, Conv.floatToFloat, hx, Question.forced] <;> rfl
  | number p q e => simp [hx, Ieee.Datum.isNaN] at hn
  | infinity p => simp [hx, Ieee.Datum.isNaN] at hn

set_option maxHeartbeats 2000000 in
theorem eqFloat32S_any (p q len e1 e2 : Nat) (zs : List Nat) (w : World) (hp : NewF w p len zs) (hq : NewF w q len zs) (hlen : len ≤ 1048576) :
    Calls Tryd.prog 32 #[.slice (some ⟨p, 0, none⟩) len e1, .slice (some ⟨q, 0, none⟩) len e2] w (Ret (.bool true) w) := by
  have hlen' : (len : Int) ≤ 1048576 := by omega
  have Hp := hid hp; have Hq := hid hq; clear hp hq
  go_enter Tryd.func32, Tryd.ntmps32
  go_wp2_with fail
  go_loopw [5] (fun i wr => ∃ k : Nat, k ≤ len ∧ i = .int .i64 k ∧ ∃ m, wr = w.drewN m) (fun i _ => len - (intOf i).toNat)
  case atStart => exact ⟨0, Nat.zero_le _, rfl, 0, rfl⟩
  case round =>
    obtain ⟨k, hk, rfl, m, rfl⟩ := hrel
    by_cases hlt : k < len
    · have c1 := Hp.out k hlt
      have c2 := Hq.out k hlt
      have hk0 : (0 : Int) ≤ (k : Int) := Int.natCast_nonneg _
      have hk1 : (k : Int) < (len : Int) := by omega
      generalize zs.getD k 0 = z at *
      cases hv : cv .f32 .f64 (val .f32 z) with
      | some r =>
        have hcv := fun w' => run_cv_some (P := Tryd.prog) w' 41 59 .f32 .f64 z r (by rw [Tryd.underlying41]; rfl) Tryd.underlying59 hv
        have hr : Is .f64 (some r) r := val_of_not_nan (cv_not_nan hv)
        clear hv
        go_wp2_with fail
        go_region_held3 (fun w' => w'.cell? ⟨p, k, none⟩ = some (.float .f32 z) ∧ w'.cell? ⟨q, k, none⟩ = some (.float .f32 z)) (go_keep)
          (first | (go_at_call 49; refine (same_any (some r) _ _ _ hr hr).mono ?_; rintro e w' ⟨rfl, j, rfl⟩))
        go_wp2_with fail
        exact ⟨⟨k + 1, by omega, by go_num, _, rfl⟩, by simp [intOf]; omega⟩
      | none =>
        have hz := cv_none hv
        have hcv := fun w' => run_cv_nan (P := Tryd.prog) w' 41 59 z (by rw [Tryd.underlying41]; rfl) Tryd.underlying59 hz
        have hn : ∀ t, Is .f64 none ((Question.nanConv .f64 z).cut t) := fun t => val_of_nan (cut_nan .f64 _ (.inr ⟨z, rfl⟩) t)
        clear hv hz
        go_wp2_with fail
        go_region_with (first | (go_at_call 49; refine (same_any none _ _ _ (hn _) (hn _)).mono ?_; rintro e w' ⟨rfl, j, rfl⟩))
        all_goals go_wp2_with fail
        all_goals exact ⟨⟨k + 1, by omega, by go_num, _, rfl⟩, by simp [intOf]; omega⟩
    · go_wp2_with fail
      go_ret
      exact ⟨rfl, _, rfl⟩
end Go.Proofs.YtfmlebjaopfelaaDoor
