/-
  Lists of int64 numbers: copies and comparisons. Conditions: a list holds at most 1048576 numbers.
-/
import Derived.Test.YtfmlebjaopfelaaDoorRows
import Derived.Test.YtfmlebjaopfelaaDoorFl
import Derived.WalkSpells
import Derived.Below
import Derived.BigQuiet
import Derived.Deep.QuietTactic
namespace Go.Proofs.YtfmlebjaopfelaaDoor.Fl
open Go Go.RowKit

/-- A slice of int64 numbers that came in: nil, or a row of cells. -/
def RowI (w : World) (a : Option Addr) (len : Nat) (zs : List Int) : Prop :=
  len = 0 ∨ ∃ b o, a = some ⟨b, o, none⟩ ∧ ∀ i, i < len → w.cell? ⟨b, o + i, none⟩ = some (.int .i64 (zs.getD i 0))
/-- A slice of the call's own: at the head of a block. -/
def NewI (w : World) (p len : Nat) (zs : List Int) : Prop := ∀ i, i < len → w.cell? ⟨p, i, none⟩ = some (.int .i64 (zs.getD i 0))

theorem RowI.below {w w' : World} {a : Option Addr} {len : Nat} {zs : List Int} (h : RowI w a len zs) (hb : Below w.heap.size w w') : RowI w' a len zs := by
  rcases h with h | ⟨b, o, rfl, hc⟩
  · exact .inl h
  · refine .inr ⟨b, o, rfl, fun i hi => ?_⟩
    have h1 := hc i hi
    rw [hb.cell (World.block_lt_of_cell? w _ h1)]
    exact h1
theorem NewI.below {w w' : World} {p len : Nat} {zs : List Int} (h : NewI w p len zs) (hb : Below w.heap.size w w') : NewI w' p len zs := fun i hi => by
  have h1 := h i hi
  rw [hb.cell (World.block_lt_of_cell? w _ h1)]
  exact h1

def CopiedI (len : Nat) (zs : List Int) (w : World) (e : Ending) (w' : World) : Prop :=
  ∃ p, e = .returned (.slice (some ⟨p, 0, none⟩) len len) ∧ NewI w' p len zs ∧ w.heap.size ≤ p ∧ Below w.heap.size w w'

theorem copied_set {zs : List Int} {len k : Nat} (hk : k < len) :
    (((List.range len).map fun i => Value.int .i64 (if i < k then zs.getD i 0 else 0)).set k (.int .i64 (zs.getD k 0))) = (List.range len).map fun i => Value.int .i64 (if i < k + 1 then zs.getD i 0 else 0) := by
  apply List.ext_getElem?
  intro j
  rw [List.getElem?_set]
  simp only [List.getElem?_map, List.length_map, List.length_range]
  by_cases hj : k = j
  · subst hj; simp [hk]
  · rw [if_neg hj]
    by_cases hj2 : j < len
    · simp only [List.getElem?_range hj2, Option.map_some]
      have : (j < k) = (j < k + 1) := by rw [eq_iff_iff]; omega
      simp only [this]
    · rw [List.getElem?_eq_none (by simp; omega)]; rfl

theorem copied_zero (len : Nat) : (madeCells (Value.int .i64 0).cells (len * 1)).toList = (List.range len).map fun i => Value.int .i64 (if i < 0 then ([] : List Int).getD i 0 else 0) := by
  rw [Nat.mul_one, show (Value.int .i64 0).cells = #[.int .i64 0] from rfl, toList_madeCells_one]
  apply List.ext_getElem?
  intro j
  by_cases hj : j < len
  · simp [hj]
  · simp [hj]

theorem copied_start (zs : List Int) (len : Nat) : (madeCells (Value.int .i64 0).cells (len * 1)).toList = (List.range len).map fun i => Value.int .i64 (if i < 0 then zs.getD i 0 else 0) := by
  rw [copied_zero]; simp
end Go.Proofs.YtfmlebjaopfelaaDoor.Fl
namespace Go.Proofs.YtfmlebjaopfelaaDoor
open Go.RowKit Go.Proofs.YtfmlebjaopfelaaDoor.Fl

theorem infoI : (Tryd.prog.info? 2).map (fun i => (i.zero, i.size, i.bytes)) = some (some (.int .i64 0), 1, 8) := by kernel_rfl

set_option maxHeartbeats 1000000 in
theorem toInt64S_any (a : Option Addr) (len cap : Nat) (zs : List Int) (w : World) (hrow : RowI w a len zs) (hlen : len ≤ 1048576) :
    Calls Tryd.prog 25 #[.slice a len cap] w (CopiedI len zs w) := by
  obtain ⟨i0, hi, hz0, hz1, hz2⟩ := info_parts infoI
  have hlen' : (len : Int) ≤ 1048576 := by omega
  have Hrow := hid hrow; clear hrow
  have Hz2 := hid hz2; clear hz2
  go_enter Tryd.func25, Tryd.ntmps25
  go_wp2_with (at_make; refine wpList_make_full _ rfl _ _ 30 rfl w.heap.size 2 i0 (.int .i64 0) 1 Tryd.underlying30 hi hz0 hz1 _ _ _ _ len rfl rfl rfl rfl (by rw [Hz2.out]; omega) (by unfold maxLen; omega) (Nat.le_refl _) ?_; intro w1 hown hgrow)
  rw [copied_start zs] at hown
  have hb1 : Below w.heap.size w w1 := (Below.refl _ _).grown hgrow (Nat.le_refl _) (fun _ h => by cases h)
  have Hown := hid hown; have Hb1 := hid hb1; clear hown hgrow hb1 hi hz0 hz1
  go_loopw [4] (fun i wr => ∃ k : Nat, k ≤ len ∧ i = .int .i64 k ∧ Hid (wr.ownsRow w.heap.size 2 1 (.slice (some ⟨w.heap.size, 0, none⟩) len len) len ((List.range len).map fun i => Value.int .i64 (if i < k then zs.getD i 0 else 0))) ∧ Hid (Below w.heap.size w wr)) (fun i _ => len - (intOf i).toNat)
  case atStart => exact ⟨0, Nat.zero_le _, rfl, Hown, Hb1⟩
  case round =>
    obtain ⟨k, hk, rfl, Ho, Hb⟩ := hrel
    by_cases hlt : k < len
    · rcases Hrow.out with h0 | ⟨b, o, rfl, hc⟩
      · omega
      · have c1 : wr.cell? ⟨b, o + k, none⟩ = some (.int .i64 (zs.getD k 0)) := (Hb.out.cell (World.block_lt_of_cell? w _ (hc k hlt))).trans (hc k hlt)
        have c2 : wr.cell? ⟨w.heap.size, k, none⟩ = some (.int .i64 0) := by rw [Ho.out.cellAt k (by omega)]; simp [hlt]
        have c3 : wr.frozen? ⟨w.heap.size, k, none⟩ = false := Ho.out.frozenAt k
        obtain ⟨hst, hgr⟩ := Ho.out.stored k (.int .i64 (zs.getD k 0))
        rw [copied_set hlt] at hst
        have Hst := hid hst; have Hgr := hid (Hb.out.setCell (p := ⟨w.heap.size, k, none⟩) (Nat.le_refl _) (.int .i64 (zs.getD k 0))); clear hst hgr hc
        generalize zs.getD k 0 = z at *
        go_wp2_with fail
        exact ⟨⟨k + 1, by omega, by go_num, Hst, Hgr⟩, by simp [intOf]; omega⟩
    · have hkl : k = len := by omega
      go_wp2_with fail
      go_ret
      refine ⟨_, rfl, fun i hi => ?_, Nat.le_refl _, Hb.out⟩
      rw [Ho.out.cellAt i (by omega)]
      simp [hi, show i < k by omega]

set_option maxHeartbeats 1000000 in
theorem eqInt64S_any (p q len c1 c2 : Nat) (zs : List Int) (w : World) (hp : NewI w p len zs) (hq : NewI w q len zs) (hlen : len ≤ 1048576) :
    Calls Tryd.prog 19 #[.slice (some ⟨p, 0, none⟩) len c1, .slice (some ⟨q, 0, none⟩) len c2] w (Ret (.bool true) w) := by
  have hlen' : (len : Int) ≤ 1048576 := by omega
  have Hp := hid hp; have Hq := hid hq; clear hp hq
  go_enter Tryd.func19, Tryd.ntmps19
  go_wp2_with fail
  go_loopw [5] (fun i wr => ∃ k : Nat, k ≤ len ∧ i = .int .i64 k ∧ ∃ m, wr = w.drewN m) (fun i _ => len - (intOf i).toNat)
  case atStart => exact ⟨0, Nat.zero_le _, rfl, 0, rfl⟩
  case round =>
    obtain ⟨k, hk, rfl, m, rfl⟩ := hrel
    by_cases hlt : k < len
    · have d1 := Hp.out k hlt
      have d2 := Hq.out k hlt
      have hk1 : (k : Int) < (len : Int) := by omega
      generalize zs.getD k 0 = z at *
      go_wp2_with fail
      go_quiet (fail)
      go_wp2_with fail
      exact ⟨⟨k + 1, by omega, by go_num, _, rfl⟩, by simp [intOf]; omega⟩
    · go_wp2_with fail
      go_ret
      exact ⟨rfl, _, rfl⟩
end Go.Proofs.YtfmlebjaopfelaaDoor
