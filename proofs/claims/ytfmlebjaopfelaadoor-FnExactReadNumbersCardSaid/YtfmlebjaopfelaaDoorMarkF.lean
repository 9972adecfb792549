/-
  The law on reading a list of float32 numbers: marks laid in an answer's memory are found there again. Conditions: a text has at most 1048576 letters; the library's variables hold what their initialisers lay.
-/
import Derived.Test.YtfmlebjaopfelaaDoorReadF
import Derived.Laws.Cover2
namespace Go.Proofs.YtfmlebjaopfelaaDoor.Fl
open Go Go.RowKit

/-- The bits of a small integer. -/
def fk (k : Nat) : Nat := floatOfInt .f32 (k : Int)
theorem fk_fin : ∀ i : Fin 300, (val .f32 (fk i.val)).isSome = true := by decide +kernel
theorem fk_order (k : Nat) (h : k < 300) : FloatKind.f32.format.order (fk k) (fk k) = some .eq := by
  have h1 := fk_fin ⟨k, h⟩
  cases hv : val .f32 (fk k) with
  | none => simp only at h1; rw [hv] at h1; cases h1
  | some b =>
    have e := (val_some hv).1
    subst e
    exact order_self hv

def markL (zs : List Nat) (i n : Nat) : List Value := (List.range n).map fun j => Value.float .f32 (if j < i then fk (j + 1) else zs.getD j 0)
theorem markL_zero (zs : List Nat) : markL zs 0 zs.length = zs.map (Value.float .f32) := by
  apply List.ext_getElem?
  intro j
  unfold markL
  by_cases hj : j < zs.length
  · simp [hj]
  · simp [hj]
theorem markL_set (zs : List Nat) (i n : Nat) (hi : i < n) : (markL zs i n).set i (.float .f32 (fk (i + 1))) = markL zs (i + 1) n := by
  apply List.ext_getElem?
  intro j
  unfold markL
  rw [List.getElem?_set]
  simp only [List.getElem?_map, List.length_map, List.length_range]
  by_cases hj : i = j
  · subst hj; simp [hi]
  · rw [if_neg hj]
    by_cases hj2 : j < n
    · simp only [List.getElem?_range hj2, Option.map_some]
      have : (j < i) = (j < i + 1) := by rw [eq_iff_iff]; omega
      simp only [this]
    · rw [List.getElem?_eq_none (by simp; omega)]; rfl

/-- The marks 1 .. n. -/
def Marks (w : World) (g n : Nat) : Prop := ∀ i, i < n → w.cell? ⟨g, i, none⟩ = some (.float .f32 (fk (i + 1)))
theorem Marks.below {w w' : World} {g n : Nat} (h : Marks w g n) (hb : Below w.heap.size w w') : Marks w' g n := fun i hi => by
  have h1 := h i hi
  rw [hb.cell (World.block_lt_of_cell? w _ h1)]
  exact h1

theorem new_of_own {w : World} {B : Nat} {e : TypeId} {g n c : Nat} {zs : List Nat} (h : w.ownsRow B e 1 (.slice (some ⟨g, 0, none⟩) n c) n (zs.map (Value.float .f32))) (hn : n = zs.length) : NewF w g n zs := by
  intro i hi
  rw [h.cellAt i (by omega)]
  simp [List.getD, show i < zs.length by omega]
end Go.Proofs.YtfmlebjaopfelaaDoor.Fl
namespace Go.Proofs.YtfmlebjaopfelaaDoor
open Go.RowKit Go.Proofs.YtfmlebjaopfelaaDoor.Fl

def Marked (g n : Nat) (w : World) (e : Ending) (w' : World) : Prop := e = .returned (.int .i64 ((n : Int) + 1)) ∧ Marks w' g n ∧ w.grownBy w' (some g)

set_option maxHeartbeats 1000000 in
theorem mark_any (g n c B : Nat) (zs : List Nat) (w : World) (hn : n = zs.length) (hlen : n ≤ 256) (ho : w.ownsRow B 41 1 (.slice (some ⟨g, 0, none⟩) n c) n (zs.map (Value.float .f32))) :
    Calls Tryd.prog 33 #[.slice (some ⟨g, 0, none⟩) n c, .int .i64 1] w (Marked g n w) := by
  have ho0 : w.ownsRow B 41 1 (.slice (some ⟨g, 0, none⟩) n c) n (markL zs 0 n) := by rw [hn, markL_zero, ← hn]; exact ho
  have Ho0 := hid ho0; clear ho0 ho hn
  go_enter Tryd.func33, Tryd.ntmps33
  go_wp2_with fail
  go_loopw [1, 5] (fun kv i wr => ∃ k : Nat, k ≤ n ∧ i = .int .i64 k ∧ kv = .int .i64 ((k : Int) + 1) ∧ Hid (wr.ownsRow B 41 1 (.slice (some ⟨g, 0, none⟩) n c) n (markL zs k n)) ∧ Hid (w.grownBy wr (some g))) (fun _ i _ => n - (intOf i).toNat)
  case atStart => exact ⟨0, Nat.zero_le _, rfl, rfl, Ho0.out, ⟨rfl, rfl, rfl, Nat.le_refl _, fun _ _ _ => rfl⟩⟩
  case round =>
    obtain ⟨k, hk, rfl, rfl, Ho, Hg⟩ := hrel
    by_cases hlt : k < n
    · have c2 : ∃ v, wr.cell? ⟨g, k, none⟩ = some (.float .f32 v) := by rw [Ho.out.cellAt k (by omega)]; simp [markL, hlt]
      obtain ⟨v, c2⟩ := c2
      have c3 : wr.frozen? ⟨g, k, none⟩ = false := Ho.out.frozenAt k
      obtain ⟨hst, hgr⟩ := Ho.out.stored k (.float .f32 (fk (k + 1)))
      rw [markL_set zs k n hlt] at hst
      have hfk : floatOfInt .f32 ((k : Int) + 1) = fk (k + 1) := by unfold fk; congr 1
      have Hst := hid hst; have Hgr := hid (Hg.out.trans hgr); clear hst hgr
      go_wp2_with fail
      exact ⟨⟨k + 1, by omega, by go_num, by go_num, Hst, Hgr⟩, by simp only [intOf]; omega⟩
    · have hkl : k = n := by omega
      subst hkl
      go_wp2_with fail
      go_ret
      refine ⟨rfl, fun i hi => ?_, Hg.out⟩
      rw [Ho.out.cellAt i (by omega)]
      simp [markL, hi]

theorem mark_nil (w : World) : Calls Tryd.prog 33 #[.slice none 0 0, .int .i64 1] w (fun e w' => e = .returned (.int .i64 1) ∧ w' = w) := by
  go_enter Tryd.func33, Tryd.ntmps33
  go_wp2_with fail
  go_loop [1, 5] (fun k i => k = .int .i64 1 ∧ i = .int .i64 0) (fun _ _ => 0)
  case atStart => exact ⟨rfl, rfl⟩
  case round =>
    obtain ⟨rfl, rfl⟩ := hrel
    go_wp2_with fail
    go_ret
    exact ⟨rfl, rfl⟩

theorem held_any (g n c : Nat) (w : World) (hlen : n ≤ 256) (hm : Marks w g n) : Calls Tryd.prog 34 #[.slice (some ⟨g, 0, none⟩) n c, .int .i64 1] w (fun e w' => e = .returned (.int .i64 ((n : Int) + 1)) ∧ ∃ m, w' = w.drewN m) := by
  have Hm := hid hm; clear hm
  go_enter Tryd.func34, Tryd.ntmps34
  go_wp2_with fail
  go_loopw [1, 5] (fun kv i wr => ∃ k : Nat, k ≤ n ∧ i = .int .i64 k ∧ kv = .int .i64 ((k : Int) + 1) ∧ ∃ m, wr = w.drewN m) (fun _ i _ => n - (intOf i).toNat)
  case atStart => exact ⟨0, Nat.zero_le _, rfl, rfl, 0, rfl⟩
  case round =>
    obtain ⟨k, hk, rfl, rfl, m, rfl⟩ := hrel
    by_cases hlt : k < n
    · have c1 := Hm.out k hlt
      have hfk : floatOfInt .f32 ((k : Int) + 1) = fk (k + 1) := by unfold fk; congr 1
      have hord := fk_order (k + 1) (by omega)
      generalize fk (k + 1) = z at *
      go_wp2_with fail
      exact ⟨⟨k + 1, by omega, by go_num, by go_num, _, rfl⟩, by simp only [intOf]; omega⟩
    · have hkl : k = n := by omega
      subst hkl
      go_wp2_with fail
      go_ret
      exact ⟨rfl, _, rfl⟩

theorem held_nil (w : World) : Calls Tryd.prog 34 #[.slice none 0 0, .int .i64 1] w (fun e w' => e = .returned (.int .i64 1) ∧ w' = w) := by
  go_enter Tryd.func34, Tryd.ntmps34
  go_wp2_with fail
  go_loop [1, 5] (fun k i => k = .int .i64 1 ∧ i = .int .i64 0) (fun _ _ => 0)
  case atStart => exact ⟨rfl, rfl⟩
  case round =>
    obtain ⟨rfl, rfl⟩ := hrel
    go_wp2_with fail
    go_ret
    exact ⟨rfl, rfl⟩

theorem eq_nil (w : World) : Calls Tryd.prog 32 #[.slice none 0 0, .slice none 0 0] w (fun e w' => e = .returned (.bool true) ∧ w' = w) := by
  go_enter Tryd.func32, Tryd.ntmps32
  go_wp2_with fail
  go_loop [5] (fun i => i = .int .i64 0) (fun _ => 0)
  case atStart => exact rfl
  case round =>
    obtain rfl := hrel
    go_wp2_with fail
    go_ret
    exact ⟨rfl, rfl⟩

theorem specReadNumbers_none (s : ByteArray) (w : World) (hs : s.size ≤ 1048576) (h : readL s = none) : Calls Tryd.prog 30 #[.string s] w (RetL none w) := by
  have HV : Hid (∀ W : World, W = w → Calls Tryd.prog 50 #[.string s] W (fun e w' => e = .returned (.tuple #[.slice none 0 0, .bool false]) ∧ Below w.heap.size w w')) := by
    rintro W rfl
    have := l01NRead_any s W hs
    rw [h] at this
    exact this
  clear h
  go_enter Tryd.func30, Tryd.ntmps30
  go_wp2_with (go_at_call 50; refine (HV.out _ rfl).mono ?_; rintro e w' ⟨rfl, hb⟩)
  go_ret2
  exact ⟨rfl, hb⟩
theorem specReadNumbers_some (s : ByteArray) (zs : List Nat) (w : World) (hs : s.size ≤ 1048576) (h : readL s = some zs) : Calls Tryd.prog 30 #[.string s] w (RetL (some zs) w) := by
  have HV : Hid (∀ W : World, W = w → Calls Tryd.prog 50 #[.string s] W (RetL (some zs) w)) := by
    rintro W rfl
    have := l01NRead_any s W hs
    rw [h] at this
    exact this
  clear h
  go_enter Tryd.func30, Tryd.ntmps30
  go_wp2_with (go_at_call 50; refine (HV.out _ rfl).mono ?_; rintro e w' ⟨g, cv, rfl, ho, hb⟩)
  go_ret2
  exact ⟨g, cv, rfl, ho, hb⟩
end Go.Proofs.YtfmlebjaopfelaaDoor
