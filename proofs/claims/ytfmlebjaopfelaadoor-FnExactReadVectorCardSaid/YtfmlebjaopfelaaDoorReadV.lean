/-
  Reading a vector: both sides give the same answer. Conditions: a text has at most 1048576 letters; the library's variable MaxLen holds some number.
-/
import Derived.Test.YtfmlebjaopfelaaDoorReadF
import Derived.Test.YtfmlebjaopfelaaDoorVec
namespace Go.Proofs.YtfmlebjaopfelaaDoor
open Go.RowKit Go.Proofs.YtfmlebjaopfelaaDoor.Fl

def VecB (a b c : Nat) (t : Bool) (w : World) (e : Ending) (w' : World) : Prop := e = .returned (.tuple #[.agg #[.float .f32 a, .float .f32 b, .float .f32 c], .bool t]) ∧ Below w.heap.size w w'

theorem zeroVec (w : World) : (Instr.build 43 #[]).run Tryd.prog w = .ok (.agg #[.float .f32 0, .float .f32 0, .float .f32 0]) w := run_build w 43 _ _ (by kernel_rfl)

/-- The block of the result, behind a call. -/
theorem cell3 {w w2 : World} {T : TypeId} (hb : Below (w.alloc (.cells #[.float .f32 0, .float .f32 0, .float .f32 0] T)).heap.size (w.alloc (.cells #[.float .f32 0, .float .f32 0, .float .f32 0] T)) w2) (i : Nat) (hi : i < 3) : w2.cell? ⟨w.heap.size, i, none⟩ = some (.float .f32 0) ∧ w2.frozen? ⟨w.heap.size, i, none⟩ = false := by
  have hk := hb.block w.heap.size (by simp)
  constructor
  · rw [World.cell?_of_block (a := ⟨w.heap.size, i, none⟩) hk]
    match i, hi with
    | 0, _ => simp [go_sem]
    | 1, _ => simp [go_sem]
    | 2, _ => simp [go_sem]
  · rw [World.frozen?_of_block (a := ⟨w.heap.size, i, none⟩) hk]
    simp [go_sem]

set_option maxHeartbeats 1000000 in
theorem implRV_none (s : ByteArray) (w : World) (hs : s.size ≤ 1048576) (hm : MaxL w) (h : readL s = none) : Calls Tryd.prog 28 #[.string s] w (VecB 0 0 0 false w) := by
  have HV : Hid (∀ W : World, Below w.heap.size w W → Calls Tryd.prog 31 #[.string s] W (fun e w' => e = .returned (.tuple #[.slice none 0 0, .bool false]) ∧ Below W.heap.size W w')) := by
    intro W hW
    have := implReadNumbers_any s W hs (hm.below hW)
    rw [h] at this
    exact this
  clear h hm
  have hz := zeroVec
  go_enter Tryd.func28, Tryd.ntmps28
  go_wp2_with (go_at_call 31; refine (HV.out _ ((Below.refl _ _).alloc (Nat.le_refl _) _)).mono ?_; rintro e w2 ⟨rfl, hb2⟩; obtain ⟨c0, f0⟩ := cell3 hb2 0 (by omega); obtain ⟨c1, f1⟩ := cell3 hb2 1 (by omega); obtain ⟨c2, f2⟩ := cell3 hb2 2 (by omega); have Hb2 := hid hb2; clear hb2)
  exact bodyPost_ret (v := .tuple #[.agg #[.float .f32 0, .float .f32 0, .float .f32 0], .bool false]) (by simp [results, Tryd.results28, go_sem, c0, c1, c2]) rfl ⟨rfl, (((((Below.refl w.heap.size w).alloc (Nat.le_refl _) _).trans (Hb2.out.mono (by simp))).setCell (p := ⟨w.heap.size, 0, none⟩) (Nat.le_refl _) _).setCell (p := ⟨w.heap.size, 1, none⟩) (Nat.le_refl _) _).setCell (p := ⟨w.heap.size, 2, none⟩) (Nat.le_refl _) _⟩

set_option maxHeartbeats 1000000 in
theorem implRV_other (s : ByteArray) (zs : List Nat) (w : World) (hs : s.size ≤ 1048576) (hm : MaxL w) (h : readL s = some zs) (h3 : zs.length ≠ 3) : Calls Tryd.prog 28 #[.string s] w (VecB 0 0 0 false w) := by
  have HV : Hid (∀ W : World, Below w.heap.size w W → Calls Tryd.prog 31 #[.string s] W (RetL (some zs) W)) := by
    intro W hW
    have := implReadNumbers_any s W hs (hm.below hW)
    rw [h] at this
    exact this
  clear h hm
  have hz := zeroVec
  have h3b : ((zs.length : Int) != 3) = true := by simp; omega
  go_enter Tryd.func28, Tryd.ntmps28
  go_wp2_with (go_at_call 31; refine (HV.out _ ((Below.refl _ _).alloc (Nat.le_refl _) _)).mono ?_; rintro e w2 ⟨g, cv, rfl, ho, hb2⟩; obtain ⟨c0, f0⟩ := cell3 hb2 0 (by omega); obtain ⟨c1, f1⟩ := cell3 hb2 1 (by omega); obtain ⟨c2, f2⟩ := cell3 hb2 2 (by omega); have Hb2 := hid hb2; clear hb2)
  exact bodyPost_ret (v := .tuple #[.agg #[.float .f32 0, .float .f32 0, .float .f32 0], .bool false]) (by simp [results, Tryd.results28, go_sem, c0, c1, c2]) rfl ⟨rfl, (((((Below.refl w.heap.size w).alloc (Nat.le_refl _) _).trans (Hb2.out.mono (by simp))).setCell (p := ⟨w.heap.size, 0, none⟩) (Nat.le_refl _) _).setCell (p := ⟨w.heap.size, 1, none⟩) (Nat.le_refl _) _).setCell (p := ⟨w.heap.size, 2, none⟩) (Nat.le_refl _) _⟩

set_option maxHeartbeats 1000000 in
theorem specRV_none (s : ByteArray) (w : World) (hs : s.size ≤ 1048576) (h : readL s = none) : Calls Tryd.prog 48 #[.string s] w (VecB 0 0 0 false w) := by
  have HV : Hid (∀ W : World, Below w.heap.size w W → Calls Tryd.prog 50 #[.string s] W (fun e w' => e = .returned (.tuple #[.slice none 0 0, .bool false]) ∧ Below W.heap.size W w')) := by
    intro W hW
    have := l01NRead_any s W hs
    rw [h] at this
    exact this
  clear h
  have hz := zeroVec
  go_enter Tryd.func48, Tryd.ntmps48
  go_wp2_with (go_at_call 50; refine (HV.out _ ((Below.refl _ _).alloc (Nat.le_refl _) _)).mono ?_; rintro e w2 ⟨rfl, hb2⟩; obtain ⟨c0, f0⟩ := cell3 hb2 0 (by omega); obtain ⟨c1, f1⟩ := cell3 hb2 1 (by omega); obtain ⟨c2, f2⟩ := cell3 hb2 2 (by omega); have Hb2 := hid hb2; clear hb2)
  exact bodyPost_ret (v := .tuple #[.agg #[.float .f32 0, .float .f32 0, .float .f32 0], .bool false]) (by simp [results, Tryd.results48, go_sem, c0, c1, c2]) rfl ⟨rfl, (((((Below.refl w.heap.size w).alloc (Nat.le_refl _) _).trans (Hb2.out.mono (by simp))).setCell (p := ⟨w.heap.size, 0, none⟩) (Nat.le_refl _) _).setCell (p := ⟨w.heap.size, 1, none⟩) (Nat.le_refl _) _).setCell (p := ⟨w.heap.size, 2, none⟩) (Nat.le_refl _) _⟩

set_option maxHeartbeats 1000000 in
theorem specRV_other (s : ByteArray) (zs : List Nat) (w : World) (hs : s.size ≤ 1048576) (h : readL s = some zs) (h3 : zs.length ≠ 3) : Calls Tryd.prog 48 #[.string s] w (VecB 0 0 0 false w) := by
  have HV : Hid (∀ W : World, Below w.heap.size w W → Calls Tryd.prog 50 #[.string s] W (RetL (some zs) W)) := by
    intro W hW
    have := l01NRead_any s W hs
    rw [h] at this
    exact this
  clear h
  have hz := zeroVec
  have h3b : ((zs.length : Int) != 3) = true := by simp; omega
  go_enter Tryd.func48, Tryd.ntmps48
  go_wp2_with (go_at_call 50; refine (HV.out _ ((Below.refl _ _).alloc (Nat.le_refl _) _)).mono ?_; rintro e w2 ⟨g, cv, rfl, ho, hb2⟩; obtain ⟨c0, f0⟩ := cell3 hb2 0 (by omega); obtain ⟨c1, f1⟩ := cell3 hb2 1 (by omega); obtain ⟨c2, f2⟩ := cell3 hb2 2 (by omega); have Hb2 := hid hb2; clear hb2)
  exact bodyPost_ret (v := .tuple #[.agg #[.float .f32 0, .float .f32 0, .float .f32 0], .bool false]) (by simp [results, Tryd.results48, go_sem, c0, c1, c2]) rfl ⟨rfl, (((((Below.refl w.heap.size w).alloc (Nat.le_refl _) _).trans (Hb2.out.mono (by simp))).setCell (p := ⟨w.heap.size, 0, none⟩) (Nat.le_refl _) _).setCell (p := ⟨w.heap.size, 1, none⟩) (Nat.le_refl _) _).setCell (p := ⟨w.heap.size, 2, none⟩) (Nat.le_refl _) _⟩

set_option maxHeartbeats 2000000 in
theorem implRV_three (s : ByteArray) (a b c : Nat) (w : World) (hs : s.size ≤ 1048576) (hm : MaxL w) (h : readL s = some [a, b, c]) : Calls Tryd.prog 28 #[.string s] w (VecB a b c true w) := by
  have HV : Hid (∀ W : World, Below w.heap.size w W → Calls Tryd.prog 31 #[.string s] W (RetL (some [a, b, c]) W)) := by
    intro W hW
    have := implReadNumbers_any s W hs (hm.below hW)
    rw [h] at this
    exact this
  clear h hm
  go_enter Tryd.func28, Tryd.ntmps28
  go_wp2_with fail
  refine (HV.out _ ((Below.refl _ _).alloc (Nat.le_refl _) _)).mono ?_
  rintro e w2 ⟨g, cv, rfl, ho, hb2⟩
  obtain ⟨c0, f0⟩ := cell3 hb2 0 (by omega)
  obtain ⟨c1, f1⟩ := cell3 hb2 1 (by omega)
  obtain ⟨c2, f2⟩ := cell3 hb2 2 (by omega)
  have d0 : w2.cell? ⟨g, 0, none⟩ = some (.float .f32 a) := ho.cellAt 0 (by simp)
  have d1 : w2.cell? ⟨g, 1, none⟩ = some (.float .f32 b) := ho.cellAt 1 (by simp)
  have d2 : w2.cell? ⟨g, 2, none⟩ = some (.float .f32 c) := ho.cellAt 2 (by simp)
  have hgl : w.heap.size + 1 ≤ g := by have := (ho.lt g rfl).1; simpa using this
  have hgn : ¬ g = w.heap.size := by omega
  have hgn2 : ¬ w.heap.size = g := by omega
  have Hb2 := hid hb2
  clear hb2 ho hgl
  simp only [List.length_cons, List.length_nil]
  go_wp2_with fail
  go_region
  go_wp2_with fail
  exact bodyPost_ret (v := .tuple #[.agg #[.float .f32 a, .float .f32 b, .float .f32 c], .bool true]) (by simp [results, Tryd.results28, go_sem, c0, c1, c2]) rfl ⟨rfl, by repeat (first | exact (((((Below.refl w.heap.size w).alloc (Nat.le_refl _) _).trans (Hb2.out.mono (by simp))).setCell (p := ⟨w.heap.size, 0, none⟩) (Nat.le_refl _) _).setCell (p := ⟨w.heap.size, 1, none⟩) (Nat.le_refl _) _).setCell (p := ⟨w.heap.size, 2, none⟩) (Nat.le_refl _) _ | refine below_drewN ?_ _ | refine Below.drew ?_)⟩

set_option maxHeartbeats 2000000 in
theorem specRV_three (s : ByteArray) (a b c : Nat) (w : World) (hs : s.size ≤ 1048576) (h : readL s = some [a, b, c]) : Calls Tryd.prog 48 #[.string s] w (VecB a b c true w) := by
  have HV : Hid (∀ W : World, Below w.heap.size w W → Calls Tryd.prog 50 #[.string s] W (RetL (some [a, b, c]) W)) := by
    intro W _
    have := l01NRead_any s W hs
    rw [h] at this
    exact this
  clear h
  go_enter Tryd.func48, Tryd.ntmps48
  go_wp2_with fail
  refine (HV.out _ ((Below.refl _ _).alloc (Nat.le_refl _) _)).mono ?_
  rintro e w2 ⟨g, cv, rfl, ho, hb2⟩
  obtain ⟨c0, f0⟩ := cell3 hb2 0 (by omega)
  obtain ⟨c1, f1⟩ := cell3 hb2 1 (by omega)
  obtain ⟨c2, f2⟩ := cell3 hb2 2 (by omega)
  have d0 : w2.cell? ⟨g, 0, none⟩ = some (.float .f32 a) := ho.cellAt 0 (by simp)
  have d1 : w2.cell? ⟨g, 1, none⟩ = some (.float .f32 b) := ho.cellAt 1 (by simp)
  have d2 : w2.cell? ⟨g, 2, none⟩ = some (.float .f32 c) := ho.cellAt 2 (by simp)
  have hgl : w.heap.size + 1 ≤ g := by have := (ho.lt g rfl).1; simpa using this
  have hgn : ¬ g = w.heap.size := by omega
  have hgn2 : ¬ w.heap.size = g := by omega
  have Hb2 := hid hb2
  clear hb2 ho hgl
  simp only [List.length_cons, List.length_nil]
  go_wp2_with fail
  go_region
  go_wp2_with fail
  exact bodyPost_ret (v := .tuple #[.agg #[.float .f32 a, .float .f32 b, .float .f32 c], .bool true]) (by simp [results, Tryd.results48, go_sem, c0, c1, c2]) rfl ⟨rfl, by repeat (first | exact (((((Below.refl w.heap.size w).alloc (Nat.le_refl _) _).trans (Hb2.out.mono (by simp))).setCell (p := ⟨w.heap.size, 0, none⟩) (Nat.le_refl _) _).setCell (p := ⟨w.heap.size, 1, none⟩) (Nat.le_refl _) _).setCell (p := ⟨w.heap.size, 2, none⟩) (Nat.le_refl _) _ | refine below_drewN ?_ _ | refine Below.drew ?_)⟩


theorem bothV (s : ByteArray) (hs : s.size ≤ 1048576) : ∃ a b c t, (∀ w : World, Calls Tryd.prog 48 #[.string s] w (VecB a b c t w)) ∧ (∀ w : World, MaxL w → Calls Tryd.prog 28 #[.string s] w (VecB a b c t w)) := by
  cases h : readL s with
  | none => exact ⟨0, 0, 0, false, fun w => specRV_none s w hs h, fun w hm => implRV_none s w hs hm h⟩
  | some zs =>
    by_cases h3 : zs.length = 3
    · match zs, h3, h with
      | [a, b, c], _, h => exact ⟨a, b, c, true, fun w => specRV_three s a b c w hs h, fun w hm => implRV_three s a b c w hs hm h⟩
    · exact ⟨0, 0, 0, false, fun w => specRV_other s zs w hs h h3, fun w hm => implRV_other s zs w hs hm h h3⟩

set_option maxHeartbeats 1000000 in
theorem specRV_any (s : ByteArray) (a b c : Nat) (t : Bool) (w : World) (h : ∀ w : World, Calls Tryd.prog 48 #[.string s] w (VecB a b c t w)) : Calls Tryd.prog 27 #[.string s] w (VecB a b c t w) := by
  have HV := hid h; clear h
  go_enter Tryd.func27, Tryd.ntmps27
  go_wp2_with fail
  refine (HV.out _).mono ?_
  rintro e w2 ⟨rfl, hb2⟩
  obtain ⟨c0, f0⟩ := cell3 hb2 0 (by omega)
  obtain ⟨c1, f1⟩ := cell3 hb2 1 (by omega)
  obtain ⟨c2, f2⟩ := cell3 hb2 2 (by omega)
  have Hb2 := hid hb2
  clear hb2
  go_wp2_with fail
  exact bodyPost_ret (v := .tuple #[.agg #[.float .f32 a, .float .f32 b, .float .f32 c], .bool t]) (by simp [results, Tryd.results27, go_sem, c0, c1, c2]) rfl ⟨rfl, (((((Below.refl w.heap.size w).alloc (Nat.le_refl _) _).trans (Hb2.out.mono (by simp))).setCell (p := ⟨w.heap.size, 0, none⟩) (Nat.le_refl _) _).setCell (p := ⟨w.heap.size, 1, none⟩) (Nat.le_refl _) _).setCell (p := ⟨w.heap.size, 2, none⟩) (Nat.le_refl _) _⟩

set_option maxHeartbeats 2000000 in
theorem FnExactReadVector_walk (s : ByteArray) (w : World) (hsm : s.size ≤ maxLen) (hm : MaxL w) : Calls Tryd.prog 8 #[.string s] w (Yes w) := by
  unfold maxLen at hsm
  have Hm := hid hm; clear hm
  by_cases h : s.size ≤ 1048576
  · obtain ⟨a, b, c, t, h1, h2⟩ := bothV s h
    have H1 := hid h1; have H2 := hid h2; clear h1 h2
    go_enter Tryd.func8, Tryd.ntmps8
    go_wp2_with fail
    refine (specRV_any s a b c t _ H1.out).mono ?_
    rintro e w1 ⟨rfl, hb1⟩
    have hb1' := hid hb1; clear hb1
    go_wp2_with fail
    have hb2 := (hb1'.out).alloc hb1'.out.size (.cells #[.float .f32 a, .float .f32 b, .float .f32 c] 43)
    refine (H2.out _ (Hm.out.below hb2)).mono ?_
    rintro e w3 ⟨rfl, hb3⟩
    have hk := hb3.block w1.heap.size (by simp)
    have e0 : w3.cell? ⟨w1.heap.size, 0, none⟩ = some (.float .f32 a) := by rw [World.cell?_of_block (a := ⟨w1.heap.size, 0, none⟩) hk]; simp [go_sem]
    have e1 : w3.cell? ⟨w1.heap.size, 1, none⟩ = some (.float .f32 b) := by rw [World.cell?_of_block (a := ⟨w1.heap.size, 1, none⟩) hk]; simp [go_sem]
    have e2 : w3.cell? ⟨w1.heap.size, 2, none⟩ = some (.float .f32 c) := by rw [World.cell?_of_block (a := ⟨w1.heap.size, 2, none⟩) hk]; simp [go_sem]
    have hb4 := hid (hb2.trans (hb3.mono hb2.size))
    have hlt : w1.heap.size < w3.heap.size := by have := hb3.size; simp at this; omega
    clear hb2 hb3 hk
    go_wp2_with (go_at_call 29; refine (eqVector_any _ _ _ a b c a b c _ rfl rfl rfl rfl rfl rfl).mono ?_; rintro e w5 ⟨rfl, hb5⟩)
    all_goals (go_ret; exact ⟨rfl, (hb4.out.alloc hb4.out.size _).trans (hb5.mono (by have := hb4.out.size; simp; omega))⟩)
  · go_enter Tryd.func8, Tryd.ntmps8
    go_wp2_with fail
    all_goals (go_ret; exact ⟨rfl, Below.refl _ _⟩)
end Go.Proofs.YtfmlebjaopfelaaDoor
