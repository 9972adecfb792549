/-
  The law on reading a list of complex numbers: it returns true and writes nothing that was there. Conditions: the library's variables hold what their initialisers lay.
-/
import Derived.Test.YtfmlebjaopfelaaDoorMarkC
namespace Go.Proofs.YtfmlebjaopfelaaDoor
open Go.RowKit Go.Proofs.YtfmlebjaopfelaaDoor.Fl

def Marked (g n : Nat) (w : World) (e : Ending) (w' : World) : Prop := e = .returned (.int .i64 ((n : Int) + 1)) ∧ Marks w' g n ∧ w.grownBy w' (some g)

theorem mark_run (k : Nat) (h : k < 300) (W : World) : (convert 58 56 (.complex .f64 (floatOfInt .f64 (k : Int)) 4607182418800017408)).run Tryd.prog W = .ok (.complex .f32 (ck k) 1065353216) W :=
  run_cc W 58 56 59 41 .f64 .f32 (by rw [Tryd.underlying58]; rfl) Tryd.underlying56 Tryd.underlying59 Tryd.underlying41 (ck_facts k h).1 nar1

set_option maxHeartbeats 2000000 in
theorem mark_any (g n c B : Nat) (zs : List (Nat × Nat)) (w : World) (hn : n = zs.length) (hlen : n ≤ 256) (ho : w.ownsRow B 56 1 (.slice (some ⟨g, 0, none⟩) n c) n (zs.map cval)) :
    Calls Tryd.prog 13 #[.slice (some ⟨g, 0, none⟩) n c, .int .i64 1] w (Marked g n w) := by
  have ho0 : w.ownsRow B 56 1 (.slice (some ⟨g, 0, none⟩) n c) n (markL zs 0 n) := by rw [hn, markL_zero, ← hn]; exact ho
  have Ho0 := hid ho0; clear ho0 ho hn
  go_enter Tryd.func13, Tryd.ntmps13
  go_wp2_with fail
  go_loopw [1, 5] (fun kv i wr => ∃ k : Nat, k ≤ n ∧ i = .int .i64 k ∧ kv = .int .i64 ((k : Int) + 1) ∧ Hid (wr.ownsRow B 56 1 (.slice (some ⟨g, 0, none⟩) n c) n (markL zs k n)) ∧ Hid (w.grownBy wr (some g))) (fun _ i _ => n - (intOf i).toNat)
  case atStart => exact ⟨0, Nat.zero_le _, rfl, rfl, Ho0.out, ⟨rfl, rfl, rfl, Nat.le_refl _, fun _ _ _ => rfl⟩⟩
  case round =>
    obtain ⟨k, hk, rfl, rfl, Ho, Hg⟩ := hrel
    by_cases hlt : k < n
    · have c2 : ∃ a b, wr.cell? ⟨g, k, none⟩ = some (.complex .f32 a b) := by rw [Ho.out.cellAt k (by omega)]; simp [markL, hlt, cval]
      obtain ⟨a, b, c2⟩ := c2
      have c3 : wr.frozen? ⟨g, k, none⟩ = false := Ho.out.frozenAt k
      obtain ⟨hst, hgr⟩ := Ho.out.stored k (.complex .f32 (ck (k + 1)) 1065353216)
      have hset := markL_set zs k n hlt
      unfold markCv at hset
      rw [hset] at hst
      have hrun := mark_run (k + 1) (by omega)
      rw [show ((k + 1 : Nat) : Int) = (k : Int) + 1 from by omega] at hrun
      have Hst := hid hst; have Hgr := hid (Hg.out.trans hgr); clear hst hgr hset
      generalize ck (k + 1) = z at *
      go_wp2_with fail
      exact ⟨⟨k + 1, by omega, by go_num, by go_num, Hst, Hgr⟩, by simp only [intOf]; omega⟩
    · have hkl : k = n := by omega
      subst hkl
      go_wp2_with fail
      go_ret
      refine ⟨rfl, fun i hi => ?_, Hg.out⟩
      rw [Ho.out.cellAt i (by omega)]
      simp [markL, hi]

theorem mark_nil (w : World) : Calls Tryd.prog 13 #[.slice none 0 0, .int .i64 1] w (fun e w' => e = .returned (.int .i64 1) ∧ w' = w) := by
  go_enter Tryd.func13, Tryd.ntmps13
  go_wp2_with fail
  go_loop [1, 5] (fun k i => k = .int .i64 1 ∧ i = .int .i64 0) (fun _ _ => 0)
  case atStart => exact ⟨rfl, rfl⟩
  case round =>
    obtain ⟨rfl, rfl⟩ := hrel
    go_wp2_with fail
    go_ret
    exact ⟨rfl, rfl⟩

set_option maxHeartbeats 2000000 in
theorem held_any (g n c : Nat) (w : World) (hlen : n ≤ 256) (hm : Marks w g n) : Calls Tryd.prog 14 #[.slice (some ⟨g, 0, none⟩) n c, .int .i64 1] w (fun e w' => e = .returned (.int .i64 ((n : Int) + 1)) ∧ ∃ m, w' = w.drewN m) := by
  have Hm := hid hm; clear hm
  have ho1 := ord1
  go_enter Tryd.func14, Tryd.ntmps14
  go_wp2_with fail
  go_loopw [1, 5] (fun kv i wr => ∃ k : Nat, k ≤ n ∧ i = .int .i64 k ∧ kv = .int .i64 ((k : Int) + 1) ∧ ∃ m, wr = w.drewN m) (fun _ i _ => n - (intOf i).toNat)
  case atStart => exact ⟨0, Nat.zero_le _, rfl, rfl, 0, rfl⟩
  case round =>
    obtain ⟨k, hk, rfl, rfl, m, rfl⟩ := hrel
    by_cases hlt : k < n
    · have c1 := Hm.out k hlt
      unfold markCv at c1
      have hord := (ck_facts (k + 1) (by omega)).2
      have hrun := mark_run (k + 1) (by omega)
      rw [show ((k + 1 : Nat) : Int) = (k : Int) + 1 from by omega] at hrun
      generalize ck (k + 1) = z at *
      go_wp2_with fail
      exact ⟨⟨k + 1, by omega, by go_num, by go_num, _, rfl⟩, by simp only [intOf]; omega⟩
    · have hkl : k = n := by omega
      subst hkl
      go_wp2_with fail
      go_ret
      exact ⟨rfl, _, rfl⟩

theorem held_nil (w : World) : Calls Tryd.prog 14 #[.slice none 0 0, .int .i64 1] w (fun e w' => e = .returned (.int .i64 1) ∧ w' = w) := by
  go_enter Tryd.func14, Tryd.ntmps14
  go_wp2_with fail
  go_loop [1, 5] (fun k i => k = .int .i64 1 ∧ i = .int .i64 0) (fun _ _ => 0)
  case atStart => exact ⟨rfl, rfl⟩
  case round =>
    obtain ⟨rfl, rfl⟩ := hrel
    go_wp2_with fail
    go_ret
    exact ⟨rfl, rfl⟩

theorem eq_nil (w : World) : Calls Tryd.prog 12 #[.slice none 0 0, .slice none 0 0] w (fun e w' => e = .returned (.bool true) ∧ w' = w) := by
  go_enter Tryd.func12, Tryd.ntmps12
  go_wp2_with fail
  go_loop [5] (fun i => i = .int .i64 0) (fun _ => 0)
  case atStart => exact rfl
  case round =>
    obtain rfl := hrel
    go_wp2_with fail
    go_ret
    exact ⟨rfl, rfl⟩

theorem specReadComplex_none (s : ByteArray) (w : World) (hs : s.size ≤ 1048576) (h : readL s = none) : Calls Tryd.prog 10 #[.string s] w (RetL none w) := by
  have HV : Hid (∀ W : World, W = w → Calls Tryd.prog 35 #[.string s] W (fun e w' => e = .returned (.tuple #[.slice none 0 0, .bool false]) ∧ Below w.heap.size w w')) := by
    rintro W rfl
    have := l01CRead_any s W hs
    rw [h] at this
    exact this
  clear h
  go_enter Tryd.func10, Tryd.ntmps10
  go_wp2_with (go_at_call 35; refine (HV.out _ rfl).mono ?_; rintro e w' ⟨rfl, hb⟩)
  go_ret2
  exact ⟨rfl, hb⟩
theorem specReadComplex_some (s : ByteArray) (zs : List (Nat × Nat)) (w : World) (hs : s.size ≤ 1048576) (h : readL s = some zs) : Calls Tryd.prog 10 #[.string s] w (RetL (some zs) w) := by
  have HV : Hid (∀ W : World, W = w → Calls Tryd.prog 35 #[.string s] W (RetL (some zs) w)) := by
    rintro W rfl
    have := l01CRead_any s W hs
    rw [h] at this
    exact this
  clear h
  go_enter Tryd.func10, Tryd.ntmps10
  go_wp2_with (go_at_call 35; refine (HV.out _ rfl).mono ?_; rintro e w' ⟨g, cv, rfl, ho, hb⟩)
  go_ret2
  exact ⟨g, cv, rfl, ho, hb⟩

theorem implReadComplex_none (s : ByteArray) (w : World) (hs : s.size ≤ 1048576) (hm : MaxL w) (h : readL s = none) : Calls Tryd.prog 11 #[.string s] w (fun e w' => e = .returned (.tuple #[.slice none 0 0, .bool false]) ∧ Below w.heap.size w w') := by
  have := implReadComplex_any s w hs hm
  rw [h] at this
  exact this
theorem implReadComplex_some (s : ByteArray) (zs : List (Nat × Nat)) (w : World) (hs : s.size ≤ 1048576) (hm : MaxL w) (h : readL s = some zs) : Calls Tryd.prog 11 #[.string s] w (RetL (some zs) w) := by
  have := implReadComplex_any s w hs hm
  rw [h] at this
  exact this

set_option maxHeartbeats 4000000 in
theorem FnExactReadComplex_walk (s : ByteArray) (w : World) (hsm : s.size ≤ maxLen) (hm : MaxL w) : Calls Tryd.prog 3 #[.string s] w (Yes w) := by
  unfold maxLen at hsm
  have Hm := hid hm; clear hm
  by_cases h : s.size ≤ 1048576
  · cases hr : readL s with
    | none =>
      have Hr := hid hr; clear hr
      go_enter Tryd.func3, Tryd.ntmps3
      go_wp2_with fail
      refine (specReadComplex_none s _ h Hr.out).mono ?_
      rintro e w1 ⟨rfl, hb1⟩
      go_wp2_with fail
      refine (implReadComplex_none s _ h (Hm.out.below hb1) Hr.out).mono ?_
      rintro e w2 ⟨rfl, hb2⟩
      have hb3 := hid (hb1.trans (hb2.mono hb1.size))
      clear hb1 hb2
      go_wp2_with (first
        | (go_at_call 12; refine (eq_nil _).mono ?_; rintro e w' ⟨rfl, rfl⟩)
        | (go_at_call 13; refine (mark_nil _).mono ?_; rintro e w' ⟨rfl, rfl⟩)
        | (go_at_call 14; refine (held_nil _).mono ?_; rintro e w' ⟨rfl, rfl⟩)
        | (go_at_call 11; refine (implReadComplex_none s _ h (Hm.out.below hb3.out) Hr.out).mono ?_; rintro e w4 ⟨rfl, hb4⟩))
      all_goals (go_ret; exact ⟨rfl, hb3.out.trans (hb4.mono hb3.out.size)⟩)
    | some zs =>
      have hl := readL_len hr
      have Hr := hid hr; clear hr
      go_enter Tryd.func3, Tryd.ntmps3
      go_wp2_with fail
      refine (specReadComplex_some s zs _ h Hr.out).mono ?_
      rintro e w1 ⟨gw, cw, rfl, how, hb1⟩
      have How := hid how; clear how
      go_wp2_with fail
      refine (implReadComplex_some s zs _ h (Hm.out.below hb1) Hr.out).mono ?_
      rintro e w2 ⟨gg, cg, rfl, hog, hb2⟩
      have Hog := hid hog; clear hog
      have hwb := How.out.lt gw rfl
      have hgb := Hog.out.lt gg rfl
      have How2 := hid (own_below How.out hb2)
      have hb3 := hid (hb1.trans (hb2.mono hb1.size))
      have hb1s := hb1.size
      have hw1 : Hid (NewC w2 gw zs.length zs) := newC_of_own How2.out rfl
      have hg1 : Hid (NewC w2 gg zs.length zs) := newC_of_own Hog.out rfl
      clear hb1 hb2
      go_wp2_with (go_at_call 12; refine (eqComplex64S_any gg gw _ _ _ zs _ hg1.out hw1.out (by omega)).mono ?_; rintro e w' ⟨rfl, m, rfl⟩)
      all_goals (
        refine (mark_any gg zs.length cg w1.heap.size zs (w2.drewN m) rfl hl Hog.out).mono ?_
        rintro e w3 ⟨rfl, hmk, hgr⟩
        have Hmk := hid hmk
        have hb4 := hid ((below_drewN hb3.out m).grown hgr (below_drewN hb3.out m).size (fun q hq => by cases hq; omega))
        have hgw : gw ≠ gg := by omega
        have How3 := hid (World.ownsRow.kept (w := w2.drewN m) (w' := w3) How2.out hgr (.inr (by simp [Value.ownBlock]; exact hgw)))
        clear hgr hmk
        go_wp2_with fail
        refine (held_any gg zs.length cg _ hl Hmk.out).mono ?_
        rintro e w' ⟨rfl, m2, rfl⟩
        have hb5 := hid (below_drewN hb4.out m2)
        go_wp2_with fail
        refine (implReadComplex_some s zs _ h (Hm.out.below hb5.out) Hr.out).mono ?_
        rintro e w4 ⟨gh, ch, rfl, hoh, hb6⟩
        have How4 := own_below (w := w3.drewN m2) How3.out hb6
        have hw4 : Hid (NewC w4 gw zs.length zs) := newC_of_own How4 rfl
        have hh4 : Hid (NewC w4 gh zs.length zs) := newC_of_own hoh rfl
        have Hmk4 : Hid (Marks w4 gg zs.length) := Marks.below (w := w3.drewN m2) Hmk.out hb6
        have hb7 := hid (hb5.out.trans (hb6.mono hb5.out.size))
        clear hoh hb6 How4
        go_wp2_with (first
          | (go_at_call 12; refine (eqComplex64S_any gh gw _ _ _ zs _ hh4.out hw4.out (by omega)).mono ?_; rintro e w' ⟨rfl, m3, rfl⟩)
          | (go_at_call 14; refine (held_any gg zs.length cg (w4.drewN m3) hl Hmk4.out).mono ?_; rintro e w' ⟨rfl, m4, rfl⟩))
        all_goals (go_ret; exact ⟨rfl, by first | exact below_drewN hb7.out _ | exact below_drewN (below_drewN hb7.out _) _⟩))
  · go_enter Tryd.func3, Tryd.ntmps3
    go_wp2_with fail
    all_goals (go_ret; exact ⟨rfl, Below.refl _ _⟩)
end Go.Proofs.YtfmlebjaopfelaaDoor
