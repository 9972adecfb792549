/-
  The law on reading a list of float32 numbers: it returns true and writes nothing that was there. Conditions: the library's variables hold what their initialisers lay.
-/
import Derived.Test.YtfmlebjaopfelaaDoorMarkF
namespace Go.Proofs.YtfmlebjaopfelaaDoor
open Go.RowKit Go.Proofs.YtfmlebjaopfelaaDoor.Fl

theorem implReadNumbers_none (s : ByteArray) (w : World) (hs : s.size ≤ 1048576) (hm : MaxL w) (h : readL s = none) : Calls Tryd.prog 31 #[.string s] w (fun e w' => e = .returned (.tuple #[.slice none 0 0, .bool false]) ∧ Below w.heap.size w w') := by
  have := implReadNumbers_any s w hs hm
  rw [h] at this
  exact this
theorem implReadNumbers_some (s : ByteArray) (zs : List Nat) (w : World) (hs : s.size ≤ 1048576) (hm : MaxL w) (h : readL s = some zs) : Calls Tryd.prog 31 #[.string s] w (RetL (some zs) w) := by
  have := implReadNumbers_any s w hs hm
  rw [h] at this
  exact this

set_option maxHeartbeats 2000000 in
theorem FnExactReadNumbers_walk (s : ByteArray) (w : World) (hsm : s.size ≤ maxLen) (hm : MaxL w) : Calls Tryd.prog 9 #[.string s] w (Yes w) := by
  unfold maxLen at hsm
  have Hm := hid hm; clear hm
  by_cases h : s.size ≤ 1048576
  · cases hr : readL s with
    | none =>
      have Hr := hid hr; clear hr
      go_enter Tryd.func9, Tryd.ntmps9
      go_wp2_with fail
      refine (specReadNumbers_none s _ h Hr.out).mono ?_
      rintro e w1 ⟨rfl, hb1⟩
      go_wp2_with fail
      refine (implReadNumbers_none s _ h (Hm.out.below hb1) Hr.out).mono ?_
      rintro e w2 ⟨rfl, hb2⟩
      have hb3 := hid (hb1.trans (hb2.mono hb1.size))
      clear hb1 hb2
      go_wp2_with (first
        | (go_at_call 32; refine (eq_nil _).mono ?_; rintro e w' ⟨rfl, rfl⟩)
        | (go_at_call 33; refine (mark_nil _).mono ?_; rintro e w' ⟨rfl, rfl⟩)
        | (go_at_call 34; refine (held_nil _).mono ?_; rintro e w' ⟨rfl, rfl⟩)
        | (go_at_call 31; refine (implReadNumbers_none s _ h (Hm.out.below hb3.out) Hr.out).mono ?_; rintro e w4 ⟨rfl, hb4⟩))
      all_goals (go_ret; exact ⟨rfl, hb3.out.trans (hb4.mono hb3.out.size)⟩)
    | some zs =>
      have hl := readL_len hr
      have Hr := hid hr; clear hr
      go_enter Tryd.func9, Tryd.ntmps9
      go_wp2_with fail
      refine (specReadNumbers_some s zs _ h Hr.out).mono ?_
      rintro e w1 ⟨gw, cw, rfl, how, hb1⟩
      have How := hid how; clear how
      go_wp2_with fail
      refine (implReadNumbers_some s zs _ h (Hm.out.below hb1) Hr.out).mono ?_
      rintro e w2 ⟨gg, cg, rfl, hog, hb2⟩
      have Hog := hid hog; clear hog
      have hwb := How.out.lt gw rfl
      have hgb := Hog.out.lt gg rfl
      have How2 := hid (own_below How.out hb2)
      have hb3 := hid (hb1.trans (hb2.mono hb1.size))
      have hb1s := hb1.size
      have hw1 : Hid (NewF w2 gw zs.length zs) := new_of_own How2.out rfl
      have hg1 : Hid (NewF w2 gg zs.length zs) := new_of_own Hog.out rfl
      clear hb1 hb2
      go_wp2_with (go_at_call 32; refine (eqFloat32S_any gg gw _ _ _ zs _ hg1.out hw1.out (by omega)).mono ?_; rintro e w' ⟨rfl, m, rfl⟩)
      all_goals (
        refine (mark_any gg zs.length cg w1.heap.size zs (w2.drewN m) rfl hl Hog.out).mono ?_
        rintro e w3 ⟨rfl, hmk, hgr⟩
        have Hmk := hid hmk
        have hb4 := hid ((below_drewN hb3.out m).grown hgr (below_drewN hb3.out m).size (fun q hq => by cases hq; omega))
        have hgw : gw ≠ gg := by omega
        have How3 := hid (World.ownsRow.kept (w := w2.drewN m) (w' := w3) How2.out hgr (.inr (by simp [Value.ownBlock]; exact hgw)))
        clear hgr hmk
        go_wp2_with fail
        refine (held_any gg zs.length cg _ hl Hmk.out).mono ?_
        rintro e w' ⟨rfl, m2, rfl⟩
        have hb5 := hid (below_drewN hb4.out m2)
        go_wp2_with fail
        refine (implReadNumbers_some s zs _ h (Hm.out.below hb5.out) Hr.out).mono ?_
        rintro e w4 ⟨gh, ch, rfl, hoh, hb6⟩
        have How4 := own_below (w := w3.drewN m2) How3.out hb6
        have hw4 : Hid (NewF w4 gw zs.length zs) := new_of_own How4 rfl
        have hh4 : Hid (NewF w4 gh zs.length zs) := new_of_own hoh rfl
        have Hmk4 : Hid (Marks w4 gg zs.length) := Marks.below (w := w3.drewN m2) Hmk.out hb6
        have hb7 := hid (hb5.out.trans (hb6.mono hb5.out.size))
        clear hoh hb6 How4
        go_wp2_with (first
          | (go_at_call 32; refine (eqFloat32S_any gh gw _ _ _ zs _ hh4.out hw4.out (by omega)).mono ?_; rintro e w' ⟨rfl, m3, rfl⟩)
          | (go_at_call 34; refine (held_any gg zs.length cg (w4.drewN m3) hl Hmk4.out).mono ?_; rintro e w' ⟨rfl, m4, rfl⟩))
        all_goals (go_ret; exact ⟨rfl, by first | exact below_drewN hb7.out _ | exact below_drewN (below_drewN hb7.out _) _⟩))
  · go_enter Tryd.func9, Tryd.ntmps9
    go_wp2_with fail
    all_goals (go_ret; exact ⟨rfl, Below.refl _ _⟩)
end Go.Proofs.YtfmlebjaopfelaaDoor
