/-
  Reading a list of complex numbers: both sides give the same answer, in memory of its own. Conditions: a text has at most 1048576 letters; the library's variables hold what their initialisers lay.
-/
import Derived.Test.YtfmlebjaopfelaaDoorCut
import Derived.Test.YtfmlebjaopfelaaDoorDig
import Derived.Laws.Cover3
import Derived.Test.YtfmlebjaopfelaaDoorList
namespace Go.Proofs.YtfmlebjaopfelaaDoor.Fl
open Go Go.RowKit

/-- A pair of bits as a complex number. -/
def cval (p : Nat × Nat) : Value := .complex .f32 p.1 p.2
/-- The complex number with sixteen digits. -/
def readC (l : List UInt8) : Option (Nat × Nat) := if l.length = 16 then match readH (l.take 8), readH (l.drop 8) with
  | some a, some b => some (a, b)
  | _, _ => none
  else none
theorem readC_len {l : List UInt8} (h : l.length ≠ 16) : readC l = none := if_neg h

/-- The numbers of the first k texts, if each has one. -/
def readK (ls : List (List UInt8)) : Nat → Option (List (Nat × Nat))
  | 0 => some []
  | k + 1 => match readK ls k, readC (ls.getD k []) with
    | some zs, some n => some (zs ++ [n])
    | _, _ => none
/-- The list with a text. -/
def readL (s : ByteArray) : Option (List (Nat × Nat)) := if s = noneB then some [] else if (cutL s.data.toList).length ≤ 256 then readK (cutL s.data.toList) (cutL s.data.toList).length else none

theorem readK_len {ls : List (List UInt8)} : ∀ {k : Nat} {zs : List (Nat × Nat)}, readK ls k = some zs → zs.length = k
  | 0, zs, h => by cases h; rfl
  | k + 1, zs, h => by
    unfold readK at h
    cases h1 : readK ls k with
    | none => rw [h1] at h; cases h
    | some ys =>
      cases h2 : readC (ls.getD k []) with
      | none => rw [h1, h2] at h; cases h
      | some n =>
        rw [h1, h2] at h
        cases h
        rw [List.length_append, readK_len h1]; rfl
theorem readK_none {ls : List (List UInt8)} {k : Nat} : ∀ {n : Nat}, k < n → readC (ls.getD k []) = none → readK ls n = none
  | 0, hk, _ => by omega
  | n + 1, hk, h => by
    unfold readK
    by_cases e : k = n
    · subst e; rw [h]; cases readK ls k <;> rfl
    · rw [readK_none (by omega) h]
theorem readL_len {s : ByteArray} {zs : List (Nat × Nat)} (h : readL s = some zs) : zs.length ≤ 256 := by
  unfold readL at h
  split at h
  · cases h; simp
  · split at h
    · have := readK_len h; omega
    · cases h

theorem readL_bad {s : ByteArray} (h0 : ¬ s = noneB) {k : Nat} (hk : k < (cutL s.data.toList).length) (h : readC ((cutL s.data.toList).getD k []) = none) : readL s = none := by
  unfold readL
  rw [if_neg h0]
  split
  · exact readK_none hk h
  · rfl
theorem readL_long {s : ByteArray} (h0 : ¬ s = noneB) (h : 256 < (cutL s.data.toList).length) : readL s = none := by
  unfold readL
  rw [if_neg h0, if_neg (by omega)]
theorem readL_all {s : ByteArray} (h0 : ¬ s = noneB) (h : (cutL s.data.toList).length ≤ 256) : readL s = readK (cutL s.data.toList) (cutL s.data.toList).length := by
  unfold readL
  rw [if_neg h0, if_pos h]
theorem readK_succ {ls : List (List UInt8)} {k : Nat} {zs : List (Nat × Nat)} {n : Nat × Nat} (h : readK ls k = some zs) (h2 : readC (ls.getD k []) = some n) : readK ls (k + 1) = some (zs ++ [n]) := by
  rw [readK, h, h2]

/-- What ReadList ends in. -/
def RetL (o : Option (List (Nat × Nat))) (w : World) (e : Ending) (w' : World) : Prop := match o with
  | none => e = .returned (.tuple #[.slice none 0 0, .bool false]) ∧ Below w.heap.size w w'
  | some zs => ∃ g cv, e = .returned (.tuple #[.slice (some ⟨g, 0, none⟩) zs.length cv, .bool true]) ∧ w'.ownsRow w.heap.size 56 1 (.slice (some ⟨g, 0, none⟩) zs.length cv) zs.length (zs.map (cval)) ∧ Below w.heap.size w w'

theorem own_below {B : Nat} {e : TypeId} {k : Nat} {v : Value} {n : Nat} {xs : List Value} {w w' : World} (h : w.ownsRow B e k v n xs) (hb : Below w.heap.size w w') : w'.ownsRow B e k v n xs :=
  h.kept (row := none) ⟨hb.os, hb.tape, hb.output, hb.size, fun j hj _ => hb.block j hj⟩ (by cases hv : v.ownBlock <;> simp)
end Go.Proofs.YtfmlebjaopfelaaDoor.Fl
namespace Go.Proofs.YtfmlebjaopfelaaDoor
open Go.RowKit Go.Proofs.YtfmlebjaopfelaaDoor.Fl

theorem infoC2 : (Tryd.prog.info? 56).map (fun i => (i.zero, i.size, i.bytes)) = some (some (.complex .f32 0 0), 1, 8) := by kernel_rfl

theorem piece_cell {w : World} {B g cv : Nat} {bs : List ByteArray} {e : TypeId} (h : w.ownsRow B e 1 (.slice (some ⟨g, 0, none⟩) bs.length cv) bs.length (bs.map Value.string)) (k : Nat) (hk : k < bs.length) : w.cell? ⟨g, k, none⟩ = some (.string (bs.getD k ByteArray.empty)) := by
  rw [h.cellAt k (by omega)]
  simp [List.getD, hk]

theorem getD_data {bs : List ByteArray} {ls : List (List UInt8)} (h : bs.map (·.data.toList) = ls) (k : Nat) (hk : k < bs.length) : (bs.getD k ByteArray.empty).data.toList = ls.getD k [] := by
  subst h
  simp [List.getD, hk]
theorem piece_size {bs : List ByteArray} {s : ByteArray} (h : bs.map (·.data.toList) = cutL s.data.toList) (k : Nat) (hk : k < bs.length) : (bs.getD k ByteArray.empty).size ≤ s.size := by
  have all : ∀ l : List UInt8, ∀ p ∈ cutL l, p.length ≤ l.length := by
    intro l
    induction l with
    | nil => intro p hp; simp [cutL] at hp; subst hp; simp
    | cons c l ih =>
      intro p hp
      unfold cutL at hp
      split at hp
      · rcases List.mem_cons.1 hp with rfl | h
        · simp
        · have := ih p h; simp only [List.length_cons]; omega
      · split at hp
        · simp at hp; subst hp; simp
        · rename_i q qs hq
          rcases List.mem_cons.1 hp with rfl | h
          · have := ih q (by rw [hq]; simp); simp only [List.length_cons]; omega
          · have := ih p (by rw [hq]; simp [h]); simp only [List.length_cons]; omega
  have e := getD_data h k hk
  have hm : (cutL s.data.toList).getD k [] ∈ cutL s.data.toList := by
    have hl : k < (cutL s.data.toList).length := by rw [← h]; simpa using hk
    simp [List.getD, hl]
  have := all _ _ hm
  rw [← e] at this
  simpa using this

theorem ext_lo {p : ByteArray} (h : p.size = 16) : (p.extract 0 8).size = 8 ∧ (p.extract 0 8).data.toList = p.data.toList.take 8 := by
  constructor
  · simp [h]
  · simp
theorem ext_hi {p : ByteArray} (h : p.size = 16) : (p.extract 8 16).size = 8 ∧ (p.extract 8 16).data.toList = p.data.toList.drop 8 := by
  constructor
  · simp [h]
  · have hl : p.data.toList.length = 16 := by rw [← h]; simp
    simp only [ByteArray.data_extract, Array.toList_extract, List.extract_eq_take_drop]
    exact List.take_of_length_le (by rw [List.length_drop, hl]; omega)

theorem digits_none (s : ByteArray) (w : World) (h8 : s.size = 8) (l : List UInt8) (hl : s.data.toList = l) (h : readH l = none) : Calls Tryd.prog 52 #[.string s] w (fun e w' => ∃ x, e = .returned (.tuple #[.float .f32 x, .bool false]) ∧ ∃ m, w' = w.drewN m) := by
  refine (l01Digits_any s w h8).mono fun e w' hR => ?_
  unfold RetN at hR
  rw [hl, h] at hR
  obtain ⟨⟨x, hx⟩, hm⟩ := hR
  exact ⟨x, hx, hm⟩
theorem digits_some (s : ByteArray) (w : World) (h8 : s.size = 8) (l : List UInt8) (hl : s.data.toList = l) (n : Nat) (h : readH l = some n) : Calls Tryd.prog 52 #[.string s] w (fun e w' => e = .returned (.tuple #[.float .f32 n, .bool true]) ∧ ∃ m, w' = w.drewN m) := by
  refine (l01Digits_any s w h8).mono fun e w' hR => ?_
  unfold RetN at hR
  rw [hl, h] at hR
  exact hR
theorem number_none (s : ByteArray) (w : World) (h8 : s.size = 8) (l : List UInt8) (hl : s.data.toList = l) (h : readH l = none) : Calls Tryd.prog 37 #[.string s] w (fun e w' => ∃ x, e = .returned (.tuple #[.float .f32 x, .bool false]) ∧ ∃ m, w' = w.drewN m) := by
  refine (readNumber_any s w (by omega)).mono fun e w' hR => ?_
  unfold RetN at hR
  rw [hl, h] at hR
  obtain ⟨⟨x, hx⟩, hm⟩ := hR
  exact ⟨x, hx, hm⟩
theorem number_some (s : ByteArray) (w : World) (h8 : s.size = 8) (l : List UInt8) (hl : s.data.toList = l) (n : Nat) (h : readH l = some n) : Calls Tryd.prog 37 #[.string s] w (fun e w' => e = .returned (.tuple #[.float .f32 n, .bool true]) ∧ ∃ m, w' = w.drewN m) := by
  refine (readNumber_any s w (by omega)).mono fun e w' hR => ?_
  unfold RetN at hR
  rw [hl, h] at hR
  exact hR
theorem readC_is {l : List UInt8} (h : l.length = 16) {a b : Nat} (h1 : readH (l.take 8) = some a) (h2 : readH (l.drop 8) = some b) : readC l = some (a, b) := by
  unfold readC
  rw [if_pos h, h1, h2]
theorem readC_no1 {l : List UInt8} (h1 : readH (l.take 8) = none) : readC l = none := by
  unfold readC
  split
  · rw [h1]
  · rfl
theorem readC_no2 {l : List UInt8} (h2 : readH (l.drop 8) = none) : readC l = none := by
  unfold readC
  split
  · rw [h2]; cases readH (l.take 8) <;> rfl
  · rfl

set_option maxRecDepth 100000 in
set_option maxHeartbeats 4000000 in
theorem l01CRead_any (s : ByteArray) (w : World) (hs : s.size ≤ 1048576) : Calls Tryd.prog 35 #[.string s] w (RetL (readL s) w) := by
  obtain ⟨i0, hi, hz0, hz1, hz2⟩ := info_parts infoC2
  by_cases hn : s = noneB
  · have hr : readL s = some [] := if_pos hn
    rw [hr]
    subst hn
    go_enter Tryd.func35, Tryd.ntmps35
    unfold noneB
    go_wp2_with fail
    go_ret2
    exact ⟨_, _, rfl, World.ownsRow_lit _ _ 0 (Nat.le_refl _) (by unfold maxLen; omega) rfl, (Below.refl _ _).alloc (Nat.le_refl _) _⟩
  · have hq : (s.toList == [110, 111, 110, 101]) = false := by
      rw [Lib.toList_data]
      simp only [beq_eq_false_iff_ne, ne_eq]
      intro e
      apply hn
      obtain ⟨⟨l⟩⟩ := s
      simp only at e
      subst e
      rfl
    have H0 := hid hn; clear hn
    go_enter Tryd.func35, Tryd.ntmps35
    go_wp2_with (go_at_call 51; refine (l01Cut_any s _ hs).mono ?_; rintro e w1 ⟨bs, gp, cp, hbs, rfl, hop, hbp⟩; have hcl : (cutL s.data.toList).length = bs.length := (by rw [← hbs, List.length_map]))
    · have hr := readL_long H0.out (by omega)
      rw [hr]
      go_ret2
      exact ⟨rfl, (Below.refl w.heap.size w).alloc (Nat.le_refl _) _ |>.trans (hbp.mono (by simp))⟩
    · have hr := readL_all H0.out (by omega)
      have Hr := hid hr; clear hr
      have hb0 := ((Below.refl w.heap.size w).alloc (Nat.le_refl _) (.cells #[] 56)).trans (hbp.mono (by simp))
      have ho0 := own_below (World.ownsRow_lit (base := w.heap.size) (e := 56) (size := 1) w #[] 0 (Nat.le_refl _) (by unfold maxLen; omega) rfl) hbp
      have hgp0 := (hop.lt gp rfl).1
      have hgp1 : ¬ w.heap.size = gp := by simp at hgp0; omega
      have hop2 := Go.Joins.ownsRow_le hop (show w.heap.size ≤ _ by simp)
      have hbl : bs.length ≤ 256 := by omega
      go_loopw [4, 6] (fun v i wr => ∃ (k : Nat) (zs : List (Nat × Nat)) (g cv : Nat), k ≤ bs.length ∧ i = .int .i64 k ∧ v = .slice (some ⟨g, 0, none⟩) k cv ∧ g ≠ gp ∧ Hid (readK (cutL s.data.toList) k = some zs) ∧ Hid (wr.ownsRow w.heap.size 56 1 v k (zs.map cval)) ∧ Hid (wr.ownsRow w.heap.size 9 1 (.slice (some ⟨gp, 0, none⟩) bs.length cp) bs.length (bs.map Value.string)) ∧ Hid (Below w.heap.size w wr)) (fun _ i _ => bs.length - (intOf i).toNat)
      case atStart => exact ⟨0, [], _, _, Nat.zero_le _, rfl, rfl, hgp1, rfl, ho0, hop2, hb0⟩
      case round =>
        obtain ⟨k, zs, g, cv, hk, rfl, rfl, hne, Hk, Ho, Hp, Hb⟩ := hrel
        have hbs2 := Hb.out.size
        have hbs := hbs2
        by_cases hlt : k < bs.length
        · have hc := piece_cell Hp.out k hlt
          have hg := getD_data (by assumption) k hlt
          generalize hpp : bs.getD k ByteArray.empty = p at *
          by_cases h8 : ((p.size : Int) != 16) = true
          · have hr := readL_bad H0.out (k := k) (by omega) (by rw [← hg]; exact readC_len (by intro e; have := toList_len p; simp at h8; omega))
            rw [hr]
            go_wp2_with fail
            go_ret2
            exact ⟨rfl, Hb.out⟩
          · have h8f : ((p.size : Int) != 16) = false := by simpa using h8
            have hps : p.size = 16 := by have := h8f; simp at this; omega
            have hp16 : p.data.toList.length = 16 := by rw [← hps]; simp
            have El := hid (ext_lo hps)
            have Eh := hid (ext_hi hps)
            clear h8 hpp
            cases hlo : readH (p.data.toList.take 8) with
            | none =>
              cases hhi : readH (p.data.toList.drop 8) with
              | none =>
                have hr := readL_bad H0.out (k := k) (by omega) (by rw [← hg]; exact readC_no1 hlo)
                rw [hr]
                have Hlo := hid hlo; have Hhi := hid hhi
                clear hlo hhi hg hr
                go_wp2_with fail
                refine (digits_none _ _ El.out.1 _ El.out.2 Hlo.out).mono ?_
                rintro e w2 ⟨xlo, rfl, mlo, rfl⟩
                go_wp2_with fail
                refine (digits_none _ _ Eh.out.1 _ Eh.out.2 Hhi.out).mono ?_
                rintro e w2 ⟨xhi, rfl, mhi, rfl⟩
                go_wp2_with fail
                go_ret2
                exact ⟨rfl, below_drewN Hb.out _⟩
              | some b =>
                have hr := readL_bad H0.out (k := k) (by omega) (by rw [← hg]; exact readC_no1 hlo)
                rw [hr]
                have Hlo := hid hlo; have Hhi := hid hhi
                clear hlo hhi hg hr
                go_wp2_with fail
                refine (digits_none _ _ El.out.1 _ El.out.2 Hlo.out).mono ?_
                rintro e w2 ⟨xlo, rfl, mlo, rfl⟩
                go_wp2_with fail
                refine (digits_some _ _ Eh.out.1 _ Eh.out.2 _ Hhi.out).mono ?_
                rintro e w2 ⟨rfl, mhi, rfl⟩
                go_wp2_with fail
                go_ret2
                exact ⟨rfl, below_drewN Hb.out _⟩
            | some a =>
              cases hhi : readH (p.data.toList.drop 8) with
              | none =>
                have hr := readL_bad H0.out (k := k) (by omega) (by rw [← hg]; exact readC_no2 hhi)
                rw [hr]
                have Hlo := hid hlo; have Hhi := hid hhi
                clear hlo hhi hg hr
                go_wp2_with fail
                refine (digits_some _ _ El.out.1 _ El.out.2 _ Hlo.out).mono ?_
                rintro e w2 ⟨rfl, mlo, rfl⟩
                go_wp2_with fail
                refine (digits_none _ _ Eh.out.1 _ Eh.out.2 Hhi.out).mono ?_
                rintro e w2 ⟨xhi, rfl, mhi, rfl⟩
                go_wp2_with fail
                go_ret2
                exact ⟨rfl, below_drewN Hb.out _⟩
              | some b =>
                have hk1 : Hid (readK (cutL s.data.toList) (k + 1) = some (zs ++ [(a, b)])) := readK_succ Hk.out (by rw [← hg]; exact readC_is hp16 hlo hhi)
                have Hlo := hid hlo; have Hhi := hid hhi
                clear hlo hhi hg
                go_wp2_with fail
                refine (digits_some _ _ El.out.1 _ El.out.2 _ Hlo.out).mono ?_
                rintro e w2 ⟨rfl, m1, rfl⟩
                go_wp2_with fail
                refine (digits_some _ _ Eh.out.1 _ Eh.out.2 _ Hhi.out).mono ?_
                intro e w2 hR
                obtain ⟨rfl, m2, hw2⟩ := hR
                have hb2 : Below wr.heap.size wr w2 := (below_draws wr m1).trans (below_of_draws hw2)
                clear hw2
                go_wp2_with (at_builtin; refine wpList_append_own_at _ rfl _ _ 22 rfl w.heap.size 56 i0 (.complex .f32 0 0) 1 8 Tryd.underlying22 hi hz0 hz1 hz2 rfl (by decide) _ _ _ rfl ((own_below Ho.out hb2).alloc _) ⟨w2.heap.size, 0, none⟩ 1 1 [_] rfl rfl (cell_one_new _ _ _) (fun x hx => by simp at hx; subst hx; rfl) (by unfold maxLen; omega) (by omega) (by have := hb2.size; simp; omega) ?_; intro v' w3 hown' hgrow3 hnil3 hblk3)
                obtain ⟨g', c', rfl⟩ := Go.Joins.ownsRow_form hown' (by omega)
                have ho2 : w3.ownsRow w.heap.size 56 1 (.slice (some ⟨g', 0, none⟩) (k + 1) c') (k + 1) ((zs ++ [(a, b)]).map cval) := by rw [List.map_append]; exact hown'
                have hpk := ((own_below Hp.out hb2).alloc (.cells #[.complex .f32 a b] 56))
                have hp2 := hpk.kept hgrow3 (.inr (by simp [Value.ownBlock, Act.eval]; omega))
                have hgp : gp < w2.heap.size := by have := ((own_below Hp.out hb2).lt gp rfl).2; exact this
                have hne2 : g' ≠ gp := by
                  rcases hblk3 with h | h
                  · simp [Value.ownBlock, Act.eval] at h; omega
                  · simp [Value.ownBlock] at h; omega
                exact ⟨⟨k + 1, zs ++ [(a, b)], g', c', by omega, by go_num, rfl, hne2, hk1, ho2, hp2, ((Hb.out.trans (hb2.mono hbs)).alloc (by have := hb2.size; omega) _).grown hgrow3 (by have := hb2.size; simp; omega) (fun q hq => (Ho.out.lt q hq).1)⟩, by simp only [intOf]; omega⟩
        · have hkl : k = bs.length := by omega
          have hz : readL s = some zs := by rw [Hr.out, hcl, ← hkl]; exact Hk.out
          have hzl := readK_len Hk.out
          rw [hz]
          subst hkl
          have Hzl := hid hzl; clear hzl
          go_wp2_with fail
          go_ret2
          exact ⟨g, cv, by rw [Hzl.out]; rfl, by rw [Hzl.out]; exact Ho.out, Hb.out⟩

set_option maxRecDepth 100000 in
set_option maxHeartbeats 4000000 in
theorem implReadComplex_any (s : ByteArray) (w : World) (hs : s.size ≤ 1048576) (hm : MaxL w) : Calls Tryd.prog 11 #[.string s] w (RetL (readL s) w) := by
  obtain ⟨i0, hi, hz0, hz1, hz2⟩ := info_parts infoC2
  have Hm := hid hm; clear hm
  have hb00 := hid ((Below.refl w.heap.size w).alloc (Nat.le_refl _) (.cells #[] 56))
  by_cases hn : s = noneB
  · have hr : readL s = some [] := if_pos hn
    rw [hr]
    have hp : PiecesI s (w.alloc (.cells #[] 56)) = fun e w' => e = .returned (.slice none 0 0) ∧ w' = w.alloc (.cells #[] 56) := by
      funext e w'
      unfold PiecesI
      rw [if_pos hn]
    have HP := hid hp; clear hp
    clear hn hr
    go_enter Tryd.func11, Tryd.ntmps11
    go_wp2_with (go_at_call 36; refine (parted_any s _ hs (Hm.out.below hb00.out)).mono ?_; rw [HP.out]; rintro e w1 ⟨rfl, rfl⟩)
    go_loop [4, 15] (fun v i => v = .slice (some ⟨w.heap.size, 0, none⟩) 0 0 ∧ i = .int .i64 0) (fun _ _ => 0)
    case atStart => exact ⟨rfl, rfl⟩
    case round =>
      obtain ⟨rfl, rfl⟩ := hrel
      go_wp2_with fail
      go_ret2
      exact ⟨_, _, rfl, World.ownsRow_lit _ _ 0 (Nat.le_refl _) (by unfold maxLen; omega) rfl, (Below.refl _ _).alloc (Nat.le_refl _) _⟩
  · have hp : PiecesI s (w.alloc (.cells #[] 56)) = Pieces s.data.toList (w.alloc (.cells #[] 56)) := by
      funext e w'
      unfold PiecesI
      rw [if_neg hn]
    have HP := hid hp; clear hp
    have H0 := hid hn; clear hn
    go_enter Tryd.func11, Tryd.ntmps11
    go_wp2_with (go_at_call 36; refine (parted_any s _ hs (Hm.out.below hb00.out)).mono ?_; rw [HP.out]; rintro e w1 ⟨bs, gp, cp, hbs, rfl, hop, hbp⟩; have hcl : (cutL s.data.toList).length = bs.length := (by rw [← hbs, List.length_map]))
    have hcb := cutL_len s.data.toList
    have hsz : s.data.toList.length = s.size := toList_len s
    have hbl : bs.length ≤ 1048577 := by omega
    clear hcb hsz
    have hb0 := ((Below.refl w.heap.size w).alloc (Nat.le_refl _) (.cells #[] 56)).trans (hbp.mono (by simp))
    have ho0 := own_below (World.ownsRow_lit (base := w.heap.size) (e := 56) (size := 1) w #[] 0 (Nat.le_refl _) (by unfold maxLen; omega) rfl) hbp
    have hgp0 := (hop.lt gp rfl).1
    have hgp1 : ¬ w.heap.size = gp := by simp at hgp0; omega
    have hop2 := Go.Joins.ownsRow_le hop (show w.heap.size ≤ _ by simp)
    go_loopw [4, 15] (fun v i wr => ∃ (k : Nat) (zs : List (Nat × Nat)) (g cv : Nat), k ≤ bs.length ∧ k ≤ 256 ∧ i = .int .i64 k ∧ v = .slice (some ⟨g, 0, none⟩) k cv ∧ g ≠ gp ∧ Hid (readK (cutL s.data.toList) k = some zs) ∧ Hid (wr.ownsRow w.heap.size 56 1 v k (zs.map cval)) ∧ Hid (wr.ownsRow w.heap.size 9 1 (.slice (some ⟨gp, 0, none⟩) bs.length cp) bs.length (bs.map Value.string)) ∧ Hid (Below w.heap.size w wr)) (fun _ i _ => bs.length - (intOf i).toNat)
    case atStart => exact ⟨0, [], _, _, Nat.zero_le _, by omega, rfl, rfl, hgp1, rfl, ho0, hop2, hb0⟩
    case round =>
      obtain ⟨k, zs, g, cv, hk, hk64, rfl, rfl, hne, Hk, Ho, Hp, Hb⟩ := hrel
      have hbs2 := Hb.out.size
      by_cases hlt : k < bs.length
      · have hc := piece_cell Hp.out k hlt
        have hg := getD_data hbs k hlt
        have hbs := hbs2
        generalize hpp : bs.getD k ByteArray.empty = p at *
        by_cases h8 : ((p.size : Int) != 16) = true
        · have hr := readL_bad H0.out (k := k) (by omega) (by rw [← hg]; exact readC_len (by intro e; have := toList_len p; simp at h8; omega))
          rw [hr]
          go_wp2_with fail
          go_ret2
          exact ⟨rfl, Hb.out⟩
        · have h8f : ((p.size : Int) != 16) = false := by simpa using h8
          have hps : p.size = 16 := by have := h8f; simp at this; omega
          by_cases h64 : (k : Int) = 256
          · have hr := readL_long H0.out (by omega)
            rw [hr]
            have h64b : ((k : Int) == 256) = true := by simpa using h64
            clear hr h64 h8
            go_wp2_with fail
            go_ret2
            exact ⟨rfl, Hb.out⟩
          · have hp16 : p.data.toList.length = 16 := by rw [← hps]; simp
            have El := hid (ext_lo hps)
            have Eh := hid (ext_hi hps)
            have h64f : ((k : Int) == 256) = false := by simpa using h64
            clear h8 hpp
            cases hlo : readH (p.data.toList.take 8) with
            | none =>
              cases hhi : readH (p.data.toList.drop 8) with
              | none =>
                have hr := readL_bad H0.out (k := k) (by omega) (by rw [← hg]; exact readC_no1 hlo)
                rw [hr]
                have Hlo := hid hlo; have Hhi := hid hhi
                clear hlo hhi hg hr
                go_wp2_with fail
                refine (number_none _ _ El.out.1 _ El.out.2 Hlo.out).mono ?_
                rintro e w2 ⟨xlo, rfl, mlo, rfl⟩
                go_wp2_with fail
                refine (number_none _ _ Eh.out.1 _ Eh.out.2 Hhi.out).mono ?_
                rintro e w2 ⟨xhi, rfl, mhi, rfl⟩
                go_wp2_with fail
                go_ret2
                exact ⟨rfl, below_drewN Hb.out _⟩
              | some b =>
                have hr := readL_bad H0.out (k := k) (by omega) (by rw [← hg]; exact readC_no1 hlo)
                rw [hr]
                have Hlo := hid hlo; have Hhi := hid hhi
                clear hlo hhi hg hr
                go_wp2_with fail
                refine (number_none _ _ El.out.1 _ El.out.2 Hlo.out).mono ?_
                rintro e w2 ⟨xlo, rfl, mlo, rfl⟩
                go_wp2_with fail
                refine (number_some _ _ Eh.out.1 _ Eh.out.2 _ Hhi.out).mono ?_
                rintro e w2 ⟨rfl, mhi, rfl⟩
                go_wp2_with fail
                go_ret2
                exact ⟨rfl, below_drewN Hb.out _⟩
            | some a =>
              cases hhi : readH (p.data.toList.drop 8) with
              | none =>
                have hr := readL_bad H0.out (k := k) (by omega) (by rw [← hg]; exact readC_no2 hhi)
                rw [hr]
                have Hlo := hid hlo; have Hhi := hid hhi
                clear hlo hhi hg hr
                go_wp2_with fail
                refine (number_some _ _ El.out.1 _ El.out.2 _ Hlo.out).mono ?_
                rintro e w2 ⟨rfl, mlo, rfl⟩
                go_wp2_with fail
                refine (number_none _ _ Eh.out.1 _ Eh.out.2 Hhi.out).mono ?_
                rintro e w2 ⟨xhi, rfl, mhi, rfl⟩
                go_wp2_with fail
                go_ret2
                exact ⟨rfl, below_drewN Hb.out _⟩
              | some b =>
                have hk1 : Hid (readK (cutL s.data.toList) (k + 1) = some (zs ++ [(a, b)])) := readK_succ Hk.out (by rw [← hg]; exact readC_is hp16 hlo hhi)
                have Hlo := hid hlo; have Hhi := hid hhi
                clear hlo hhi hg
                go_wp2_with fail
                refine (number_some _ _ El.out.1 _ El.out.2 _ Hlo.out).mono ?_
                rintro e w2 ⟨rfl, m1, rfl⟩
                go_wp2_with fail
                refine (number_some _ _ Eh.out.1 _ Eh.out.2 _ Hhi.out).mono ?_
                intro e w2 hR
                obtain ⟨rfl, m2, hw2⟩ := hR
                have hb2 : Below wr.heap.size wr w2 := (below_draws wr m1).trans (below_of_draws hw2)
                clear hw2
                go_wp2_with (at_builtin; refine wpList_append_own_at _ rfl _ _ 22 rfl w.heap.size 56 i0 (.complex .f32 0 0) 1 8 Tryd.underlying22 hi hz0 hz1 hz2 rfl (by decide) _ _ _ rfl ((own_below Ho.out hb2).alloc _) ⟨w2.heap.size, 0, none⟩ 1 1 [_] rfl rfl (cell_one_new _ _ _) (fun x hx => by simp at hx; subst hx; rfl) (by unfold maxLen; omega) (by omega) (by have := hb2.size; simp; omega) ?_; intro v' w3 hown' hgrow3 hnil3 hblk3)
                obtain ⟨g', c', rfl⟩ := Go.Joins.ownsRow_form hown' (by omega)
                have ho2 : w3.ownsRow w.heap.size 56 1 (.slice (some ⟨g', 0, none⟩) (k + 1) c') (k + 1) ((zs ++ [(a, b)]).map cval) := by rw [List.map_append]; exact hown'
                have hpk := ((own_below Hp.out hb2).alloc (.cells #[.complex .f32 a b] 56))
                have hp2 := hpk.kept hgrow3 (.inr (by simp [Value.ownBlock, Act.eval]; omega))
                have hgp : gp < w2.heap.size := by have := ((own_below Hp.out hb2).lt gp rfl).2; exact this
                have hne2 : g' ≠ gp := by
                  rcases hblk3 with h | h
                  · simp [Value.ownBlock, Act.eval] at h; omega
                  · simp [Value.ownBlock] at h; omega
                exact ⟨⟨k + 1, zs ++ [(a, b)], g', c', by omega, by omega, by go_num, rfl, hne2, hk1, ho2, hp2, ((Hb.out.trans (hb2.mono hbs)).alloc (by have := hb2.size; omega) _).grown hgrow3 (by have := hb2.size; simp; omega) (fun q hq => (Ho.out.lt q hq).1)⟩, by simp only [intOf]; omega⟩
      · have hkl : k = bs.length := by omega
        have hz : readL s = some zs := by rw [readL_all H0.out (by omega), hcl, ← hkl]; exact Hk.out
        have hzl := readK_len Hk.out
        rw [hz]
        subst hkl
        have Hzl := hid hzl; clear hzl
        go_wp2_with fail
        go_ret2
        exact ⟨g, cv, by rw [Hzl.out]; rfl, by rw [Hzl.out]; exact Ho.out, Hb.out⟩
end Go.Proofs.YtfmlebjaopfelaaDoor
