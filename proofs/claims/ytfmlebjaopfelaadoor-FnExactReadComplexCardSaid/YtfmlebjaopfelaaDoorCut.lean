/-
  Texts cut at commas: the library's pieces and the reference's own are the same. Conditions: a text has at most 1048576 letters; the library's variable MaxLen holds some number.
-/
import Derived.Test.YtfmlebjaopfelaaDoorRows
import Derived.Test.YtfmlebjaopfelaaDoorFl
import Derived.Test.YtfmlebjaopfelaaDoorShelf
import Derived.WalkSpells
import Derived.Below
import Derived.Lib.SplitLaws
import Derived.Lib.IndexBytes
import Derived.Lib.SmallJoins
import Derived.Maps.AppendAt
namespace Go.Proofs.YtfmlebjaopfelaaDoor.Fl
open Go Go.RowKit

/-- The pieces between commas. -/
def cutL : List UInt8 → List (List UInt8)
  | [] => [[]]
  | c :: l => if c = 44 then [] :: cutL l else match cutL l with
    | [] => [[c]]
    | p :: ps => (c :: p) :: ps

theorem cutL_ne (l : List UInt8) : cutL l ≠ [] := by
  cases l with
  | nil => simp [cutL]
  | cons c l => unfold cutL; split; simp; split <;> simp

theorem split_cut : ∀ l : List UInt8, Lib.split l [44] = cutL l
  | [] => by
    unfold Lib.split
    rw [Lib.count_one]
    rfl
  | b :: l => by
    have ih := split_cut l
    unfold Lib.split at ih ⊢
    by_cases h : b = 44
    · subst h
      have hix : Lib.index (44 :: l) [44] = 0 := by rw [Lib.index]; simp [List.isPrefixOf]
      rw [Lib.count_cons_eq, Nat.add_comm, Lib.splitK, hix, if_neg (by decide)]
      unfold cutL
      rw [if_pos rfl]
      simpa using ih
    · have hp : ([44] : List UInt8).isPrefixOf (b :: l) = false := by simp [List.isPrefixOf, Ne.symm h]
      have hix : Lib.index (b :: l) [44] = if Lib.index l [44] == -1 then -1 else Lib.index l [44] + 1 := by rw [Lib.index, hp]; simp
      rw [Lib.count_cons_ne b 44 l h]
      unfold cutL
      rw [if_neg h, ← ih]
      by_cases hm : Lib.index l [44] = -1
      · rw [Lib.count_miss hm]
        rfl
      · have hge := Lib.index_ge l [44]
        obtain ⟨j, hj⟩ : ∃ j : Nat, Lib.index l [44] = j := ⟨(Lib.index l [44]).toNat, by omega⟩
        rw [hj, if_neg (by simp)] at hix
        rw [Lib.count_hit (by simp) hj, Nat.add_comm 1, Lib.splitK, Lib.splitK, hix, hj, if_neg (by simp; omega), if_neg (by simp)]
        have e1 : ((j : Int) + 1).toNat = j + 1 := by omega
        simp [e1]

theorem cutL_none : ∀ l : List UInt8, (∀ c ∈ l, c ≠ 44) → cutL l = [l]
  | [], _ => rfl
  | c :: l, h => by
    unfold cutL
    rw [if_neg (h c (by simp)), cutL_none l (fun x hx => h x (by simp [hx]))]

theorem cutL_app : ∀ (p r : List UInt8), (∀ c ∈ p, c ≠ 44) → cutL (p ++ 44 :: r) = p :: cutL r
  | [], r, _ => by
    rw [List.nil_append, cutL, if_pos rfl]
  | c :: p, r, h => by
    rw [List.cons_append, cutL, if_neg (h c (by simp)), cutL_app p r (fun x hx => h x (by simp [hx]))]

theorem cutL_len (l : List UInt8) : (cutL l).length ≤ l.length + 1 := by
  induction l with
  | nil => simp [cutL]
  | cons c l ih =>
    unfold cutL
    split
    · simp only [List.length_cons]; omega
    · split
      · simp
      · rename_i h; rw [h] at ih; simp only [List.length_cons] at ih ⊢; omega

/-- One more piece ends at a comma. -/
theorem cut_step {l : List UInt8} {f k : Nat} (hk : k < l.length) (hf : f ≤ k) (h44 : l[k] = 44) (hno : ∀ c ∈ (l.drop f).take (k - f), c ≠ 44) : cutL (l.drop f) = (l.drop f).take (k - f) :: cutL (l.drop (k + 1)) := by
  have e : l.drop f = (l.drop f).take (k - f) ++ 44 :: l.drop (k + 1) := by
    conv => lhs; rw [← List.take_append_drop (k - f) (l.drop f)]
    congr 1
    rw [List.drop_drop, show f + (k - f) = k by omega, List.drop_eq_getElem_cons hk, h44]
  conv => lhs; rw [e]
  rw [cutL_app _ _ hno]
theorem no_step {l : List UInt8} {f k : Nat} (hk : k < l.length) (hf : f ≤ k) (h44 : l[k] ≠ 44) (hno : ∀ c ∈ (l.drop f).take (k - f), c ≠ 44) : ∀ c ∈ (l.drop f).take (k + 1 - f), c ≠ 44 := by
  have e : (l.drop f).take (k + 1 - f) = (l.drop f).take (k - f) ++ [l[k]] := by
    rw [show k + 1 - f = (k - f) + 1 by omega, List.take_succ_eq_append_getElem (by rw [List.length_drop]; omega)]
    congr 2
    rw [List.getElem_drop]
    congr 1
    omega
  rw [e]
  intro c hc
  rcases List.mem_append.1 hc with h | h
  · exact hno c h
  · simp only [List.mem_singleton] at h
    rw [h]; exact h44
end Go.Proofs.YtfmlebjaopfelaaDoor.Fl
namespace Go.Proofs.YtfmlebjaopfelaaDoor
open Go.RowKit Go.Proofs.YtfmlebjaopfelaaDoor.Fl

theorem infoS2 : (Tryd.prog.info? 9).map (fun i => (i.zero, i.size, i.bytes)) = some (some (.string ByteArray.empty), 1, 16) := by kernel_rfl

/-- The pieces, in a slice of the call's own. -/
def Pieces (l : List UInt8) (w : World) (e : Ending) (w' : World) : Prop :=
  ∃ (bs : List ByteArray) (g cv : Nat), bs.map (·.data.toList) = cutL l ∧ e = .returned (.slice (some ⟨g, 0, none⟩) bs.length cv) ∧ w'.ownsRow w.heap.size 9 1 (.slice (some ⟨g, 0, none⟩) bs.length cv) bs.length (bs.map Value.string) ∧ Below w.heap.size w w'

theorem toList_len (s : ByteArray) : s.data.toList.length = s.size := by simp
theorem toList_get (s : ByteArray) (k : Nat) (h : k < s.size) : s.data.toList[k]'(by simpa using h) = s[k] := rfl

set_option maxRecDepth 100000 in
set_option maxHeartbeats 4000000 in
theorem l01Cut_any (s : ByteArray) (w : World) (hs : s.size ≤ 1048576) : Calls Tryd.prog 51 #[.string s, .int .u8 44] w (Pieces s.data.toList w) := by
  obtain ⟨i0, hi, hz0, hz1, hz2⟩ := info_parts infoS2
  have hlen := toList_len s
  go_enter Tryd.func51, Tryd.ntmps51
  go_wp2_with fail
  go_loopw [5, 6, 7] (fun v fv iv wr => ∃ (k f : Nat) (bs : List ByteArray) (g cv : Nat), k ≤ s.size + 1 ∧ f ≤ k ∧ iv = .int .i64 k ∧ fv = .int .i64 f ∧ v = .slice (some ⟨g, 0, none⟩) bs.length cv ∧ bs.length ≤ k ∧ Hid (cutL s.data.toList = bs.map (·.data.toList) ++ (if k ≤ s.size then cutL (s.data.toList.drop f) else [])) ∧ Hid (∀ c ∈ (s.data.toList.drop f).take (k - f), c ≠ 44) ∧ Hid (wr.ownsRow w.heap.size 9 1 v bs.length (bs.map Value.string)) ∧ Hid (Below w.heap.size w wr)) (fun _ _ i _ => s.size + 1 - (intOf i).toNat)
  case atStart => exact ⟨0, 0, [], _, _, Nat.zero_le _, Nat.le_refl _, rfl, rfl, rfl, Nat.le_refl _, by simp [Hid], by simp [Hid], World.ownsRow_lit _ _ 0 (Nat.le_refl _) (by unfold maxLen; omega) rfl, (Below.refl _ _).alloc (Nat.le_refl _) _⟩
  case round =>
    obtain ⟨k, f, bs, g, cv, hk, hf, rfl, rfl, rfl, hbl, Hc, Hn, Ho, Hb⟩ := hrel
    have hbs := Hb.out.size
    by_cases hlt : k < s.size
    · by_cases h44 : s[k] = 44
      · have hp : (s.extract f k).data.toList = (s.data.toList.drop f).take (k - f) := Lib.extract_data s f k
        have hcs := cut_step (l := s.data.toList) (by omega) hf (by rw [toList_get s k hlt]; exact h44) Hn.out
        have hc1 : Hid (cutL s.data.toList = (bs ++ [s.extract f k]).map (·.data.toList) ++ (if k + 1 ≤ s.size then cutL (s.data.toList.drop (k + 1)) else [])) := by
          show _ = _
          rw [Hc.out, if_pos (by omega), if_pos (by omega), hcs, List.map_append, List.map_singleton, hp, List.append_assoc]
          rfl
        have h45 : (s[k].toNat : Int) = 44 := by rw [h44]; rfl
        have hkne : ((k : Int) == (s.size : Int)) = false := by simp; omega
        clear h44 Hc Hn hp hcs
        go_wp2_with (at_builtin; refine wpList_append_own _ rfl _ _ 52 rfl w.heap.size 9 i0 (.string ByteArray.empty) 1 16 Tryd.underlying52 hi hz0 hz1 hz2 rfl (by decide) _ _ _ rfl (Ho.out.alloc _) ⟨wr.heap.size, 0, none⟩ 1 1 [_] rfl rfl (cell_one_new _ _ _) (fun x hx => by simp at hx; subst hx; rfl) (by unfold maxLen; omega) (by omega) (by simp; omega) ?_; intro v' w3 hown' hgrow3 hnil3)
        obtain ⟨g', c', rfl⟩ := Go.Joins.ownsRow_form hown' (by omega)
        have hl : (bs ++ [s.extract f k]).length = bs.length + 1 := by simp
        have ho2 : w3.ownsRow w.heap.size 9 1 (.slice (some ⟨g', 0, none⟩) (bs.length + 1) c') (bs ++ [s.extract f k]).length ((bs ++ [s.extract f k]).map Value.string) := by rw [hl, List.map_append]; exact hown'
        exact ⟨⟨k + 1, k + 1, bs ++ [s.extract f k], g', c', by omega, by omega, by go_num, by go_num, by rw [hl], by rw [hl]; omega, hc1, by simp [Hid], ho2, (Hb.out.alloc hbs _).grown hgrow3 (by simp; omega) (fun q hq => (Ho.out.lt q hq).1)⟩, by simp only [intOf]; omega⟩
      · have hno : Hid (∀ c ∈ (s.data.toList.drop f).take (k + 1 - f), c ≠ 44) := no_step (by omega) hf (by rw [toList_get s k hlt]; exact h44) Hn.out
        have hc1 : Hid (cutL s.data.toList = bs.map (·.data.toList) ++ (if k + 1 ≤ s.size then cutL (s.data.toList.drop f) else [])) := by
          show _ = _
          rw [Hc.out, if_pos (by omega), if_pos (by omega)]
        have h45 : ¬ (s[k].toNat : Int) = 44 := fun h => h44 (UInt8.toNat_inj.1 (by show s[k].toNat = 44; omega))
        clear h44 Hc Hn
        have hkne : ((k : Int) == (s.size : Int)) = false := by simp; omega
        go_wp2_with fail
        exact ⟨⟨k + 1, f, bs, g, cv, by omega, by omega, by go_num, rfl, rfl, by omega, hc1, hno, Ho, Hb⟩, by simp only [intOf]; omega⟩
    · by_cases hle : k = s.size
      · subst hle
        have hp : (s.extract f s.size).data.toList = s.data.toList.drop f := Lib.extract_to_end s f
        have hcs := cutL_none (s.data.toList.drop f) (by have := Hn.out; rwa [List.take_of_length_le (by rw [List.length_drop]; omega)] at this)
        have hc1 : Hid (cutL s.data.toList = (bs ++ [s.extract f s.size]).map (·.data.toList) ++ (if s.size + 1 ≤ s.size then cutL (s.data.toList.drop (s.size + 1)) else [])) := by
          show _ = _
          rw [Hc.out, if_pos (Nat.le_refl _), if_neg (by omega), hcs, List.map_append, List.map_singleton, hp, List.append_nil]
        clear Hc Hn hp hcs
        go_wp2_with (at_builtin; refine wpList_append_own _ rfl _ _ 52 rfl w.heap.size 9 i0 (.string ByteArray.empty) 1 16 Tryd.underlying52 hi hz0 hz1 hz2 rfl (by decide) _ _ _ rfl (Ho.out.alloc _) ⟨wr.heap.size, 0, none⟩ 1 1 [_] rfl rfl (cell_one_new _ _ _) (fun x hx => by simp at hx; subst hx; rfl) (by unfold maxLen; omega) (by omega) (by simp; omega) ?_; intro v' w3 hown' hgrow3 hnil3)
        obtain ⟨g', c', rfl⟩ := Go.Joins.ownsRow_form hown' (by omega)
        have hl : (bs ++ [s.extract f s.size]).length = bs.length + 1 := by simp
        have ho2 : w3.ownsRow w.heap.size 9 1 (.slice (some ⟨g', 0, none⟩) (bs.length + 1) c') (bs ++ [s.extract f s.size]).length ((bs ++ [s.extract f s.size]).map Value.string) := by rw [hl, List.map_append]; exact hown'
        exact ⟨⟨s.size + 1, s.size + 1, bs ++ [s.extract f s.size], g', c', by omega, by omega, by go_num, by go_num, by rw [hl], by rw [hl]; omega, hc1, by simp [Hid], ho2, (Hb.out.alloc hbs _).grown hgrow3 (by simp; omega) (fun q hq => (Ho.out.lt q hq).1)⟩, by simp only [intOf]; omega⟩
      · have hk1 : k = s.size + 1 := by omega
        subst hk1
        have hc2 : bs.map (·.data.toList) = cutL s.data.toList := by rw [Hc.out, if_neg (by omega), List.append_nil]
        clear Hc Hn hle
        go_wp2_with fail
        go_ret
        exact ⟨bs, g, cv, hc2, rfl, Ho.out, Hb.out⟩

/-- The library's variable MaxLen holds some number. -/
def MaxL (w : World) : Prop := ∃ m, w.cell? ⟨4, 0, none⟩ = some (.int .i64 m)
theorem MaxL.below {w w' : World} (h : MaxL w) (hb : Below w.heap.size w w') : MaxL w' := by
  obtain ⟨m, hm⟩ := h
  exact ⟨m, (hb.cell (World.block_lt_of_cell? w _ hm)).trans hm⟩

/-- What parted returns: nothing of 'none'. -/
def noneB : ByteArray := ⟨#[110, 111, 110, 101]⟩
def PiecesI (s : ByteArray) (w : World) (e : Ending) (w' : World) : Prop :=
  if s = noneB then e = .returned (.slice none 0 0) ∧ w' = w else Pieces s.data.toList w e w'

theorem split_any (s : ByteArray) (w : World) (hs : s.size ≤ 1048576) (hm : MaxL w) : Calls Tryd.prog 53 #[.string s, .string ⟨#[44]⟩] w (Pieces s.data.toList w) := by
  obtain ⟨m, hm⟩ := hm
  refine (Tryd.strings_Split s ⟨#[44]⟩ m w (by omega) hm (by decide)).mono ?_
  rintro e w' ⟨rfl, rfl⟩
  have hl : (Lib.splitB ⟨#[44]⟩ 0 (Lib.countB s ⟨#[44]⟩) s).length = Lib.countB s ⟨#[44]⟩ + 1 := Lib.splitB_all ⟨#[44]⟩ (by decide) 0 _ s rfl
  have hd : (Lib.splitB ⟨#[44]⟩ 0 (Lib.countB s ⟨#[44]⟩) s).map (·.data.toList) = cutL s.data.toList := by
    rw [Lib.splitB_data, ← split_cut]
    rfl
  have hc := Lib.countB_le ⟨#[44]⟩ (by decide) s.size s (Nat.le_refl _)
  refine ⟨Lib.splitB ⟨#[44]⟩ 0 (Lib.countB s ⟨#[44]⟩) s, w.heap.size, Lib.countB s ⟨#[44]⟩ + 1, hd, by rw [hl], ?_, (Below.refl _ _).alloc (Nat.le_refl _) _⟩
  rw [hl]
  have ho := World.ownsRow_lit (base := w.heap.size) (e := 9) (size := 1) w ((Lib.splitB ⟨#[44]⟩ 0 (Lib.countB s ⟨#[44]⟩) s).map Value.string).toArray (Lib.countB s ⟨#[44]⟩ + 1) (Nat.le_refl _) (by unfold maxLen; omega) (by simp [hl])
  simpa using ho

theorem parted_any (s : ByteArray) (w : World) (hs : s.size ≤ 1048576) (hm : MaxL w) : Calls Tryd.prog 36 #[.string s] w (PiecesI s w) := by
  have Hm := hid hm; clear hm
  by_cases h : s = noneB
  · subst h
    go_enter Tryd.func36, Tryd.ntmps36
    unfold noneB
    go_wp2_with fail
    go_ret
    unfold PiecesI
    rw [if_pos (show (⟨#[110, 111, 110, 101]⟩ : ByteArray) = noneB from rfl)]
    exact ⟨rfl, rfl⟩
  · have hq : (s.toList == [110, 111, 110, 101]) = false := by
      rw [Lib.toList_data]
      simp only [beq_eq_false_iff_ne, ne_eq]
      intro e
      apply h
      obtain ⟨⟨l⟩⟩ := s
      simp only at e
      subst e
      rfl
    have hp : PiecesI s w = Pieces s.data.toList w := by
      funext e w'
      unfold PiecesI
      rw [if_neg h]
    rw [hp]
    go_enter Tryd.func36, Tryd.ntmps36
    go_wp2_with (go_at_call 53; refine (split_any s _ hs Hm.out).mono ?_; rintro e w' ⟨bs, g, cv, h1, rfl, h3, h4⟩)
    all_goals (go_ret; exact ⟨bs, g, cv, h1, rfl, h3, h4⟩)
end Go.Proofs.YtfmlebjaopfelaaDoor
