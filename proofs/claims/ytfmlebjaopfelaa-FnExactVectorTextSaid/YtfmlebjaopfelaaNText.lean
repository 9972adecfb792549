/-
  The text of a list of numbers: both sides make the same text. Conditions: a list holds at most 1048576 numbers; the bits of each are those of a float32.
-/
import Derived.Test.YtfmlebjaopfelaaHex
import Derived.Test.YtfmlebjaopfelaaList
import Derived.Test.YtfmlebjaopfelaaShelf
import Derived.Lib.Join
namespace Go.Proofs.Ytfmlebjaopfelaa.Fl
open Go Go.RowKit

theorem ownsRow_below {B : Nat} {e : TypeId} {k : Nat} {v : Value} {n : Nat} {xs : List Value} {w w' : World} (h : w.ownsRow B e k v n xs) (hb : Below w.heap.size w w') : w'.ownsRow B e k v n xs :=
  h.kept (row := none) ⟨hb.os, hb.tape, hb.output, hb.size, fun j hj _ => hb.block j hj⟩ (by cases hv : v.ownBlock <;> simp)

theorem ownsRow_cap {B : Nat} {e : TypeId} {k g c : Nat} {n : Nat} {xs : List Value} {w : World} (h : w.ownsRow B e k (.slice (some ⟨g, 0, none⟩) n c) n xs) : n ≤ c := by
  rcases h.2 with ⟨h', _⟩ | ⟨g', cap', cur, h', _, _, hc, _⟩
  · simp at h'
  · simp only [Value.slice.injEq] at h'
    omega

theorem ownsRow_strings {B : Nat} {e : TypeId} {g c n : Nat} {xs : List ByteArray} {w : World} (h : w.ownsRow B e 1 (.slice (some ⟨g, 0, none⟩) n c) n (xs.map Value.string)) (hn : n = xs.length) : ∀ (j : Nat) x, xs[j]? = some x → w.cell? ⟨g, j, none⟩ = some (.string x) := by
  intro j x hx
  have hj : j < xs.length := (List.getElem?_eq_some_iff.1 hx).1
  rw [h.cellAt j (by omega)]
  simp [hx]

/-- The texts of the first k numbers. -/
def numB (zs : List Nat) (k : Nat) : List ByteArray := (List.range k).map fun i => hexT (bitsV (val .f32 (zs.getD i 0)))
/-- Joined. -/
def joinB (xs : List ByteArray) : ByteArray := ⟨(Lib.join (xs.map (·.data.toList)) [44]).toArray⟩
/-- The text of a list of texts. -/
def listT (xs : List ByteArray) : ByteArray := if xs.length = 0 then ⟨#[110, 111, 110, 101]⟩ else joinB xs

theorem numB_len (zs : List Nat) (k : Nat) : (numB zs k).length = k := by simp [numB]
theorem numB_succ (zs : List Nat) (k : Nat) : numB zs (k + 1) = numB zs k ++ [hexT (bitsV (val .f32 (zs.getD k 0)))] := by simp [numB, List.range_succ]
theorem hexT_size (n : Int) : (hexT n).size = 8 := by unfold hexT ByteArray.size; simp [hexs]

/-- One more text behind the others. -/
theorem joinB_snoc (xs : List ByteArray) (y : ByteArray) (h : 0 < xs.length) : joinB (xs ++ [y]) = joinB xs ++ ((⟨#[44]⟩ : ByteArray) ++ y) := by
  cases xs with
  | nil => simp at h
  | cons x r =>
    obtain ⟨⟨l⟩⟩ := y
    unfold joinB
    simp only [List.cons_append, List.map_cons, List.map_append, List.map_nil]
    rw [Lib.join_cons, Lib.join_cons]
    apply ByteArray.ext
    apply Array.toList_inj.1
    simp [Lib.joinTail, ByteArray.data_append]

theorem joinB_one (y : ByteArray) : joinB [y] = y := by
  obtain ⟨⟨l⟩⟩ := y
  unfold joinB
  simp [Lib.join_one]

theorem joinB_size (zs : List Nat) (k : Nat) : (joinB (numB zs (k + 1))).size = 9 * k + 8 := by
  induction k with
  | zero => rw [numB_succ, show numB zs 0 = [] from rfl, List.nil_append, joinB_one, hexT_size]
  | succ k ih =>
    rw [numB_succ, joinB_snoc _ _ (by rw [numB_len]; omega), ByteArray.size_append, ByteArray.size_append, ih, hexT_size]
    show 9 * k + 8 + (1 + 8) = _
    omega
theorem joinB_le (zs : List Nat) (k : Nat) (h : k ≤ 1048576) : (joinB (numB zs k)).size ≤ 9437192 := by
  cases k with
  | zero => rw [show numB zs 0 = [] from rfl]; decide
  | succ k => rw [joinB_size]; omega
end Go.Proofs.Ytfmlebjaopfelaa.Fl
namespace Go.Proofs.Ytfmlebjaopfelaa
open Go.RowKit Go.Proofs.Ytfmlebjaopfelaa.Fl

theorem infoS : (Try.prog.info? 9).map (fun i => (i.zero, i.size, i.bytes)) = some (some (.string ByteArray.empty), 1, 16) := by kernel_rfl

/-- A text, and a world with new blocks alone. -/
def RetS (t : ByteArray) (w : World) (e : Ending) (w' : World) : Prop := e = .returned (.string t) ∧ Below w.heap.size w w'
def RetSB (t : ByteArray) (b : Bool) (w : World) (e : Ending) (w' : World) : Prop := e = .returned (.tuple #[.string t, .bool b]) ∧ Below w.heap.size w w'

theorem joined_any (g c : Nat) (xs : List ByteArray) (n : Nat) (w : World) (hn : n = xs.length) (hcells : ∀ (j : Nat) x, xs[j]? = some x → w.cell? ⟨g, j, none⟩ = some (.string x)) (hg : g < w.heap.size) (hcap : xs.length ≤ c) (hN : xs.length ≤ 1048576)
    (hlen : (joinB xs).size ≤ 140737488355328) : Calls Try.prog 27 #[.slice (some ⟨g, 0, none⟩) n c] w (RetS (listT xs) w) := by
  subst hn
  have Hc := hid hcells; clear hcells
  have hlen' : (Lib.join (xs.map (·.data.toList)) [44]).length ≤ 140737488355328 := by
    have e : (joinB xs).size = (Lib.join (xs.map (·.data.toList)) [44]).length := by simp [joinB, ByteArray.size]
    omega
  have Hl := hid hlen'; clear hlen' hlen
  by_cases h0 : xs.length = 0
  · have ht : listT xs = ⟨#[110, 111, 110, 101]⟩ := if_pos h0
    have Ht := hid ht; clear ht
    rw [h0]
    go_enter Try.func27, Try.ntmps27
    go_wp2_with fail
    go_ret
    exact ⟨by rw [Ht.out]; rfl, Below.refl _ _⟩
  · have ht : listT xs = joinB xs := if_neg h0
    have Ht := hid ht; clear ht
    have h0' : ¬ ((xs.length : Int) = 0) := by omega
    go_enter Try.func27, Try.ntmps27
    go_wp2_with (go_at_call 31; refine (Try.strings_Join g 0 c xs ⟨#[44]⟩ _ (by simpa using Hc.out) hg (by omega) hcap Hl.out).mono ?_; rintro e w' ⟨rfl, hb⟩)
    all_goals (go_ret; exact ⟨by rw [Ht.out]; rfl, hb⟩)

/-- What NumbersText tells. -/
def nTold (zs : List Nat) (len : Nat) : ByteArray := if (len : Int) ≤ 256 then listT (numB zs len) else ⟨#[]⟩

set_option maxHeartbeats 4000000 in
theorem implNumbersText_any (p len cap : Nat) (zs : List Nat) (w : World) (hrow : NewF w p len zs) (hz : ∀ i, zs.getD i 0 < 4294967296) (hlen : len ≤ 1048576) :
    Calls Try.prog 16 #[.slice (some ⟨p, 0, none⟩) len cap] w (RetSB (nTold zs len) (decide ((len : Int) ≤ 256)) w) := by
  have Hrow := hid hrow; clear hrow
  have Hz := hid hz; clear hz
  by_cases h : (len : Int) ≤ 256
  · have hs : nTold zs len = listT (numB zs len) := if_pos h
    have Hs := hid hs; clear hs
    have Hd := hid (decide_eq_true h)
    obtain ⟨i0, hi, hz0, hz1, hz2⟩ := info_parts infoS
    go_enter Try.func16, Try.ntmps16
    go_wp2_with (go_at_call 25; refine (listOk_any _ _ _ _).mono ?_; rintro e w' ⟨rfl, n, rfl⟩)
    go_loopw [4, 13] (fun v i wr => ∃ k : Nat, k ≤ len ∧ i = .int .i64 k ∧ ∃ g cv, v = .slice (some ⟨g, 0, none⟩) k cv ∧ Hid (wr.ownsRow w.heap.size 9 1 v k ((numB zs k).map Value.string)) ∧ Hid (Below w.heap.size w wr)) (fun _ i _ => len - (intOf i).toNat)
    case atStart => exact ⟨0, Nat.zero_le _, rfl, _, _, rfl, World.ownsRow_lit _ _ 0 (Nat.le_refl _) (by unfold maxLen; omega) rfl, below_drewN ((Below.refl _ _).alloc (Nat.le_refl _) _) _⟩
    case round =>
      obtain ⟨k, hk, rfl, g, cv, rfl, Ho, Hb⟩ := hrel
      by_cases hlt : k < len
      · have hc := (Hrow.out.below Hb.out) k hlt
        have hbs := Hb.out.size
        go_wp2_with (first
          | (go_at_call 26; refine (hexText_any _ _ (Hz.out k)).mono ?_; rintro e w2 ⟨rfl, hb2⟩)
          | (at_builtin; refine wpList_append_own _ rfl _ _ 43 rfl w.heap.size 9 i0 (.string ByteArray.empty) 1 16 Try.underlying43 hi hz0 hz1 hz2 rfl (by decide) _ _ _ rfl ((ownsRow_below Ho.out hb2).alloc _) ⟨w2.heap.size, 0, none⟩ 1 1 [_] rfl rfl (cell_one_new _ _ _) (fun x hx => by simp at hx; subst hx; rfl) (by unfold maxLen; omega) (by omega) (by have := hb2.size; simp; omega) ?_; intro v' w3 hown' hgrow3 hnil3))
        obtain ⟨g', c', rfl⟩ := Go.Joins.ownsRow_form hown' (by omega)
        have ho2 : w3.ownsRow w.heap.size 9 1 (.slice (some ⟨g', 0, none⟩) (k + 1) c') (k + 1) ((numB zs (k + 1)).map Value.string) := by rw [numB_succ, List.map_append]; exact hown'
        exact ⟨⟨k + 1, by omega, by go_num, g', c', rfl, ho2, ((Hb.out.trans (hb2.mono hbs)).alloc (by have := hb2.size; omega) _).grown hgrow3 (by have := hb2.size; simp; omega) (fun q hq => (Ho.out.lt q hq).1)⟩, by simp [intOf]; omega⟩
      · have hkl : k = len := by omega
        subst hkl
        have hjl := joinB_le zs k hlen
        have HJ : Hid (∀ W : World, W = wr → Calls Try.prog 27 #[.slice (some ⟨g, 0, none⟩) k cv] W (RetS (listT (numB zs k)) W)) := by
          rintro W rfl
          exact joined_any g cv (numB zs k) k _ (numB_len zs k).symm (ownsRow_strings Ho.out (numB_len zs k).symm) (Ho.out.lt g rfl).2 (by rw [numB_len]; exact ownsRow_cap Ho.out) (by rw [numB_len]; exact hlen) (by omega)
        clear hjl
        go_wp2_with (go_at_call 27; refine (HJ.out _ rfl).mono ?_; rintro e w2 ⟨rfl, hb2⟩)
        go_ret2
        exact ⟨by rw [Hs.out, Hd.out]; rfl, Hb.out.trans (hb2.mono Hb.out.size)⟩
  · have hs : nTold zs len = ⟨#[]⟩ := if_neg h
    have Hs := hid hs; clear hs
    have hd : decide ((len : Int) ≤ 256) = false := decide_eq_false h
    clear h
    go_enter Try.func16, Try.ntmps16
    go_wp2_with (go_at_call 25; refine (listOk_any _ _ _ _).mono ?_; rintro e w' ⟨rfl, n, rfl⟩)
    go_ret2
    exact ⟨by rw [hd, Hs.out]; rfl, below_draws _ _⟩

set_option maxHeartbeats 4000000 in
theorem l01NText_any (p len cap : Nat) (zs : List Nat) (w : World) (hrow : NewF w p len zs) (hz : ∀ i, zs.getD i 0 < 4294967296) (hlen : len ≤ 1048576) :
    Calls Try.prog 24 #[.slice (some ⟨p, 0, none⟩) len cap] w (RetS (listT (numB zs len)) w) := by
  have Hrow := hid hrow; clear hrow
  have Hz := hid hz; clear hz
  by_cases h0 : len = 0
  · have ht : listT (numB zs len) = ⟨#[110, 111, 110, 101]⟩ := if_pos (by rw [numB_len]; exact h0)
    have Ht := hid ht; clear ht
    subst h0
    go_enter Try.func24, Try.ntmps24
    go_wp2_with fail
    go_ret
    exact ⟨by rw [Ht.out]; rfl, Below.refl _ _⟩
  · have ht : listT (numB zs len) = joinB (numB zs len) := if_neg (by rw [numB_len]; exact h0)
    have Ht := hid ht; clear ht
    have h0' : ¬ ((len : Int) = 0) := by omega
    have hc0 := Hrow.out 0 (by omega)
    go_enter Try.func24, Try.ntmps24
    go_wp2_with (go_at_call 29; refine (l01Hex_any _ _ (Hz.out 0)).mono ?_; rintro e w1 ⟨rfl, hb1⟩)
    go_loopw [3, 4] (fun v i wr => ∃ k : Nat, 0 < k ∧ k ≤ len ∧ i = .int .i64 k ∧ v = .string (joinB (numB zs k)) ∧ Hid (Below w.heap.size w wr)) (fun _ i _ => len - (intOf i).toNat)
    case atStart => exact ⟨1, by omega, by omega, rfl, by rw [show numB zs 1 = [hexT (bitsV (val .f32 (zs.getD 0 0)))] from rfl, joinB_one]; rfl, hb1⟩
    case round =>
      obtain ⟨k, hk0, hk, rfl, rfl, Hb⟩ := hrel
      by_cases hlt : k < len
      · have hc := (Hrow.out.below Hb.out) k hlt
        have hbs := Hb.out.size
        have hs1 := joinB_le zs k (by omega)
        have hs2 := hexT_size (bitsV (val .f32 (zs.getD k 0)))
        have hj := hid (joinB_snoc (numB zs k) (hexT (bitsV (val .f32 (zs.getD k 0)))) (by rw [numB_len]; exact hk0))
        have hsn := hid (numB_succ zs k)
        have hzk := Hz.out k
        generalize zs.getD k 0 = z at *
        go_wp2_with (go_at_call 29; refine (l01Hex_any _ _ hzk).mono ?_; rintro e w2 ⟨rfl, hb2⟩)
        all_goals first
          | (exfalso; omega)
          | exact ⟨⟨k + 1, by omega, by omega, by go_num, by rw [hsn.out, hj.out], Hb.out.trans (hb2.mono hbs)⟩, by simp [intOf]; omega⟩
      · have hkl : k = len := by omega
        subst hkl
        go_wp2_with fail
        go_ret
        exact ⟨by rw [Ht.out]; rfl, Hb.out⟩

theorem specNumbersText_any (p len cap : Nat) (zs : List Nat) (w : World) (hrow : NewF w p len zs) (hz : ∀ i, zs.getD i 0 < 4294967296) (hlen : len ≤ 1048576) :
    Calls Try.prog 14 #[.slice (some ⟨p, 0, none⟩) len cap] w (RetSB (nTold zs len) (decide ((len : Int) ≤ 256)) w) := by
  have Hrow := hid hrow; clear hrow
  by_cases h : (len : Int) ≤ 256
  · have hs : nTold zs len = listT (numB zs len) := if_pos h
    have Hs := hid hs; clear hs
    have Hd := hid (decide_eq_true h)
    go_enter Try.func14, Try.ntmps14
    go_wp2_with (first | (go_at_call 23; refine (l01Few_any _ _ _ _).mono ?_; rintro e w' ⟨rfl, n, rfl⟩) | (go_at_call 24; refine (l01NText_any _ _ _ _ _ (Hrow.out.drewN _) hz hlen).mono ?_; rintro e w' ⟨rfl, hb⟩))
    go_ret2
    exact ⟨by rw [Hs.out, Hd.out]; rfl, (below_draws _ _).trans hb⟩
  · have hs : nTold zs len = ⟨#[]⟩ := if_neg h
    have Hs := hid hs; clear hs
    have hd : decide ((len : Int) ≤ 256) = false := decide_eq_false h
    clear h
    go_enter Try.func14, Try.ntmps14
    go_wp2_with (first | (go_at_call 23; refine (l01Few_any _ _ _ _).mono ?_; rintro e w' ⟨rfl, n, rfl⟩))
    go_ret2
    exact ⟨by rw [hd, Hs.out]; rfl, below_draws _ _⟩

set_option maxHeartbeats 1000000 in
theorem FnExactNumbersText_walk (a : Option Addr) (len cap : Nat) (zs : List Nat) (w : World) (hrow : RowF w a len zs) : Calls Try.prog 6 #[.slice a len cap] w (Yes w) := by
  have Hrow := hid hrow; clear hrow
  by_cases hlt : (1048576 : Int) < (len : Int)
  · go_enter Try.func6, Try.ntmps6
    go_wp2_with fail
    go_ret
    exact ⟨rfl, Below.refl _ _⟩
  · have hlen : len ≤ 1048576 := by omega
    go_enter Try.func6, Try.ntmps6
    go_wp2_with fail
    refine (toFloat32S_any _ _ _ zs _ Hrow.out hlen).mono ?_
    rintro e w1 ⟨p1, rfl, hn1, hp1, hb1⟩
    have Hn1 := hid hn1; clear hn1
    go_wp2_with fail
    refine (specNumbersText_any _ _ _ zs _ Hn1.out Hrow.out.1 hlen).mono ?_
    rintro e w2 ⟨rfl, hb2⟩
    have hb3 := hb1.trans (hb2.mono hb1.size)
    clear hb1 hb2
    go_wp2_with fail
    refine (toFloat32S_any _ _ _ zs _ (Hrow.out.below hb3) hlen).mono ?_
    rintro e w3 ⟨p2, rfl, hn2, hp2, hb4⟩
    have Hn2 := hid hn2; clear hn2
    have hb5 := hb3.trans (hb4.mono hb3.size)
    clear hb3 hb4
    go_wp2_with fail
    refine (implNumbersText_any _ _ _ zs _ Hn2.out Hrow.out.1 hlen).mono ?_
    rintro e w4 ⟨rfl, hb6⟩
    have hb7 := hb5.trans (hb6.mono hb5.size)
    have Hn3 := hid (Hn2.out.below hb6)
    clear hb5 hb6
    go_wp2_with fail
    refine (toFloat32S_any _ _ _ zs _ (Hrow.out.below hb7) hlen).mono ?_
    rintro e w5 ⟨p3, rfl, hn4, hp3, hb8⟩
    have Hn4 := hid hn4; clear hn4
    have hb9 := hb7.trans (hb8.mono hb7.size)
    have Hn5 := hid (Hn3.out.below hb8)
    clear hb7 hb8
    go_wp2_with fail
    refine (eqFloat32S_any _ _ _ zs _ Hn5.out Hn4.out hlen).mono ?_
    rintro e w' ⟨rfl, m3, rfl⟩
    go_wp2_with fail
    all_goals (go_ret; exact ⟨rfl, below_drewN hb9 _⟩)
end Go.Proofs.Ytfmlebjaopfelaa
