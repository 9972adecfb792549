/-
  The text of a list of integers: both sides make the same text. Conditions: a list holds at most 1048576 numbers; the library's table of the powers of ten holds what its initialiser lays.
-/
import Derived.Test.YtfmlebjaopfelaaDoorIList
import Derived.Test.YtfmlebjaopfelaaDoorJoin
import Derived.Test.YtfmlebjaopfelaaDoorDec
namespace Go.Proofs.YtfmlebjaopfelaaDoor.Fl
open Go Go.RowKit

/-- Whether a number is not too great. -/
def inM (n : Int) : Bool := decide (-1000000000000000 ≤ n ∧ n ≤ 1000000000000000)
def allM (zs : List Int) (k : Nat) : Bool := (List.range k).all fun i => inM (zs.getD i 0)
/-- Whether a list has few numbers that are not too great. -/
def okI (zs : List Int) (len : Nat) : Bool := allM zs len && decide ((len : Int) ≤ 64)
def decT (n : Int) : ByteArray := ⟨(Lib.itoa n).toArray⟩
def decB (zs : List Int) (k : Nat) : List ByteArray := (List.range k).map fun i => decT (zs.getD i 0)
def iTold (zs : List Int) (len : Nat) : ByteArray := if okI zs len = true then listT (decB zs len) else ⟨#[]⟩

theorem inM_bd {n : Int} (h : inM n = true) : -9223372036854775808 ≤ n ∧ n ≤ 9223372036854775807 := by
  have := of_decide_eq_true h
  omega
theorem allM_succ (zs : List Int) (k : Nat) : allM zs (k + 1) = (allM zs k && inM (zs.getD k 0)) := by
  simp [allM, List.range_succ]
theorem allM_lt {zs : List Int} {k n : Nat} (h : allM zs n = true) (hk : k < n) : inM (zs.getD k 0) = true := by
  unfold allM at h
  rw [List.all_eq_true] at h
  exact h k (List.mem_range.2 hk)
theorem allM_not {zs : List Int} {k n : Nat} (hk : k < n) (h : inM (zs.getD k 0) = false) : allM zs n = false := by
  cases e : allM zs n with
  | false => rfl
  | true => rw [allM_lt e hk] at h; cases h

theorem decB_len (zs : List Int) (k : Nat) : (decB zs k).length = k := by simp [decB]
theorem decB_succ (zs : List Int) (k : Nat) : decB zs (k + 1) = decB zs k ++ [decT (zs.getD k 0)] := by simp [decB, List.range_succ]
theorem decT_size {n : Int} (h : inM n = true) : (decT n).size ≤ 21 := by
  have := Lib.itoa_length_le n (inM_bd h).1 (inM_bd h).2
  unfold decT ByteArray.size
  simpa using this
theorem joinB_dec (zs : List Int) (k : Nat) (h : allM zs k = true) : (joinB (decB zs k)).size ≤ 22 * k := by
  induction k with
  | zero => rw [show decB zs 0 = [] from rfl]; decide
  | succ k ih =>
    rw [allM_succ, Bool.and_eq_true] at h
    have := decT_size h.2
    have := ih h.1
    rw [decB_succ]
    by_cases hk : k = 0
    · subst hk
      rw [show decB zs 0 = [] from rfl, List.nil_append, joinB_one]
      omega
    · rw [joinB_snoc _ _ (by rw [decB_len]; omega), ByteArray.size_append, ByteArray.size_append]
      show _ + (1 + _) ≤ _
      omega
end Go.Proofs.YtfmlebjaopfelaaDoor.Fl
namespace Go.Proofs.YtfmlebjaopfelaaDoor
open Go.RowKit Go.Proofs.YtfmlebjaopfelaaDoor.Fl

theorem l00InM_any (n : Int) (w : World) : Calls Tryd.prog 57 #[.int .i64 n, .int .i64 (-1000000000000000), .int .i64 1000000000000000] w (Ret (.bool (inM n)) w) := by
  unfold inM
  by_cases h : -1000000000000000 ≤ n
  · go_enter Tryd.func57, Tryd.ntmps57
    go_wp2_with fail
    all_goals (go_ret; exact ⟨ret_bool (by first | (simp [*]; done) | (simp; omega)), 0, rfl⟩)
  · go_enter Tryd.func57, Tryd.ntmps57
    go_wp2_with fail
    all_goals (go_ret; exact ⟨ret_bool (by first | (simp [*]; done) | (simp; omega)), 0, rfl⟩)
theorem inM_any (n : Int) (w : World) : Calls Tryd.prog 41 #[.int .i64 n, .int .i64 (-1000000000000000), .int .i64 1000000000000000] w (Ret (.bool (inM n)) w) := by
  unfold inM
  by_cases h : -1000000000000000 ≤ n
  · go_enter Tryd.func41, Tryd.ntmps41
    go_wp2_with fail
    all_goals (go_ret; exact ⟨ret_bool (by first | (simp [*]; done) | (simp; omega)), 0, rfl⟩)
  · go_enter Tryd.func41, Tryd.ntmps41
    go_wp2_with fail
    all_goals (go_ret; exact ⟨ret_bool (by first | (simp [*]; done) | (simp; omega)), 0, rfl⟩)

set_option maxHeartbeats 1000000 in
theorem l01List_any (p len cap : Nat) (zs : List Int) (w : World) (hrow : NewI w p len zs) (hlen : len ≤ 1048576) :
    Calls Tryd.prog 45 #[.slice (some ⟨p, 0, none⟩) len cap] w (Ret (.bool (okI zs len)) w) := by
  have Hrow := hid hrow; clear hrow
  have hlen' : (len : Int) ≤ 1048576 := by omega
  go_enter Tryd.func45, Tryd.ntmps45
  go_wp2_with fail
  go_loopw [3] (fun i wr => ∃ k : Nat, k ≤ len ∧ i = .int .i64 k ∧ Hid (allM zs k = true) ∧ ∃ m, wr = w.drewN m) (fun i _ => len - (intOf i).toNat)
  case atStart => exact ⟨0, Nat.zero_le _, rfl, rfl, 0, rfl⟩
  case round =>
    obtain ⟨k, hk, rfl, ha, m, rfl⟩ := hrel
    by_cases hlt : k < len
    · have hc := Hrow.out k hlt
      cases hin : inM (zs.getD k 0) with
      | true =>
        have ha2 : Hid (allM zs (k + 1) = true) := by show _ = _; rw [allM_succ, ha.out, hin]; rfl
        generalize zs.getD k 0 = z at *
        go_wp2_with (go_at_call 57; refine (l00InM_any _ _).mono ?_; rw [hin]; rintro e w' ⟨rfl, n, rfl⟩)
        exact ⟨⟨k + 1, by omega, by go_num, ha2, _, rfl⟩, by simp [intOf]; omega⟩
      | false =>
        have hno : Hid (okI zs len = false) := by show _ = _; unfold okI; rw [allM_not hlt hin]; rfl
        generalize zs.getD k 0 = z at *
        go_wp2_with (go_at_call 57; refine (l00InM_any _ _).mono ?_; rw [hin]; rintro e w' ⟨rfl, n, rfl⟩)
        go_ret
        exact ⟨ret_bool hno.out.symm, _, rfl⟩
    · have hkl : k = len := by omega
      subst hkl
      have hok : Hid (okI zs k = decide ((k : Int) ≤ 64)) := by show _ = _; unfold okI; rw [ha.out]; rfl
      go_wp2_with fail
      go_ret
      exact ⟨ret_bool hok.out.symm, _, rfl⟩

set_option maxHeartbeats 4000000 in
theorem l01Text_any (p len cap : Nat) (zs : List Int) (w : World) (hrow : NewI w p len zs) (hall : allM zs len = true) (hlen : len ≤ 64) :
    Calls Tryd.prog 46 #[.slice (some ⟨p, 0, none⟩) len cap] w (RetS (listT (decB zs len)) w) := by
  have Hrow := hid hrow; clear hrow
  have Hall := hid hall; clear hall
  by_cases h0 : len = 0
  · have ht : listT (decB zs len) = ⟨#[110, 111, 110, 101]⟩ := if_pos (by rw [decB_len]; exact h0)
    have Ht := hid ht; clear ht
    subst h0
    go_enter Tryd.func46, Tryd.ntmps46
    go_wp2_with fail
    go_ret
    exact ⟨by rw [Ht.out]; rfl, Below.refl _ _⟩
  · have ht : listT (decB zs len) = joinB (decB zs len) := if_neg (by rw [decB_len]; exact h0)
    have Ht := hid ht; clear ht
    have h0' : ¬ ((len : Int) = 0) := by omega
    have hc0 := Hrow.out 0 (by omega)
    have hb0 := inM_bd (allM_lt Hall.out (show 0 < len by omega))
    have h1 : joinB (decB zs 1) = decT (zs.getD 0 0) := by rw [decB_succ, show decB zs 0 = [] from rfl, List.nil_append, joinB_one]
    have H1 := hid h1; clear h1
    generalize zs.getD 0 0 = z0 at *
    go_enter Tryd.func46, Tryd.ntmps46
    go_wp2_with (go_at_call 43; refine (l01Dec_any _ _ hb0.1 hb0.2).mono ?_; rintro e w1 ⟨rfl, hb1⟩)
    go_loopw [3, 4] (fun v i wr => ∃ k : Nat, 0 < k ∧ k ≤ len ∧ i = .int .i64 k ∧ v = .string (joinB (decB zs k)) ∧ Hid (Below w.heap.size w wr)) (fun _ i _ => len - (intOf i).toNat)
    case atStart => exact ⟨1, by omega, by omega, rfl, by rw [H1.out]; rfl, hb1⟩
    case round =>
      obtain ⟨k, hk0, hk, rfl, rfl, Hb⟩ := hrel
      by_cases hlt : k < len
      · have hc := (Hrow.out.below Hb.out) k hlt
        have hbs := Hb.out.size
        have hak : allM zs k = true := by
          unfold allM
          rw [List.all_eq_true]
          intro i hi
          exact allM_lt Hall.out (by have := List.mem_range.1 hi; omega)
        have hs1 := joinB_dec zs k hak
        have hbk := inM_bd (allM_lt Hall.out hlt)
        have hs2 := decT_size (allM_lt Hall.out hlt)
        have hj := hid (joinB_snoc (decB zs k) (decT (zs.getD k 0)) (by rw [decB_len]; exact hk0))
        have hsn := hid (decB_succ zs k)
        clear hak
        generalize zs.getD k 0 = z at *
        have hd : (⟨(Lib.itoa z).toArray⟩ : ByteArray) = decT z := rfl
        go_wp2_with (go_at_call 43; refine (l01Dec_any _ _ hbk.1 hbk.2).mono ?_; rintro e w2 ⟨rfl, hb2⟩; rw [hd])
        all_goals first
          | (exfalso; omega)
          | exact ⟨⟨k + 1, by omega, by omega, by go_num, by rw [hsn.out, hj.out], Hb.out.trans (hb2.mono hbs)⟩, by simp [intOf]; omega⟩
      · have hkl : k = len := by omega
        subst hkl
        go_wp2_with fail
        go_ret
        exact ⟨by rw [Ht.out]; rfl, Hb.out⟩

theorem specListText_any (p len cap : Nat) (zs : List Int) (w : World) (hrow : NewI w p len zs) (hlen : len ≤ 1048576) :
    Calls Tryd.prog 24 #[.slice (some ⟨p, 0, none⟩) len cap] w (RetSB (iTold zs len) (okI zs len) w) := by
  have Hrow := hid hrow; clear hrow
  cases h : okI zs len with
  | true =>
    have hs : iTold zs len = listT (decB zs len) := if_pos h
    have Hs := hid hs; clear hs
    have h64 : allM zs len = true ∧ len ≤ 64 := by
      unfold okI at h
      rw [Bool.and_eq_true, decide_eq_true_eq] at h
      exact ⟨h.1, by omega⟩
    have H64 := hid h64; clear h64
    go_enter Tryd.func24, Tryd.ntmps24
    go_wp2_with (first | (go_at_call 45; refine (l01List_any _ _ _ zs _ Hrow.out hlen).mono ?_; rw [h]; rintro e w' ⟨rfl, n, rfl⟩) | (go_at_call 46; refine (l01Text_any _ _ _ zs _ (Hrow.out.below (below_draws _ _)) H64.out.1 H64.out.2).mono ?_; rintro e w' ⟨rfl, hb⟩))
    go_ret2
    exact ⟨by rw [Hs.out]; rfl, (below_draws _ _).trans hb⟩
  | false =>
    have hs : iTold zs len = ⟨#[]⟩ := if_neg (by rw [h]; decide)
    have Hs := hid hs; clear hs
    go_enter Tryd.func24, Tryd.ntmps24
    go_wp2_with (go_at_call 45; refine (l01List_any _ _ _ zs _ Hrow.out hlen).mono ?_; rw [h]; rintro e w' ⟨rfl, n, rfl⟩)
    go_ret2
    exact ⟨by rw [Hs.out]; rfl, below_draws _ _⟩

set_option maxRecDepth 100000 in
set_option maxHeartbeats 4000000 in
theorem implListText_any (p len cap : Nat) (zs : List Int) (w : World) (hrow : NewI w p len zs) (hlen : len ≤ 1048576) (ht : Tab w) :
    Calls Tryd.prog 26 #[.slice (some ⟨p, 0, none⟩) len cap] w (RetSB (iTold zs len) (okI zs len) w) := by
  have Hrow := hid hrow; clear hrow
  have Htab := hid ht; clear ht
  have hlen' : (len : Int) ≤ 1048576 := by omega
  obtain ⟨i0, hi, hz0, hz1, hz2⟩ := info_parts infoS
  go_enter Tryd.func26, Tryd.ntmps26
  go_wp2_with fail
  go_loopw [4, 10] (fun v i wr => ∃ k : Nat, k ≤ len ∧ k ≤ 64 ∧ i = .int .i64 k ∧ Hid (allM zs k = true) ∧ ∃ g cv, v = .slice (some ⟨g, 0, none⟩) k cv ∧ Hid (wr.ownsRow w.heap.size 9 1 v k ((decB zs k).map Value.string)) ∧ Hid (Below w.heap.size w wr)) (fun _ i _ => len - (intOf i).toNat)
  case atStart => exact ⟨0, Nat.zero_le _, by omega, rfl, rfl, _, _, rfl, World.ownsRow_lit _ _ 0 (Nat.le_refl _) (by unfold maxLen; omega) rfl, (Below.refl _ _).alloc (Nat.le_refl _) _⟩
  case round =>
    obtain ⟨k, hk, hk64, rfl, Ha, g, cv, rfl, Ho, Hb⟩ := hrel
    by_cases hlt : k < len
    · have hc := (Hrow.out.below Hb.out) k hlt
      have hbs := Hb.out.size
      have Htk := hid (Htab.out.below Hb.out)
      cases hin : inM (zs.getD k 0) with
      | false =>
        have hno : Hid (okI zs len = false) := by show _ = _; unfold okI; rw [allM_not hlt hin]; rfl
        have hs : iTold zs len = ⟨#[]⟩ := if_neg (by rw [hno.out]; decide)
        have Hs := hid hs; clear hs
        generalize zs.getD k 0 = z at *
        go_wp2_with (go_at_call 41; refine (inM_any _ _).mono ?_; rw [hin]; rintro e w' ⟨rfl, n, rfl⟩)
        go_ret2
        exact ⟨by rw [Hs.out, hno.out]; rfl, below_drewN Hb.out _⟩
      | true =>
        by_cases h64 : (k : Int) = 64
        · have hno : Hid (okI zs len = false) := by show _ = _; unfold okI; rw [show decide ((len : Int) ≤ 64) = false from decide_eq_false (by omega), Bool.and_false]
          have hs : iTold zs len = ⟨#[]⟩ := if_neg (by rw [hno.out]; decide)
          have Hs := hid hs; clear hs
          generalize zs.getD k 0 = z at *
          have h64b : ((k : Int) == 64) = true := by simpa using h64
          clear h64
          go_wp2_with (go_at_call 41; refine (inM_any _ _).mono ?_; rw [hin]; rintro e w' ⟨rfl, n, rfl⟩)
          go_ret2
          exact ⟨by rw [Hs.out, hno.out]; rfl, below_drewN Hb.out _⟩
        · have ha2 : Hid (allM zs (k + 1) = true) := by show _ = _; rw [allM_succ, Ha.out, hin]; rfl
          have hbk := inM_bd hin
          have hsn := hid (decB_succ zs k)
          generalize zs.getD k 0 = z at *
          have hd : (⟨(Lib.itoa z).toArray⟩ : ByteArray) = decT z := rfl
          go_wp2_with (first
            | (go_at_call 41; refine (inM_any _ _).mono ?_; rw [hin]; rintro e w1 ⟨rfl, n, rfl⟩)
            | (go_at_call 23; refine (implDecimal_any _ _ hbk.1 hbk.2 (Htk.out.below (below_draws _ _))).mono ?_; rintro e w2 ⟨rfl, hb2⟩; rw [hd]; have hb3 := (below_draws wr n).trans hb2)
            | (at_builtin; refine wpList_append_own _ rfl _ _ 52 rfl w.heap.size 9 i0 (.string ByteArray.empty) 1 16 Tryd.underlying52 hi hz0 hz1 hz2 rfl (by decide) _ _ _ rfl ((ownsRow_below Ho.out hb3).alloc _) ⟨w2.heap.size, 0, none⟩ 1 1 [_] rfl rfl (cell_one_new _ _ _) (fun x hx => by simp at hx; subst hx; rfl) (by unfold maxLen; omega) (by omega) (by have := hb3.size; simp; omega) ?_; intro v' w3 hown' hgrow3 hnil3))
          obtain ⟨g', c', rfl⟩ := Go.Joins.ownsRow_form hown' (by omega)
          have ho2 : w3.ownsRow w.heap.size 9 1 (.slice (some ⟨g', 0, none⟩) (k + 1) c') (k + 1) ((decB zs (k + 1)).map Value.string) := by rw [hsn.out, List.map_append]; exact hown'
          exact ⟨⟨k + 1, by omega, by omega, by go_num, ha2, g', c', rfl, ho2, ((Hb.out.trans (hb3.mono hbs)).alloc (by have := hb3.size; omega) _).grown hgrow3 (by have := hb3.size; simp; omega) (fun q hq => (Ho.out.lt q hq).1)⟩, by simp [intOf]; omega⟩
    · have hkl : k = len := by omega
      subst hkl
      have hjl := joinB_dec zs k Ha.out
      have hok : okI zs k = true := by unfold okI; rw [Ha.out, decide_eq_true (by omega)]; rfl
      have hs : iTold zs k = listT (decB zs k) := if_pos hok
      have Hs := hid hs; have Hok := hid hok; clear hs hok
      have HJ : Hid (∀ W : World, W = wr → Calls Tryd.prog 47 #[.slice (some ⟨g, 0, none⟩) k cv] W (RetS (listT (decB zs k)) W)) := by
        rintro W rfl
        exact joined_any g cv (decB zs k) k _ (decB_len zs k).symm (ownsRow_strings Ho.out (decB_len zs k).symm) (Ho.out.lt g rfl).2 (by rw [decB_len]; exact ownsRow_cap Ho.out) (by rw [decB_len]; exact hlen) (by omega)
      clear hjl
      go_wp2_with (go_at_call 47; refine (HJ.out _ rfl).mono ?_; rintro e w2 ⟨rfl, hb2⟩)
      go_ret2
      exact ⟨by rw [Hs.out, Hok.out]; rfl, Hb.out.trans (hb2.mono Hb.out.size)⟩

set_option maxHeartbeats 1000000 in
theorem FnExactListText_walk (a : Option Addr) (len cap : Nat) (zs : List Int) (w : World) (hrow : RowI w a len zs) (ht : Tab w) : Calls Tryd.prog 7 #[.slice a len cap] w (Yes w) := by
  have Hrow := hid hrow; clear hrow
  have Htab := hid ht; clear ht
  by_cases hlt : (1048576 : Int) < (len : Int)
  · go_enter Tryd.func7, Tryd.ntmps7
    go_wp2_with fail
    go_ret
    exact ⟨rfl, Below.refl _ _⟩
  · have hlen : len ≤ 1048576 := by omega
    go_enter Tryd.func7, Tryd.ntmps7
    go_wp2_with fail
    refine (toInt64S_any _ _ _ zs _ Hrow.out hlen).mono ?_
    rintro e w1 ⟨p1, rfl, hn1, hp1, hb1⟩
    have Hn1 := hid hn1; clear hn1
    go_wp2_with fail
    refine (specListText_any _ _ _ zs _ Hn1.out hlen).mono ?_
    rintro e w2 ⟨rfl, hb2⟩
    have hb3 := hb1.trans (hb2.mono hb1.size)
    clear hb1 hb2
    go_wp2_with fail
    refine (toInt64S_any _ _ _ zs _ (Hrow.out.below hb3) hlen).mono ?_
    rintro e w3 ⟨p2, rfl, hn2, hp2, hb4⟩
    have Hn2 := hid hn2; clear hn2
    have hb5 := hb3.trans (hb4.mono hb3.size)
    clear hb3 hb4
    go_wp2_with fail
    refine (implListText_any _ _ _ zs _ Hn2.out hlen (Htab.out.below hb5)).mono ?_
    rintro e w4 ⟨rfl, hb6⟩
    have hb7 := hb5.trans (hb6.mono hb5.size)
    have Hn3 := hid (Hn2.out.below hb6)
    clear hb5 hb6
    go_wp2_with fail
    refine (toInt64S_any _ _ _ zs _ (Hrow.out.below hb7) hlen).mono ?_
    rintro e w5 ⟨p3, rfl, hn4, hp3, hb8⟩
    have Hn4 := hid hn4; clear hn4
    have hb9 := hb7.trans (hb8.mono hb7.size)
    have Hn5 := hid (Hn3.out.below hb8)
    clear hb7 hb8
    go_wp2_with fail
    refine (eqInt64S_any _ _ _ zs _ Hn5.out Hn4.out hlen).mono ?_
    rintro e w' ⟨rfl, m3, rfl⟩
    go_wp2_with fail
    all_goals (go_ret; exact ⟨rfl, below_drewN hb9 _⟩)
end Go.Proofs.YtfmlebjaopfelaaDoor
