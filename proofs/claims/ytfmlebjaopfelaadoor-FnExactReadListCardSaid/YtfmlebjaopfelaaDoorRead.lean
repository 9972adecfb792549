/-
  Reading a number in decimal: both sides give the same answer. Conditions: a text has at most 1048576 letters; the library's variables hold what their initialisers lay.
-/
import Derived.Test.YtfmlebjaopfelaaDoorReadD
import Derived.Lib.SmallJoins
namespace Go.Proofs.YtfmlebjaopfelaaDoor
open Go Go.RowKit Go.Proofs.YtfmlebjaopfelaaDoor.Fl

theorem gSyn : Tryd.prog.globalNamed "strconv.ErrSyntax" = some 1 := by kernel_rfl
theorem gRan : Tryd.prog.globalNamed "strconv.ErrRange" = some 2 := by kernel_rfl

/-- The library's two errors are there. -/
def Errs (w : World) : Prop := (∃ t p, w.var? Tryd.prog "strconv.ErrSyntax" = some #[.iface t p]) ∧ ∃ t p, w.var? Tryd.prog "strconv.ErrRange" = some #[.iface t p]

theorem var_below {w w' : World} {n : String} {g : Nat} {v : Value} (h : w.var? Tryd.prog n = some #[v]) (hg : Tryd.prog.globalNamed n = some g) (hb : Below w.heap.size w w') : w'.var? Tryd.prog n = some #[v] := by
  have hc : w.cell? ⟨g, 0, none⟩ = some v := by simpa using World.var?_cell hg h 0
  have hlt : g < w.heap.size := World.block_lt_of_cell? w _ hc
  unfold World.var? at h ⊢
  rw [hg] at h ⊢
  simp only [Option.bind_some] at h ⊢
  rw [hb.block g hlt]
  exact h

theorem Errs.below {w w' : World} (h : Errs w) (hb : Below w.heap.size w w') : Errs w' := by
  obtain ⟨⟨t, p, h1⟩, ⟨t', p', h2⟩⟩ := h
  exact ⟨⟨t, p, var_below h1 gSyn hb⟩, ⟨t', p', var_below h2 gRan hb⟩⟩

/-- What the library's reading ends in. -/
def Parsed (s : ByteArray) (w : World) (e : Ending) (w' : World) : Prop :=
  ((∃ v, Lib.parseIntB 64 s.data.toList = .ok v ∧ e = .returned (.tuple #[.int .i64 v, .nilIface])) ∨ ((∀ v, Lib.parseIntB 64 s.data.toList ≠ .ok v) ∧ ∃ v t p, e = .returned (.tuple #[.int .i64 v, .iface t p]))) ∧ Below w.heap.size w w'

theorem parse_any (s : ByteArray) (w : World) (hs : s.size ≤ 1048576) (he : Errs w) : Calls Tryd.prog 40 #[.string s, .int .i64 10, .int .i64 64] w (Parsed s w) := by
  obtain ⟨⟨t, p, h1⟩, ⟨t', p', h2⟩⟩ := he
  cases h : Lib.parseIntB 64 s.data.toList
  · rename_i v
    refine (Tryd.strconv_ParseInt_10_at64_ok s (by omega) v h w).mono ?_
    rintro e w' ⟨rfl, rfl | ⟨t, rfl⟩⟩
    · exact ⟨.inl ⟨v, h, rfl⟩, Below.refl _ _⟩
    · exact ⟨.inl ⟨v, h, rfl⟩, Go.Joins.below_bytesWorld _ _ _ _ (Nat.le_refl _)⟩
  · refine (Any.strconv_ParseInt_10_at64_syntax_var Tryd.laysC174 s (by omega) h t p w h1).mono ?_
    rintro e w' ⟨N, rfl, _, _, hb⟩
    exact ⟨.inr ⟨fun v hv => (by rw [h] at hv; cases hv), _, _, _, rfl⟩, hb⟩
  · refine (Any.strconv_ParseInt_10_at64_range_var Tryd.laysC174 s (by omega) h t' p' w h2).mono ?_
    rintro e w' ⟨N, rfl, _, _, hb⟩
    exact ⟨.inr ⟨fun v hv => (by rw [h] at hv; cases hv), _, _, _, rfl⟩, hb⟩

theorem l00InR_any (n : Int) (w : World) : Calls Tryd.prog 57 #[.int .i64 n, .int .i64 (-1000000000000000), .int .i64 1000000000000000] w (Ret (.bool (decide (-1000000000000000 ≤ n ∧ n ≤ 1000000000000000))) w) := by
  by_cases h : -1000000000000000 ≤ n
  · go_enter Tryd.func57, Tryd.ntmps57
    go_wp2_with fail
    all_goals (go_ret; exact ⟨ret_bool (by first | (simp [*]; done) | (simp; omega)), 0, rfl⟩)
  · go_enter Tryd.func57, Tryd.ntmps57
    go_wp2_with fail
    all_goals (go_ret; exact ⟨ret_bool (by first | (simp [*]; done) | (simp; omega)), 0, rfl⟩)
theorem inR_any (n : Int) (w : World) : Calls Tryd.prog 41 #[.int .i64 n, .int .i64 (-1000000000000000), .int .i64 1000000000000000] w (Ret (.bool (decide (-1000000000000000 ≤ n ∧ n ≤ 1000000000000000))) w) := by
  by_cases h : -1000000000000000 ≤ n
  · go_enter Tryd.func41, Tryd.ntmps41
    go_wp2_with fail
    all_goals (go_ret; exact ⟨ret_bool (by first | (simp [*]; done) | (simp; omega)), 0, rfl⟩)
  · go_enter Tryd.func41, Tryd.ntmps41
    go_wp2_with fail
    all_goals (go_ret; exact ⟨ret_bool (by first | (simp [*]; done) | (simp; omega)), 0, rfl⟩)

/-- What ReadDecimal ends in. -/
def RetR (s : ByteArray) (w : World) (e : Ending) (w' : World) : Prop := e = .returned (readV s.data.toList) ∧ Below w.heap.size w w'

set_option maxHeartbeats 1000000 in
theorem implRead_any (s : ByteArray) (w : World) (hs : s.size ≤ 1048576) (he : Errs w) (ht : Tab w) : Calls Tryd.prog 16 #[.string s] w (RetR s w) := by
  have He := hid he; have Ht := hid ht; clear he ht
  by_cases hok : ∃ v, Lib.parseIntB 64 s.data.toList = .ok v
  · obtain ⟨v, hv⟩ := hok
    have HP : Hid (∀ W : World, W = w → Calls Tryd.prog 40 #[.string s, .int .i64 10, .int .i64 64] W (fun e w' => e = .returned (.tuple #[.int .i64 v, .nilIface]) ∧ Below w.heap.size w w')) := by
      rintro W rfl
      refine (parse_any s _ hs He.out).mono ?_
      rintro e w' ⟨⟨u, hu, rfl⟩ | ⟨hn, _⟩, hb⟩
      · rw [hv] at hu; cases hu; exact ⟨rfl, hb⟩
      · exact absurd hv (hn v)
    cases hin : decide (-1000000000000000 ≤ v ∧ v ≤ 1000000000000000) with
    | false =>
      have hr : readV s.data.toList = .tuple #[.int .i64 0, .bool false] := by
        unfold readV
        cases h : readI s.data.toList with
        | none => rfl
        | some n =>
          have h1 := readI_parse h
          rw [hv] at h1
          cases h1
          exact absurd (readI_some h).1 (of_decide_eq_false hin)
      have Hr := hid hr; clear hr hv
      go_enter Tryd.func16, Tryd.ntmps16
      go_wp2_with (first
        | (go_at_call 40; refine (HP.out _ rfl).mono ?_; rintro e w1 ⟨rfl, hb1⟩)
        | (go_at_call 41; refine (inR_any _ _).mono ?_; rw [hin]; rintro e w' ⟨rfl, n, rfl⟩))
      go_ret2
      exact ⟨by rw [Hr.out]; rfl, below_drewN hb1 _⟩
    | true =>
      have hbd := of_decide_eq_true hin
      by_cases hq : Lib.itoa v = s.data.toList
      · have hr : readV s.data.toList = .tuple #[.int .i64 v, .bool true] := by
          unfold readV
          rw [readI_of hbd.1 hbd.2 hq]
        have hq2 : (Lib.itoa v == s.toList) = true := by rw [Lib.toList_data]; simpa using hq
        have Hr := hid hr; clear hr hv hq
        go_enter Tryd.func16, Tryd.ntmps16
        go_wp2_with (first
          | (go_at_call 40; refine (HP.out _ rfl).mono ?_; rintro e w1 ⟨rfl, hb1⟩)
          | (go_at_call 41; refine (inR_any _ _).mono ?_; rw [hin]; rintro e w' ⟨rfl, n, rfl⟩)
          | (go_at_call 23; refine (implDecimal_any v _ (by omega) (by omega) ((Ht.out.below hb1).below (below_draws _ _))).mono ?_; rintro e w2 ⟨rfl, hb2⟩))
        all_goals (go_ret2; exact ⟨by rw [Hr.out]; rfl, (below_drewN hb1 _).trans (hb2.mono (below_drewN hb1 _).size)⟩)
      · have hr : readV s.data.toList = .tuple #[.int .i64 0, .bool false] := by
          unfold readV
          cases h : readI s.data.toList with
          | none => rfl
          | some n =>
            have h1 := readI_parse h
            rw [hv] at h1
            cases h1
            exact absurd (readI_some h).2 hq
        have hq2 : (Lib.itoa v == s.toList) = false := by rw [Lib.toList_data]; simpa using hq
        have Hr := hid hr; clear hr hv hq
        go_enter Tryd.func16, Tryd.ntmps16
        go_wp2_with (first
          | (go_at_call 40; refine (HP.out _ rfl).mono ?_; rintro e w1 ⟨rfl, hb1⟩)
          | (go_at_call 41; refine (inR_any _ _).mono ?_; rw [hin]; rintro e w' ⟨rfl, n, rfl⟩)
          | (go_at_call 23; refine (implDecimal_any v _ (by omega) (by omega) ((Ht.out.below hb1).below (below_draws _ _))).mono ?_; rintro e w2 ⟨rfl, hb2⟩))
        all_goals (go_ret2; exact ⟨by rw [Hr.out]; rfl, (below_drewN hb1 _).trans (hb2.mono (below_drewN hb1 _).size)⟩)
  · have hr : readV s.data.toList = .tuple #[.int .i64 0, .bool false] := by
      unfold readV
      cases h : readI s.data.toList with
      | none => rfl
      | some n => exact absurd ⟨n, readI_parse h⟩ hok
    have HP : Hid (∀ W : World, W = w → Calls Tryd.prog 40 #[.string s, .int .i64 10, .int .i64 64] W (fun e w' => (∃ v t p, e = .returned (.tuple #[.int .i64 v, .iface t p])) ∧ Below w.heap.size w w')) := by
      rintro W rfl
      refine (parse_any s _ hs He.out).mono ?_
      rintro e w' ⟨⟨u, hu, rfl⟩ | ⟨_, h⟩, hb⟩
      · exact absurd ⟨u, hu⟩ hok
      · exact ⟨h, hb⟩
    have Hr := hid hr; clear hr hok
    go_enter Tryd.func16, Tryd.ntmps16
    go_wp2_with (go_at_call 40; refine (HP.out _ rfl).mono ?_; rintro e w1 ⟨⟨v, t, p, rfl⟩, hb1⟩)
    all_goals (go_ret2; exact ⟨by rw [Hr.out]; rfl, hb1⟩)

theorem take_snoc (s : ByteArray) (k : Nat) (h : k < s.size) : s.data.toList.take (k + 1) = s.data.toList.take k ++ [s[k]] := by
  rw [List.take_succ_eq_append_getElem (by simpa using h)]; rfl
theorem take_all (s : ByteArray) : s.data.toList.take s.size = s.data.toList := List.take_of_length_le (by simp)
theorem head_some (s : ByteArray) (h : 0 < s.size) : s.data.toList.head? = some s[0] := by
  have e : s.data.toList[0]? = some s[0] := List.getElem?_eq_getElem (by simpa using h)
  rw [List.head?_eq_getElem?, e]

theorem readV_none {l : List UInt8} (h : readI l = none) : readV l = .tuple #[.int .i64 0, .bool false] := by unfold readV; rw [h]
theorem readV_some {l : List UInt8} {n : Int} (h : readI l = some n) : readV l = .tuple #[.int .i64 n, .bool true] := by unfold readV; rw [h]

set_option maxHeartbeats 2000000 in
theorem l01Value_any (s : ByteArray) (w : World) : Calls Tryd.prog 39 #[.string s] w (RetR s w) := by
  have hsz : s.data.toList.length = s.size := by simp
  by_cases h1 : (s.size : Int) < 1
  · have hr := readV_none (l := s.data.toList) (by cases h : readI s.data.toList with
      | none => rfl
      | some n => have := readI_len h; omega)
    have Hr := hid hr; clear hr hsz
    go_enter Tryd.func39, Tryd.ntmps39
    go_wp2_with fail
    all_goals (go_ret2; exact ⟨by rw [Hr.out]; rfl, Below.refl _ _⟩)
  by_cases h2 : (17 : Int) < (s.size : Int)
  · have hr := readV_none (l := s.data.toList) (by cases h : readI s.data.toList with
      | none => rfl
      | some n => have := readI_len h; omega)
    have Hr := hid hr; clear hr hsz
    go_enter Tryd.func39, Tryd.ntmps39
    go_wp2_with fail
    all_goals (go_ret2; exact ⟨by rw [Hr.out]; rfl, Below.refl _ _⟩)
  have hbd : ∀ k, svN (s.data.toList.take k) < 100000000000000000 := by
    intro k
    have := svN_bd (s.data.toList.take k)
    have h3 : (s.data.toList.take k).length ≤ 17 := by rw [List.length_take]; omega
    have h4 := Nat.pow_le_pow_right (show 0 < 10 by decide) h3
    omega
  have Hbd := hid hbd; clear hbd
  have hhead := head_some s (by omega)
  have hrd : readI s.data.toList = if (-1000000000000000 ≤ svI s.data.toList ∧ svI s.data.toList ≤ 1000000000000000) ∧ Lib.itoa (svI s.data.toList) = s.data.toList then some (svI s.data.toList) else none := rfl
  have Hrd := hid hrd; clear hrd
  have hsv : svI s.data.toList = if s[0] = 45 then -(svN s.data.toList : Int) else svN s.data.toList := by unfold svI; rw [hhead]; simp
  have Hsv := hid hsv; clear hsv hhead hsz
  go_enter Tryd.func39, Tryd.ntmps39
  go_wp2_with fail
  go_loop [4, 5] (fun v i => ∃ k : Nat, k ≤ s.size ∧ i = .int .i64 k ∧ v = .int .i64 (svN (s.data.toList.take k) : Int)) (fun _ i => s.size - (intOf i).toNat)
  case atStart => exact ⟨0, Nat.zero_le _, rfl, rfl⟩
  case round =>
    obtain ⟨k, hk, rfl, rfl⟩ := hrel
    by_cases hlt : k < s.size
    · have hb := Hbd.out k
      have hs : svN (s.data.toList.take (k + 1)) = if isDig s[k] then 10 * svN (s.data.toList.take k) + (s[k].toNat - 48) else svN (s.data.toList.take k) := by rw [take_snoc s k hlt, svN_snoc]
      have Hs := hid hs; clear hs
      have hc : (s[k].toNat : Int) < 256 := by have := s[k].toNat_lt; omega
      generalize svN (s.data.toList.take k) = a at *
      by_cases hd : isDig s[k]
      · have hd1 : 48 ≤ (s[k].toNat : Int) := by unfold isDig at hd; omega
        have hd2 : (s[k].toNat : Int) ≤ 57 := by unfold isDig at hd; omega
        go_wp2_with fail
        go_round
        case rel => exact ⟨k + 1, by omega, by go_num, by rw [Hs.out, if_pos hd]; go_num⟩
        case measure => simp [intOf]; omega
      · by_cases hd1 : 48 ≤ (s[k].toNat : Int)
        · have hd2 : ¬ (s[k].toNat : Int) ≤ 57 := by unfold isDig at hd; omega
          go_wp2_with fail
          go_round
          case rel => exact ⟨k + 1, by omega, by go_num, by rw [Hs.out, if_neg hd]⟩
          case measure => simp [intOf]; omega
        · go_wp2_with fail
          go_round
          case rel => exact ⟨k + 1, by omega, by go_num, by rw [Hs.out, if_neg hd]⟩
          case measure => simp [intOf]; omega
    · have hkl : k = s.size := by omega
      subst hkl
      have hb := Hbd.out s.size
      rw [take_all] at hb ⊢
      clear Hbd
      by_cases hneg : s[0] = 45
      · have h45 : (s[0].toNat : Int) = 45 := by rw [hneg]; rfl
        have hm : svI s.data.toList = -(svN s.data.toList : Int) := by rw [Hsv.out, if_pos hneg]
        cases hin : decide (-1000000000000000 ≤ -(svN s.data.toList : Int) ∧ -(svN s.data.toList : Int) ≤ 1000000000000000) with
        | false =>
          have hr := readV_none (l := s.data.toList) (by rw [Hrd.out, hm, if_neg (fun h => of_decide_eq_false hin h.1)])
          have Hr := hid hr; clear hr hm
          generalize svN s.data.toList = a at *
          go_wp2_with (go_at_call 57; refine (l00InR_any _ _).mono ?_; rw [hin]; rintro e w' ⟨rfl, n, rfl⟩)
          all_goals (go_ret2; exact ⟨by rw [Hr.out]; rfl, below_draws _ _⟩)
        | true =>
          have hbd := of_decide_eq_true hin
          by_cases hq : Lib.itoa (-(svN s.data.toList : Int)) = s.data.toList
          · have hr := readV_some (l := s.data.toList) (n := -(svN s.data.toList : Int)) (by rw [Hrd.out, hm, if_pos ⟨hbd, hq⟩])
            have hq2 : (Lib.itoa (-(svN s.data.toList : Int)) == s.toList) = true := by rw [Lib.toList_data]; simpa using hq
            have Hr := hid hr; clear hr hm hq
            generalize svN s.data.toList = a at *
            go_wp2_with (first
              | (go_at_call 57; refine (l00InR_any _ _).mono ?_; rw [hin]; rintro e w' ⟨rfl, n, rfl⟩)
              | (go_at_call 43; refine (l01Dec_any _ _ (by omega) (by omega)).mono ?_; rintro e w2 ⟨rfl, hb2⟩))
            all_goals (go_ret2; exact ⟨by rw [Hr.out]; rfl, (below_draws _ _).trans hb2⟩)
          · have hr := readV_none (l := s.data.toList) (by rw [Hrd.out, hm, if_neg (fun h => hq h.2)])
            have hq2 : (Lib.itoa (-(svN s.data.toList : Int)) == s.toList) = false := by rw [Lib.toList_data]; simpa using hq
            have Hr := hid hr; clear hr hm hq
            generalize svN s.data.toList = a at *
            go_wp2_with (first
              | (go_at_call 57; refine (l00InR_any _ _).mono ?_; rw [hin]; rintro e w' ⟨rfl, n, rfl⟩)
              | (go_at_call 43; refine (l01Dec_any _ _ (by omega) (by omega)).mono ?_; rintro e w2 ⟨rfl, hb2⟩))
            all_goals (go_ret2; exact ⟨by rw [Hr.out]; rfl, (below_draws _ _).trans hb2⟩)
      · have h45 : ¬ (s[0].toNat : Int) = 45 := fun h => hneg (UInt8.toNat_inj.1 (by show s[0].toNat = 45; omega))
        have hm : svI s.data.toList = (svN s.data.toList : Int) := by rw [Hsv.out, if_neg hneg]
        cases hin : decide (-1000000000000000 ≤ (svN s.data.toList : Int) ∧ (svN s.data.toList : Int) ≤ 1000000000000000) with
        | false =>
          have hr := readV_none (l := s.data.toList) (by rw [Hrd.out, hm, if_neg (fun h => of_decide_eq_false hin h.1)])
          have Hr := hid hr; clear hr hm
          generalize svN s.data.toList = a at *
          go_wp2_with (go_at_call 57; refine (l00InR_any _ _).mono ?_; rw [hin]; rintro e w' ⟨rfl, n, rfl⟩)
          all_goals (go_ret2; exact ⟨by rw [Hr.out]; rfl, below_draws _ _⟩)
        | true =>
          have hbd := of_decide_eq_true hin
          by_cases hq : Lib.itoa ((svN s.data.toList : Int)) = s.data.toList
          · have hr := readV_some (l := s.data.toList) (n := (svN s.data.toList : Int)) (by rw [Hrd.out, hm, if_pos ⟨hbd, hq⟩])
            have hq2 : (Lib.itoa ((svN s.data.toList : Int)) == s.toList) = true := by rw [Lib.toList_data]; simpa using hq
            have Hr := hid hr; clear hr hm hq
            generalize svN s.data.toList = a at *
            go_wp2_with (first
              | (go_at_call 57; refine (l00InR_any _ _).mono ?_; rw [hin]; rintro e w' ⟨rfl, n, rfl⟩)
              | (go_at_call 43; refine (l01Dec_any _ _ (by omega) (by omega)).mono ?_; rintro e w2 ⟨rfl, hb2⟩))
            all_goals (go_ret2; exact ⟨by rw [Hr.out]; rfl, (below_draws _ _).trans hb2⟩)
          · have hr := readV_none (l := s.data.toList) (by rw [Hrd.out, hm, if_neg (fun h => hq h.2)])
            have hq2 : (Lib.itoa ((svN s.data.toList : Int)) == s.toList) = false := by rw [Lib.toList_data]; simpa using hq
            have Hr := hid hr; clear hr hm hq
            generalize svN s.data.toList = a at *
            go_wp2_with (first
              | (go_at_call 57; refine (l00InR_any _ _).mono ?_; rw [hin]; rintro e w' ⟨rfl, n, rfl⟩)
              | (go_at_call 43; refine (l01Dec_any _ _ (by omega) (by omega)).mono ?_; rintro e w2 ⟨rfl, hb2⟩))
            all_goals (go_ret2; exact ⟨by rw [Hr.out]; rfl, (below_draws _ _).trans hb2⟩)

theorem specRead_any (s : ByteArray) (w : World) : Calls Tryd.prog 15 #[.string s] w (RetR s w) := by
  cases hv : readI s.data.toList with
  | none =>
    have hr := readV_none hv
    have Hr := hid hr; clear hv
    have HV : Hid (∀ W : World, W = w → Calls Tryd.prog 39 #[.string s] W (fun e w' => e = .returned (.tuple #[.int .i64 0, .bool false]) ∧ Below w.heap.size w w')) := by
      rintro W rfl
      refine (l01Value_any s _).mono ?_
      rintro e w' ⟨rfl, hb⟩
      exact ⟨by rw [hr], hb⟩
    clear hr
    go_enter Tryd.func15, Tryd.ntmps15
    go_wp2_with (go_at_call 39; refine (HV.out _ rfl).mono ?_; rintro e w' ⟨rfl, hb⟩)
    go_ret2
    exact ⟨by rw [Hr.out]; rfl, hb⟩
  | some n =>
    have hr := readV_some hv
    have Hr := hid hr; clear hv
    have HV : Hid (∀ W : World, W = w → Calls Tryd.prog 39 #[.string s] W (fun e w' => e = .returned (.tuple #[.int .i64 n, .bool true]) ∧ Below w.heap.size w w')) := by
      rintro W rfl
      refine (l01Value_any s _).mono ?_
      rintro e w' ⟨rfl, hb⟩
      exact ⟨by rw [hr], hb⟩
    clear hr
    go_enter Tryd.func15, Tryd.ntmps15
    go_wp2_with (go_at_call 39; refine (HV.out _ rfl).mono ?_; rintro e w' ⟨rfl, hb⟩)
    go_ret2
    exact ⟨by rw [Hr.out]; rfl, hb⟩

theorem readV_two (l : List UInt8) : ∃ (n : Int) (b : Bool), readV l = .tuple #[.int .i64 n, .bool b] := by
  unfold readV
  cases readI l with
  | none => exact ⟨0, false, rfl⟩
  | some n => exact ⟨n, true, rfl⟩

theorem FnExactReadDecimal_walk (s : ByteArray) (w : World) (hs : s.size ≤ maxLen) (he : Errs w) (ht : Tab w) : Calls Tryd.prog 4 #[.string s] w (Yes w) := by
  unfold maxLen at hs
  have He := hid he; have Ht := hid ht; clear he ht
  obtain ⟨n, b, hv⟩ := readV_two s.data.toList
  by_cases h : s.size ≤ 1048576
  · go_enter Tryd.func4, Tryd.ntmps4
    go_wp2_with fail
    refine (specRead_any s _).mono ?_
    rintro e w1 ⟨rfl, hb1⟩
    rw [hv]
    go_wp2_with fail
    refine (implRead_any s _ h (He.out.below hb1) (Ht.out.below hb1)).mono ?_
    rintro e w2 ⟨rfl, hb2⟩
    rw [hv]
    have hb3 := hb1.trans (hb2.mono hb1.size)
    clear hb1 hb2
    go_wp2_with fail
    all_goals (go_ret; exact ⟨rfl, hb3⟩)
  · go_enter Tryd.func4, Tryd.ntmps4
    go_wp2_with fail
    all_goals (go_ret; exact ⟨rfl, Below.refl _ _⟩)
end Go.Proofs.YtfmlebjaopfelaaDoor
