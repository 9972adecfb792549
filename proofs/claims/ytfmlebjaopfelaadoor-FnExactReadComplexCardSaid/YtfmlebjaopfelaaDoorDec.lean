/-
  Numbers in decimal: both sides make the same text. Conditions: a number is one of int64; the library's table of the powers of ten holds what its initialiser lays.
-/
import Derived.Test.YtfmlebjaopfelaaDoorRows
import Derived.Test.YtfmlebjaopfelaaDoorFl
import Derived.Test.YtfmlebjaopfelaaDoorShelf
import Derived.WalkSpells
import Derived.Below
import Derived.Laws.IdiomStrings
import Derived.Maps.AppendAt
import Derived.Lib.SmallJoins
import Derived.Lib.ItoaLen
import Derived.Lib.ItoaMem
import Derived.Lib.AppendIntMem
import Derived.Lib.LaidTab
namespace Go.Proofs.YtfmlebjaopfelaaDoor.Fl
open Go Go.RowKit

/-- What is left of the digits in front of those that are there. -/
def preD (r : Int) (ds : List UInt8) : List UInt8 := if ds ≠ [] ∧ r = 0 then ds else Lib.decDigits r.natAbs ++ ds
def lenV : Value → Nat
  | .slice _ n _ => n
  | _ => 0
def digD (r : Int) : UInt8 := UInt8.ofNat (48 + r.natAbs % 10)

theorem preD_step (r : Int) (ds : List UInt8) (h : ds = [] ∨ r ≠ 0) : preD (r.tdiv 10) (digD r :: ds) = preD r ds := by
  have e1 : preD r ds = Lib.decDigits r.natAbs ++ ds := if_neg (by rintro ⟨a, b⟩; rcases h with h | h <;> contradiction)
  rw [e1]
  have e2 : (r.tdiv 10).natAbs = r.natAbs / 10 := by rw [Int.natAbs_tdiv]; rfl
  unfold preD
  by_cases h0 : r.natAbs < 10
  · have : r.tdiv 10 = 0 := by omega
    rw [if_pos ⟨by simp, this⟩, Lib.decDigits_one h0]
    unfold digD
    rw [Nat.mod_eq_of_lt h0]
    rfl
  · rw [if_neg (by rintro ⟨_, b⟩; omega), e2]
    conv => rhs; rw [Lib.decDigits, dif_neg h0]
    unfold digD
    simp

theorem preD_len (r : Int) (ds : List UInt8) : ds.length ≤ (preD r ds).length := by
  unfold preD
  split <;> simp

theorem digD_val (r : Int) : ((digD r).toNat : Int) = 48 + ((r.natAbs % 10 : Nat) : Int) := by
  unfold digD
  rw [UInt8.toNat_ofNat']
  omega

theorem own_head {w : World} {B n : Nat} {e : TypeId} {v : Value} {X Y : Int} {L : List Value} (h : w.ownsRow B e 1 v n ([.int .u8 X] ++ L)) (hX : X = Y) : w.ownsRow B e 1 v n (.int .u8 Y :: L) := by
  subst hX; exact h
end Go.Proofs.YtfmlebjaopfelaaDoor.Fl
namespace Go.Proofs.YtfmlebjaopfelaaDoor
open Go.RowKit Go.Proofs.YtfmlebjaopfelaaDoor.Fl

theorem infoB8 : (Tryd.prog.info? 5).map (fun i => (i.zero, i.size, i.bytes)) = some (some (.int .u8 0), 1, 1) := by kernel_rfl

/-- A text, and a world with new blocks alone. -/
def RetD (n : Int) (w : World) (e : Ending) (w' : World) : Prop := e = .returned (.string ⟨(Lib.itoa n).toArray⟩) ∧ Below w.heap.size w w'

set_option maxRecDepth 100000 in
set_option maxHeartbeats 2000000 in
theorem l01Dec_any (n : Int) (w : World) (h0 : -9223372036854775808 ≤ n) (h1 : n ≤ 9223372036854775807) : Calls Tryd.prog 43 #[.int .i64 n] w (RetD n w) := by
  obtain ⟨i0, hi, hz0, hz1, hz2⟩ := info_parts infoB8
  have HL : Hid ((Lib.decDigits n.natAbs).length ≤ 20) := by show _ ≤ _; rw [Lib.decDigits_length]; exact Lib.nDigits_le20 _ (by omega)
  go_enter Tryd.func43, Tryd.ntmps43
  go_wp2_with fail
  go_loopw [3, 4] (fun v i wr => ∃ (r : Int) (ds : List UInt8) (g cv : Nat), i = .int .i64 r ∧ v = .slice (some ⟨g, 0, none⟩) ds.length cv ∧ -9223372036854775808 ≤ r ∧ r ≤ 9223372036854775807 ∧ Hid (preD r ds = Lib.decDigits n.natAbs) ∧ Hid (wr.ownsRow w.heap.size 5 1 v ds.length (ds.map fun b => Value.int .u8 (b.toNat : Int))) ∧ Hid (Below w.heap.size w wr)) (fun v i _ => 2 * (intOf i).natAbs + (if lenV v = 0 then 1 else 0))
  case atStart => exact ⟨n, [], _, _, rfl, rfl, h0, h1, by show _ = _; simp [preD], World.ownsRow_lit _ _ 0 (Nat.le_refl _) (by unfold maxLen; omega) rfl, (Below.refl _ _).alloc (Nat.le_refl _) _⟩
  case round =>
    obtain ⟨r, ds, g, cv, rfl, rfl, hr0, hr1, Hp, Ho, Hb⟩ := hrel
    have hdl : ds.length ≤ 20 := by have := preD_len r ds; rw [Hp.out] at this; have := HL.out; omega
    have hbs := Hb.out.size
    by_cases hgo : ds = [] ∨ r ≠ 0
    · have Hs := hid (preD_step r ds hgo)
      have hv := digD_val r
      have hcase : (((ds.length : Int) == 0) = false ∧ (r != 0) = true) ∨ ((ds.length : Int) == 0) = true := by
        rcases hgo with h | h
        · subst h; exact .inr rfl
        · by_cases hl : (ds.length : Int) = 0
          · exact .inr (by simpa using hl)
          · exact .inl ⟨by simpa using hl, by simpa using h⟩
      clear hgo
      have hmeas : (((ds.length : Int) == 0) = false ∧ (r != 0) = true) ∨ ((ds.length : Int) == 0) = true → 2 * (r.tdiv 10).natAbs < 2 * r.natAbs + (if ds.length = 0 then 1 else 0) := by
        have e2 : (r.tdiv 10).natAbs = r.natAbs / 10 := by rw [Int.natAbs_tdiv]; rfl
        rintro (⟨_, h⟩ | h)
        · have : r ≠ 0 := by simpa using h
          omega
        · have : ds.length = 0 := by simpa using h
          rw [if_pos this]; omega
      have Hm := hid (hmeas hcase); clear hmeas
      by_cases hneg : r < 0
      · have hd : ((digD r).toNat : Int) = 48 + -(r.tmod 10) := by
          have e3 : (r.tmod 10).natAbs = r.natAbs % 10 := by rw [Int.natAbs_tmod]; rfl
          have e4 : r.tmod 10 = -((-r).tmod 10) := by rw [Int.neg_tmod, Int.neg_neg]
          have e5 := Int.tmod_nonneg 10 (show 0 ≤ -r by omega)
          omega
        have ht0 : r.tmod 10 ≤ 0 := by
          have e4 : r.tmod 10 = -((-r).tmod 10) := by rw [Int.neg_tmod, Int.neg_neg]
          have e5 := Int.tmod_nonneg 10 (show 0 ≤ -r by omega)
          omega
        have ht1 : -10 < r.tmod 10 := by
          have e3 : (r.tmod 10).natAbs = r.natAbs % 10 := by rw [Int.natAbs_tmod]; rfl
          omega
        have hq1 : -9223372036854775808 ≤ r.tdiv 10 ∧ r.tdiv 10 ≤ 9223372036854775807 := by
          have e2 : (r.tdiv 10).natAbs = r.natAbs / 10 := by rw [Int.natAbs_tdiv]; rfl
          omega
        have Hd := hid hd; clear hv hd
        rcases hcase with ⟨hl0, hr⟩ | hl0
        · go_wp2_with (at_builtin; refine wpList_append_own _ rfl _ _ 75 rfl w.heap.size 5 i0 (.int .u8 0) 1 1 Tryd.underlying75 hi hz0 hz1 hz2 rfl (by decide) _ 1 [.int .u8 _] rfl (World.ownsRow_lit _ _ 1 hbs (by unfold maxLen; omega) rfl) ⟨g, 0, none⟩ ds.length cv (ds.map fun b => Value.int .u8 (b.toNat : Int)) rfl (by simp) ((Ho.out.alloc _).cells rfl) (fun x hx => by simp at hx; obtain ⟨b, _, rfl⟩ := hx; rfl) (by unfold maxLen; omega) (by omega) (by simp; omega) ?_; intro v' w3 hown' hgrow3 hnil3)
          all_goals
            obtain ⟨g', c', rfl⟩ := Go.Joins.ownsRow_form hown' (by omega)
            have hdd := Hd.out
            have hl : (digD r :: ds).length = 1 + ds.length := by simp [Nat.add_comm]
            refine ⟨⟨_, digD r :: ds, g', c', rfl, by rw [hl], by omega, by omega, ?_, by rw [hl]; exact own_head hown' (by omega), (Hb.out.alloc hbs _).grown hgrow3 (by simp; omega) (fun q hq => by simp [Value.ownBlock, Act.eval] at hq; omega)⟩, ?_⟩
            · show _ = _
              first | exact Hs.out.trans Hp.out | (rw [← Hq.out]; exact Hs.out.trans Hp.out)
            · have hm := Hm.out
              first
                | (simp only [intOf, lenV]; simpa using hm)
                | (rw [Hq.out] at hm; simp only [intOf, lenV]; simpa using hm)
        · go_wp2_with (at_builtin; refine wpList_append_own _ rfl _ _ 75 rfl w.heap.size 5 i0 (.int .u8 0) 1 1 Tryd.underlying75 hi hz0 hz1 hz2 rfl (by decide) _ 1 [.int .u8 _] rfl (World.ownsRow_lit _ _ 1 hbs (by unfold maxLen; omega) rfl) ⟨g, 0, none⟩ ds.length cv (ds.map fun b => Value.int .u8 (b.toNat : Int)) rfl (by simp) ((Ho.out.alloc _).cells rfl) (fun x hx => by simp at hx; obtain ⟨b, _, rfl⟩ := hx; rfl) (by unfold maxLen; omega) (by omega) (by simp; omega) ?_; intro v' w3 hown' hgrow3 hnil3)
          all_goals
            obtain ⟨g', c', rfl⟩ := Go.Joins.ownsRow_form hown' (by omega)
            have hdd := Hd.out
            have hl : (digD r :: ds).length = 1 + ds.length := by simp [Nat.add_comm]
            refine ⟨⟨_, digD r :: ds, g', c', rfl, by rw [hl], by omega, by omega, ?_, by rw [hl]; exact own_head hown' (by omega), (Hb.out.alloc hbs _).grown hgrow3 (by simp; omega) (fun q hq => by simp [Value.ownBlock, Act.eval] at hq; omega)⟩, ?_⟩
            · show _ = _
              first | exact Hs.out.trans Hp.out | (rw [← Hq.out]; exact Hs.out.trans Hp.out)
            · have hm := Hm.out
              first
                | (simp only [intOf, lenV]; simpa using hm)
                | (rw [Hq.out] at hm; simp only [intOf, lenV]; simpa using hm)
      · have hd : ((digD r).toNat : Int) = 48 + r % 10 := by omega
        have Hd := hid hd; clear hv hd
        have hq : r.tdiv 10 = r / 10 := Int.tdiv_eq_ediv_of_nonneg (by omega)
        have Hq := hid hq; clear hq
        rcases hcase with ⟨hl0, hr⟩ | hl0
        · go_wp2_with (at_builtin; refine wpList_append_own _ rfl _ _ 75 rfl w.heap.size 5 i0 (.int .u8 0) 1 1 Tryd.underlying75 hi hz0 hz1 hz2 rfl (by decide) _ 1 [.int .u8 _] rfl (World.ownsRow_lit _ _ 1 hbs (by unfold maxLen; omega) rfl) ⟨g, 0, none⟩ ds.length cv (ds.map fun b => Value.int .u8 (b.toNat : Int)) rfl (by simp) ((Ho.out.alloc _).cells rfl) (fun x hx => by simp at hx; obtain ⟨b, _, rfl⟩ := hx; rfl) (by unfold maxLen; omega) (by omega) (by simp; omega) ?_; intro v' w3 hown' hgrow3 hnil3)
          all_goals
            obtain ⟨g', c', rfl⟩ := Go.Joins.ownsRow_form hown' (by omega)
            have hdd := Hd.out
            have hl : (digD r :: ds).length = 1 + ds.length := by simp [Nat.add_comm]
            refine ⟨⟨_, digD r :: ds, g', c', rfl, by rw [hl], by omega, by omega, ?_, by rw [hl]; exact own_head hown' (by omega), (Hb.out.alloc hbs _).grown hgrow3 (by simp; omega) (fun q hq => by simp [Value.ownBlock, Act.eval] at hq; omega)⟩, ?_⟩
            · show _ = _
              first | exact Hs.out.trans Hp.out | (rw [← Hq.out]; exact Hs.out.trans Hp.out)
            · have hm := Hm.out
              first
                | (simp only [intOf, lenV]; simpa using hm)
                | (rw [Hq.out] at hm; simp only [intOf, lenV]; simpa using hm)
        · go_wp2_with (at_builtin; refine wpList_append_own _ rfl _ _ 75 rfl w.heap.size 5 i0 (.int .u8 0) 1 1 Tryd.underlying75 hi hz0 hz1 hz2 rfl (by decide) _ 1 [.int .u8 _] rfl (World.ownsRow_lit _ _ 1 hbs (by unfold maxLen; omega) rfl) ⟨g, 0, none⟩ ds.length cv (ds.map fun b => Value.int .u8 (b.toNat : Int)) rfl (by simp) ((Ho.out.alloc _).cells rfl) (fun x hx => by simp at hx; obtain ⟨b, _, rfl⟩ := hx; rfl) (by unfold maxLen; omega) (by omega) (by simp; omega) ?_; intro v' w3 hown' hgrow3 hnil3)
          all_goals
            obtain ⟨g', c', rfl⟩ := Go.Joins.ownsRow_form hown' (by omega)
            have hdd := Hd.out
            have hl : (digD r :: ds).length = 1 + ds.length := by simp [Nat.add_comm]
            refine ⟨⟨_, digD r :: ds, g', c', rfl, by rw [hl], by omega, by omega, ?_, by rw [hl]; exact own_head hown' (by omega), (Hb.out.alloc hbs _).grown hgrow3 (by simp; omega) (fun q hq => by simp [Value.ownBlock, Act.eval] at hq; omega)⟩, ?_⟩
            · show _ = _
              first | exact Hs.out.trans Hp.out | (rw [← Hq.out]; exact Hs.out.trans Hp.out)
            · have hm := Hm.out
              first
                | (simp only [intOf, lenV]; simpa using hm)
                | (rw [Hq.out] at hm; simp only [intOf, lenV]; simpa using hm)
    · have hl0 : ((ds.length : Int) == 0) = false := by
        have : ds ≠ [] := fun h => hgo (.inl h)
        simpa using this
      have hr : r = 0 := by
        by_cases h : r = 0
        · exact h
        · exact absurd (.inr h) hgo
      subst hr
      have hds : ds = Lib.decDigits n.natAbs := by
        have := Hp.out
        unfold preD at this
        rw [if_pos ⟨fun h => hgo (.inl h), rfl⟩] at this
        exact this
      subst hds
      clear hgo
      have hcv : ∀ (W : World) (L : List UInt8) (G c : Nat), (∀ j (hj : j < L.length), W.cell? ((⟨G, 0, none⟩ : Addr).add j) = some (.int .u8 (L[j].toNat : Int))) → (convert 75 9 (.slice (some ⟨G, 0, none⟩) L.length c)).run Tryd.prog W = .ok (.string ⟨L.toArray⟩) W := fun W L G c hc => run_convert_bytes_back W 75 9 5 ⟨G, 0, none⟩ c L Tryd.underlying75 Tryd.underlying5 Tryd.underlying9 hc
      by_cases hn : n < 0
      · have hit : Lib.itoa n = 45 :: Lib.decDigits n.natAbs := if_pos hn
        have Hit := hid hit; clear hit
        have Hcv := hid hcv; clear hcv
        generalize hDD : Lib.decDigits n.natAbs = dd at *
        go_wp2_with (first
          | (at_builtin; refine wpList_append_own _ rfl _ _ 75 rfl w.heap.size 5 i0 (.int .u8 0) 1 1 Tryd.underlying75 hi hz0 hz1 hz2 rfl (by decide) _ 1 [.int .u8 45] rfl (World.ownsRow_lit _ _ 1 hbs (by unfold maxLen; omega) rfl) ⟨g, 0, none⟩ dd.length cv (dd.map fun b => Value.int .u8 (b.toNat : Int)) rfl (by simp) ((Ho.out.alloc _).cells rfl) (fun x hx => by simp at hx; obtain ⟨b, _, rfl⟩ := hx; rfl) (by unfold maxLen; omega) (by omega) (by simp; omega) ?_; intro v' w3 hown' hgrow3 hnil3
             have hl : ((45 : UInt8) :: dd).length = 1 + dd.length := by simp [Nat.add_comm]
             obtain ⟨g', c', rfl⟩ := Go.Joins.ownsRow_form hown' (by omega)
             have hown2 : w3.ownsRow w.heap.size 5 1 (.slice (some ⟨g', 0, none⟩) (1 + dd.length) c') (1 + dd.length) (((45 : UInt8) :: dd).map fun b => Value.int .u8 (b.toNat : Int)) := hown'
             have hbel := hid ((Hb.out.alloc hbs (.cells #[.int .u8 45] 5)).grown hgrow3 (by simp; omega) (fun q hq => by simp [Value.ownBlock, Act.eval] at hq; omega))
             have hc3 := Hcv.out w3 ((45 : UInt8) :: dd) g' c' (fun j hj => (hown2.cells rfl j _ (by rw [List.getElem?_map, List.getElem?_eq_getElem hj]; rfl)))
             rw [hl] at hc3
             clear hown' hown2 hgrow3 hnil3))
        go_ret
        exact ⟨by rw [Hit.out]; rfl, hbel.out⟩
      · have hit : Lib.itoa n = Lib.decDigits n.natAbs := by
          unfold Lib.itoa
          rw [if_neg hn]
          congr 1
          omega
        have Hit := hid hit; clear hit
        have hc3 := hcv wr (Lib.decDigits n.natAbs) g cv (fun j hj => (Ho.out.cells rfl j _ (by rw [List.getElem?_map, List.getElem?_eq_getElem hj]; rfl)))
        clear hcv
        generalize hDD : Lib.decDigits n.natAbs = dd at *
        go_wp2_with fail
        go_ret
        exact ⟨by rw [Hit.out]; rfl, Hb.out⟩

/-- The library's table of the powers of ten is there. -/
def Tab (w : World) : Prop := Lib.TabIs Tryd.prog w "internal/strconv.uint64pow10" .u64 Lib.pow10Tab
theorem gPow : Tryd.prog.globalNamed "internal/strconv.uint64pow10" = some 3 := by kernel_rfl

theorem Tab.below {w w' : World} (h : Tab w) (hb : Below w.heap.size w w') : Tab w' := by
  have hg := gPow
  have hc := Lib.TabIs.cell h hg 0 (by decide)
  have hlt : 3 < w.heap.size := World.block_lt_of_cell? w _ hc
  unfold Tab Lib.TabIs World.var? at h ⊢
  rw [hg] at h ⊢
  simp only [Option.bind_some] at h ⊢
  rw [hb.block _ hlt]
  exact h

theorem implDecimal_any (n : Int) (w : World) (h0 : -9223372036854775808 ≤ n) (h1 : n ≤ 9223372036854775807) (ht : Tab w) : Calls Tryd.prog 23 #[.int .i64 n] w (RetD n w) := by
  have HF : Hid (∀ W : World, W = w → Calls Tryd.prog 44 #[.int .i64 n, .int .i64 10] W (RetD n W)) := by
    rintro W rfl
    refine (Tryd.strconv_FormatInt_10 n h0 h1 _ ht).mono ?_
    rintro e w' ⟨rfl, k, os, rfl⟩
    exact ⟨rfl, Lib.below_grow _ _ (Nat.le_refl _) k os⟩
  clear ht
  go_enter Tryd.func23, Tryd.ntmps23
  go_wp2_with (go_at_call 44; refine (HF.out _ rfl).mono ?_; rintro e w' ⟨rfl, hb⟩)
  go_ret
  exact ⟨rfl, hb⟩

theorem specDecimal_any (n : Int) (w : World) (h0 : -9223372036854775808 ≤ n) (h1 : n ≤ 9223372036854775807) : Calls Tryd.prog 22 #[.int .i64 n] w (RetD n w) := by
  go_enter Tryd.func22, Tryd.ntmps22
  go_wp2_with (go_at_call 43; refine (l01Dec_any n _ h0 h1).mono ?_; rintro e w' ⟨rfl, hb⟩)
  go_ret
  exact ⟨rfl, hb⟩

theorem FnExactDecimal_walk (n : Int) (w : World) (hn : (Lit.int .i64 n).wf = true) (ht : Tab w) : Calls Tryd.prog 6 #[.int .i64 n] w (Yes w) := by
  have hr : -9223372036854775808 ≤ n ∧ n ≤ 9223372036854775807 := by
    have h : IntKind.i64.min ≤ n ∧ n ≤ 9223372036854775807 := by simpa [Lit.wf] using hn
    have e : IntKind.i64.min = -9223372036854775808 := by decide
    omega
  clear hn
  go_enter Tryd.func6, Tryd.ntmps6
  go_wp2_with fail
  refine (specDecimal_any n _ hr.1 hr.2).mono ?_
  rintro e w1 ⟨rfl, hb1⟩
  have ht1 := ht.below hb1
  go_wp2_with fail
  refine (implDecimal_any n _ hr.1 hr.2 ht1).mono ?_
  rintro e w2 ⟨rfl, hb2⟩
  have hb3 := hb1.trans (hb2.mono hb1.size)
  clear hb1 hb2 ht ht1
  go_wp2_with fail
  all_goals (go_ret; exact ⟨rfl, hb3⟩)
end Go.Proofs.YtfmlebjaopfelaaDoor
