/-
  How a slice of bytes that came in is opened (for the rows). No conditions.
-/
import Derived.Laws.Cover2
import Derived.ProofKit
import Derived.OpenShut
import Derived.Test.YtcclmlabcihdoaaCirW
namespace Go.Proofs.Ytcclmlabcihdoaa.Fl
open Go Go.ChangeShapes Go.WideShapes Go.RowKit

section
variable {H : Type} {enc : TypeId × Value → H} {P : Program} {w : World} {base : Nat} {spare : Nat → Bool} {held : Bool}

theorem open_row {t e : TypeId} {a : Option Addr} {len cap : Nat} {d : DataW H} {ps : List MemPlace} (ht : P.underlying t = some (.slice e)) (he : P.underlying e = some (.int .u8)) (hc : P.cellsOf e = 1)
    (hd : DataW.Trod enc P w base spare held t (.slice a len cap) d ps) : ∃ zs, RowU w a len zs := by
  obtain ⟨fuel, h⟩ := hd
  rcases DataW.trod_slice ht h with ⟨h0, _⟩ | ⟨x, len', cap', elems, rest, n, _, h0, _, hb, hl, hm, hlen, hel, hsp, hns⟩
  · simp [Value.cells] at h0
    exact ⟨[], fun i hi => by omega, .inl h0.2.1⟩
  · simp [Value.cells] at h0
    obtain ⟨rfl, rfl, rfl⟩ := h0
    have each : ∀ i, i < len → ∃ b, w.cell? (x.add i) = some (.int .u8 b) ∧ 0 ≤ b ∧ b < 256 := by
      intro i hi
      have h1 := hel i hi
      have h2 : i < elems.length := by omega
      rw [List.getElem?_eq_getElem h2, hc, Nat.mul_one, Option.bind_eq_some_iff] at h1
      obtain ⟨cs', hcs, hy⟩ := h1
      obtain ⟨b, rfl, _, hw⟩ := DataW.trod_int he hy
      have hw' : (decide (0 ≤ b) && decide (b ≤ 255)) = true := hw
      rw [Bool.and_eq_true, decide_eq_true_eq, decide_eq_true_eq] at hw'
      exact ⟨b, cell_of_cells?_one hcs, hw'.1, by omega⟩
    refine ⟨(List.range len).map fun i => match w.cell? (x.add i) with | some (.int _ b) => b | _ => 0, ?_⟩
    refine ⟨fun i hi => ?_, ?_⟩
    · obtain ⟨b, h2, h3, h4⟩ := each i hi
      simp [List.getD, hi, h2]
      omega
    · by_cases h0 : 0 < len
      · refine .inr ?_
        obtain ⟨b0, h1, _, _⟩ := each 0 h0
        obtain ⟨bk, off, sp⟩ := x
        have hs : sp = none := by
          cases sp with
          | none => rfl
          | some s =>
            exfalso
            simp only [Addr.add, if_true, World.cell?] at h1
            split at h1 <;> simp at h1
        subst hs
        refine ⟨bk, off, rfl, fun i hi => ?_⟩
        obtain ⟨b, h2, _, _⟩ := each i hi
        have e1 : (⟨bk, off, none⟩ : Addr).add i = ⟨bk, off + i, none⟩ := by
          unfold Addr.add
          split
          · rename_i h; subst h; rfl
          · rfl
        rw [e1] at h2
        simp [List.getD, hi, e1, h2]
      · exact .inl (by omega)
end
end Go.Proofs.Ytcclmlabcihdoaa.Fl
