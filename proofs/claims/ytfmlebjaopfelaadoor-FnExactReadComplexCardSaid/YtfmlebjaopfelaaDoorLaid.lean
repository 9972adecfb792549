/-
  What the rows' condition on the library's variables gives: an entry of the list is what the variable reads as. No conditions.
-/
import Derived.Test.YtfmlebjaopfelaaDoorDec
import Derived.MakeChecks
import Derived.ProofKit
namespace Go.Proofs.YtfmlebjaopfelaaDoor
open Go Go.RowKit

theorem entry_of {P : Program} {w : World} : ∀ {laid : List (String × DataW Unit)} {ps : List MemPlace}, DataW.LaidVars P w laid ps → ∀ (name : String) (d : DataW Unit), (name, d) ∈ laid →
    ∃ g t cs fuel p, P.globalNamed name = some g ∧ (P.globals[g]?).map (·.type) = some t ∧ w.var? P name = some cs ∧ DataW.trod (fun _ => ()) P w 0 (fun _ => true) false fuel t cs.toList = some (d, p)
  | [], _, _, name, d, hm => by cases hm
  | (n, e) :: r, ps, h, name, d, hm => by
    obtain ⟨g, t, cs, fuel, p, q, h1, h2, h3, h4, h5, _⟩ := h
    rcases List.mem_cons.1 hm with he | hr
    · cases he
      exact ⟨g, t, cs, fuel, p, h1, h2, h3, h4⟩
    · exact entry_of h5 name d hr

theorem gPowType : (Tryd.prog.globals[3]?).map (·.type) = some 113 := by kernel_rfl
theorem cells20 : Tryd.prog.cellsOf 113 = 20 := by kernel_rfl
theorem cells1u : Tryd.prog.cellsOf 84 = 1 := by kernel_rfl

theorem tab_of {laid : List (String × DataW Unit)} {W : World} (h : laidMetH Tryd.prog laid W) (hp : (laid.all fun x => x.2.handleName?.isNone) = true) (hm : ("internal/strconv.uint64pow10", Rows.laid_internal_strconv_uint64pow10) ∈ laid) : Tab W := by
  rw [MakeChecks.laidMetH_plain _ _ _ hp] at h
  obtain ⟨ps, hl, _⟩ := h
  obtain ⟨g, t, cs, fuel, p, h1, h2, h3, h4⟩ := entry_of hl _ _ hm
  obtain rfl := Option.some.inj (gPow.symm.trans h1)
  obtain rfl := Option.some.inj (gPowType.symm.trans h2)
  have h5 : DataW.trod (fun _ => ()) Tryd.prog W 0 (fun _ => true) false fuel 113 cs.toList = some (Lib.tabData .u64 Lib.pow10Tab, p) := h4
  unfold Tab Lib.TabIs
  rw [h3, ← Lib.cells_of_tab Tryd.underlying113 Tryd.underlying84 cells1u cells20 h5]

theorem trod_iface {H : Type} {enc : TypeId × Value → H} {P : Program} {w : World} {base : Nat} {sp : Nat → Bool} {fuel : Nat} {t : TypeId} {ms : Array (String × TypeId)} {cs : List Value} {nm : String} {d : DataW H} {p : List MemPlace} (ht : P.underlying t = some (.interface ms))
    (h : DataW.trod enc P w base sp false fuel t cs = some (.iface nm d, p)) : ∃ u y, cs = [.iface u y] := by
  cases fuel with
  | zero => simp [DataW.trod] at h
  | succ n =>
    unfold DataW.trod at h
    rw [ht] at h
    split at h <;> simp_all
end Go.Proofs.YtfmlebjaopfelaaDoor
