/-
  What the rows' condition gives of the library's two errors. No conditions.
-/
import Derived.Test.YtfmlebjaopfelaaDoorLaid
import Derived.Test.YtfmlebjaopfelaaDoorRead
namespace Go.Proofs.YtfmlebjaopfelaaDoor
open Go Go.RowKit

theorem gSynType : (Tryd.prog.globals[1]?).map (·.type) = some 61 := by kernel_rfl
theorem gRanType : (Tryd.prog.globals[2]?).map (·.type) = some 61 := by kernel_rfl

theorem errs_of {laid : List (String × DataW Unit)} {W : World} (h : laidMetH Tryd.prog laid W) (hp : (laid.all fun x => x.2.handleName?.isNone) = true) (hs : ("strconv.ErrSyntax", Rows.laid_strconv_ErrSyntax) ∈ laid) (hr : ("strconv.ErrRange", Rows.laid_strconv_ErrRange) ∈ laid) : Errs W := by
  rw [MakeChecks.laidMetH_plain _ _ _ hp] at h
  obtain ⟨ps, hl, _⟩ := h
  constructor
  · obtain ⟨g, t, cs, fuel, p, h1, h2, h3, h4⟩ := entry_of hl _ _ hs
    obtain rfl := Option.some.inj (gSyn.symm.trans h1)
    obtain rfl := Option.some.inj (gSynType.symm.trans h2)
    obtain ⟨u, y, e⟩ := trod_iface Tryd.underlying61 h4
    obtain ⟨l⟩ := cs
    simp only at e
    subst e
    exact ⟨u, y, h3⟩
  · obtain ⟨g, t, cs, fuel, p, h1, h2, h3, h4⟩ := entry_of hl _ _ hr
    obtain rfl := Option.some.inj (gRan.symm.trans h1)
    obtain rfl := Option.some.inj (gRanType.symm.trans h2)
    obtain ⟨u, y, e⟩ := trod_iface Tryd.underlying61 h4
    obtain ⟨l⟩ := cs
    simp only at e
    subst e
    exact ⟨u, y, h3⟩
end Go.Proofs.YtfmlebjaopfelaaDoor
