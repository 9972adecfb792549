/-
  Products of phasors of 64ths of turns: the kernel's reckoning, part 4 of 4. No conditions.
-/
import Derived.Test.YtcclmlabcihdoaaCirA
namespace Go.Proofs.Ytcclmlabcihdoaa.Fl
open Go
set_option maxRecDepth 100000
theorem pairs_4 : pairsC 48 16 = true := by decide +kernel
end Go.Proofs.Ytcclmlabcihdoaa.Fl
