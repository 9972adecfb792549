/-
  Tenths of decibels of N / 64: the kernel's reckoning, part 1 of 6. No conditions.
-/
import Derived.Test.YtcclmlabcihdoaaCirL
namespace Go.Proofs.Ytcclmlabcihdoaa.Fl
open Go
set_option maxRecDepth 100000
theorem rows_1 : rowsC 0 41 = true := by decide +kernel
end Go.Proofs.Ytcclmlabcihdoaa.Fl
