/-
  Tenths of decibels of N / 64: the kernel's reckoning, part 2 of 6. No conditions.
-/
import Derived.Test.YtcclmlabcihdoaaCirL
namespace Go.Proofs.Ytcclmlabcihdoaa.Fl
open Go
set_option maxRecDepth 100000
theorem rows_2 : rowsC 41 17 = true := by decide +kernel
end Go.Proofs.Ytcclmlabcihdoaa.Fl
