/-
  Tenths of decibels of N / 64: the kernel's reckoning, part 5 of 6. No conditions.
-/
import Derived.Test.YtcclmlabcihdoaaCirL
namespace Go.Proofs.Ytcclmlabcihdoaa.Fl
open Go
set_option maxRecDepth 100000
theorem rows_5 : rowsC 82 9 = true := by decide +kernel
end Go.Proofs.Ytcclmlabcihdoaa.Fl
