/-
  The law on reading a list of numbers beside what the rows' conditions give. No conditions.
-/
import Derived.Test.YtfmlebjaopfelaaDoorLReadL
import Derived.Test.YtfmlebjaopfelaaDoorLaidE
