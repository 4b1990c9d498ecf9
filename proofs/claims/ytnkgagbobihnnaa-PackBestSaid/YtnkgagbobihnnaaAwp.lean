/-
  The example's values.
-/
import Derived.Test.YtnkgagbobihnnaaPkk
import Derived.Test.YtnkgagbobihnnaaTur
import Derived.Test.YtnkgagbobihnnaaLgt
import Derived.Test.YtnkgagbobihnnaaCod
import Derived.Test.YtnkgagbobihnnaaRuns
namespace Go.Proofs.Ytnkgagbobihnnaa

def banana : List UInt8 := [98, 97, 110, 97, 110, 97]
theorem aw_turn : turnP banana = ([110, 110, 98, 97, 97, 97], 3) := by decide +kernel
theorem aw_lengths : lengthsP [5, 1, 1, 2] = (0, [1, 3, 3, 2]) := by decide +kernel
theorem aw_codes : codesP [1, 3, 3, 2] = (0, [0, 6, 7, 2]) := by decide +kernel
theorem aw_runs : runsP [0, 0, 5, 0] = [1, 6, 0, 257] := by decide +kernel
theorem aw_pack : (packP banana).length = 11 := by decide +kernel
theorem aw_small : ¬ (smallP banana).length < 6 := by decide +kernel
end Go.Proofs.Ytnkgagbobihnnaa
