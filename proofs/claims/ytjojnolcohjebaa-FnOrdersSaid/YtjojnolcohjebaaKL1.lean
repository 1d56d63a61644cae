/-
  Laws of chapter 10: layouts, coupling, exchanges (contracts).
-/
import Derived.Test.YtjojnolcohjebaaK7
import Derived.Test.YtjojnolcohjebaaKV
namespace Go.Sx.U
set_option linter.unusedVariables false
set_option linter.unusedSimpArgs false
set_option maxRecDepth 100000
set_option maxHeartbeats 8000000
open Go Go.Sx Go.Proofs Go.Sx.M0

end Go.Sx.U
