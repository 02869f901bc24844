/- The walks of a log's end. -/
import Derived.Test.YtdbpgcaoakoojaaEntW
set_option linter.unusedVariables false
set_option linter.unusedSimpArgs false
namespace Lec
open Go Go.RowKit
theorem wrap_id {n : Int} (h : -9223372036854775808 ≤ n ∧ n ≤ 9223372036854775807) : IntKind.i64.wrap n = n := by
  rw [IntWalk.i64_left]; exact IntWalk.wrap64_in n h
end Lec
namespace Go.Proofs.Ytdbpgcaoakoojaa
open Go.RowKit Lec

end Go.Proofs.Ytdbpgcaoakoojaa
