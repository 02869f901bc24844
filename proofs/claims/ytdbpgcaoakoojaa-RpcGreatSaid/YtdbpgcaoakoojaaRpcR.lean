/- The walk of rpc's own, whatever the kind. -/
import Derived.Test.YtdbpgcaoakoojaaRpcX
import Derived.Test.YtdbpgcaoakoojaaRpcP
import Derived.Test.YtdbpgcaoakoojaaRpcQ
set_option linter.unusedVariables false
set_option linter.unusedSimpArgs false
namespace Go.Proofs.Ytdbpgcaoakoojaa
open Go.RowKit Lec
theorem own_any (w : World) (m : Rpc) (A : Option Addr) (c : Nat) (hr : Rds w A (entsC m.ents)) (hm : m.ents.length ≤ 4000000000) (hi : 0 ≤ m.idx ∧ m.idx < 9223372036854775808) :
    Calls Try.prog 29 #[rpcV m (.slice A m.ents.length c)] w fun e w' => e = .returned (.tuple #[rpcV (ownR m) (ownV m (.slice A m.ents.length c)), .bool (ownB m)]) ∧ Below w.heap.size w w' := by
  by_cases h1 : m.knd = 1
  · exact own1_any w m h1 A c hr hm hi.1
  by_cases h2 : m.knd = 2
  · exact own2_any w m h2 A c hr hm hi.1
  by_cases h3 : m.knd = 3
  · exact own3_any w m h3 A c hr hm hi
  by_cases h4 : m.knd = 4
  · exact own4_any w m h4 A c hr hm hi.1
  by_cases h5 : m.knd = 5
  · exact own5_any w m h5 A c hr hm hi
  by_cases h6 : m.knd = 6
  · exact own6_any w m h6 A c hr hm hi.1
  exact own0_any w m ⟨h1, h2, h3, h4, h5, h6⟩ A c hr hm hi.1
end Go.Proofs.Ytdbpgcaoakoojaa
