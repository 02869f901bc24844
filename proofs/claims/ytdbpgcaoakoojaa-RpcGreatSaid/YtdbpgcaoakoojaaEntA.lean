/- The walks of entries.At, Check, Last, Term. -/
import Derived.Test.YtdbpgcaoakoojaaEntE
set_option linter.unusedVariables false
set_option linter.unusedSimpArgs false
namespace Lec
/-- The term of an index, if it is there. -/
def atE (b t : Int) (es : List Ent) (i : Int) : Option Int :=
  if i = b then some t else if i < b ∨ b + es.length < i then none else (es[(i - b - 1).toNat]?).map (·.2.1)
theorem atE_base (b t : Int) (es : List Ent) : atE b t es b = some t := by unfold atE; rw [if_pos rfl]
theorem atE_out {b t i : Int} {es : List Ent} (h : i < b ∨ b + es.length < i) : atE b t es i = none := by
  unfold atE; rw [if_neg (by omega), if_pos h]
theorem atE_in {b t : Int} {es : List Ent} {k : Nat} (h : k < es.length) : atE b t es (b + 1 + k) = some es[k].2.1 := by
  unfold atE; rw [if_neg (by omega), if_neg (by omega), show (b + 1 + k - b - 1 : Int).toNat = k by omega, List.getElem?_eq_getElem h]; rfl
end Lec
namespace Go.Proofs.Ytdbpgcaoakoojaa
open Go.RowKit Lec
end Go.Proofs.Ytdbpgcaoakoojaa
