/- Pieces of a slice that is read. -/
import Derived.Test.YtdbpgcaoakoojaaBase
set_option linter.unusedVariables false
set_option linter.unusedSimpArgs false
namespace Lec
open Go Go.RowKit

theorem Rds.drop1 {w : World} {A : Option Addr} {vs : List Value} {c k : Nat} (h : Rds w A vs) (hk : k ≤ vs.length) (hc : vs.length ≤ c) : Rds w (if c = k then A else A.map (·.add k)) (vs.drop k) := by
  intro i v hv
  rw [List.getElem?_drop] at hv
  obtain ⟨a, e, hcell⟩ := h (k + i) v hv
  have hlt : k + i < vs.length := (List.getElem?_eq_some_iff.1 hv).1
  rw [if_neg (by omega), e]
  exact ⟨_, rfl, by rw [add_add]; exact hcell⟩

theorem map_take {α β : Type} (f : α → β) (xs : List α) (k : Nat) : (xs.map f).take k = (xs.take k).map f := List.map_take.symm
theorem map_drop {α β : Type} (f : α → β) (xs : List α) (k : Nat) : (xs.map f).drop k = (xs.drop k).map f := List.map_drop.symm
end Lec
