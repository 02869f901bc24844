/-
  No cell of these rows narrows 'for every input' (looked for: loops, veiled, ifaces, maps, wideKeys, modest, calm, conditions, laid).
  DERIVED. THE GIVEN ROWS OF THIS SEAT. 8 by the template 'for every input the law returns true; each argument reads behind the call as it read before'; 0 by the template 'total and deterministic' (their statements: YtkjajdhempceaaaTotals.lean).
  GIVEN WITH THE SEED: the statements are not yours to turn. If you find one false, say at which input.
  Laid BY PROGRAM, IN A SANDBOX (cutbox-rows.mjs): the forced cells as the released guide's own fill.sh prints them over the translation 4a75d17db12c7796… (all of the seat's roots in one cut). By AI agents, Wed Nov 11 2026. No macro, syntax, notation, axiom, sorry.
-/
import Derived.Test.YtkjajdhempceaaaChecked
import GoSem.Claim
import GoSem.ClaimJoined
import GoSem.ClaimMapViews
import Derived.JoinedTies
import Derived.KernelRfl
namespace Go.Proofs.Ytkjajdhempceaaa
/- THE CELL 'sum', in the pinned program and in every row, IS THE sha256 OF THE DUMP (.gsa) THAT YtkjajdhempceaaaProg.lean LOADS. Nothing in Lean hashes anything: it is a label: what it is worth is what the hold of that sum in a sandbox is worth. -/
noncomputable def Try.pinned : Pinned := { name := "ytkjajdhempceaaa", sum := "4a75d17db12c7796be036a988ba712e2fb44f3d2f55fe93ff8c624d6b0ac2fd2", checked := Try.checked }
namespace Rows
def none {H : Type} : Left H := { results := [], args := [] }

/-- 'lecternlaw4.SuffixSorts': WHATEVER THE INPUT: true; the input reads as it did. -/
def suffixSortsSpec : ChangeSpec := { name := "suffixSorts", fn := fun _ => fun
  | [d] => { results := [.lit (.bool true)], args := [d] }
  | _ => none }
def suffixSortsRow : OpenClaim := { program := "ytkjajdhempceaaa", sum := "4a75d17db12c7796be036a988ba712e2fb44f3d2f55fe93ff8c624d6b0ac2fd2", func := "lectern/lecternlaw4.SuffixSorts", spec := "suffixSorts", unfollowed := true, recurses := true, apart := false }
def SuffixSortsSaid : Prop := suffixSortsRow.holds Try.pinned (OpenSpec.ofChange suffixSortsSpec)

/-- ITS FALSE NEIGHBOUR: 'it returns false'. Refute it at one input. -/
def suffixSortsWrong : ChangeSpec := { name := "suffixSorts", fn := fun _ => fun
  | [d] => { results := [.lit (.bool false)], args := [d] }
  | _ => none }
def SuffixSortsWrongFalsely : Prop := suffixSortsRow.holds Try.pinned (OpenSpec.ofChange suffixSortsWrong)

/-- 'lecternlaw4.SuffixRuns': WHATEVER THE INPUT: true; the input reads as it did. -/
def suffixRunsSpec : ChangeSpec := { name := "suffixRuns", fn := fun _ => fun
  | [d] => { results := [.lit (.bool true)], args := [d] }
  | _ => none }
def suffixRunsRow : OpenClaim := { program := "ytkjajdhempceaaa", sum := "4a75d17db12c7796be036a988ba712e2fb44f3d2f55fe93ff8c624d6b0ac2fd2", func := "lectern/lecternlaw4.SuffixRuns", spec := "suffixRuns", unfollowed := true, recurses := true, apart := false }
def SuffixRunsSaid : Prop := suffixRunsRow.holds Try.pinned (OpenSpec.ofChange suffixRunsSpec)

/-- ITS FALSE NEIGHBOUR: 'it returns false'. Refute it at one input. -/
def suffixRunsWrong : ChangeSpec := { name := "suffixRuns", fn := fun _ => fun
  | [d] => { results := [.lit (.bool false)], args := [d] }
  | _ => none }
def SuffixRunsWrongFalsely : Prop := suffixRunsRow.holds Try.pinned (OpenSpec.ofChange suffixRunsWrong)

/-- 'lecternlaw5.BwtMakes': WHATEVER THE INPUT: true; the input reads as it did. -/
def bwtMakesSpec : ChangeSpec := { name := "bwtMakes", fn := fun _ => fun
  | [d] => { results := [.lit (.bool true)], args := [d] }
  | _ => none }
def bwtMakesRow : OpenClaim := { program := "ytkjajdhempceaaa", sum := "4a75d17db12c7796be036a988ba712e2fb44f3d2f55fe93ff8c624d6b0ac2fd2", func := "lectern/lecternlaw5.BwtMakes", spec := "bwtMakes", unfollowed := true, recurses := true, apart := false }
def BwtMakesSaid : Prop := bwtMakesRow.holds Try.pinned (OpenSpec.ofChange bwtMakesSpec)

/-- ITS FALSE NEIGHBOUR: 'it returns false'. Refute it at one input. -/
def bwtMakesWrong : ChangeSpec := { name := "bwtMakes", fn := fun _ => fun
  | [d] => { results := [.lit (.bool false)], args := [d] }
  | _ => none }
def BwtMakesWrongFalsely : Prop := bwtMakesRow.holds Try.pinned (OpenSpec.ofChange bwtMakesWrong)

/-- 'lecternlaw4.SuffixCommons': WHATEVER THE INPUT: true; the input reads as it did. -/
def suffixCommonsSpec : ChangeSpec := { name := "suffixCommons", fn := fun _ => fun
  | [d] => { results := [.lit (.bool true)], args := [d] }
  | _ => none }
def suffixCommonsRow : OpenClaim := { program := "ytkjajdhempceaaa", sum := "4a75d17db12c7796be036a988ba712e2fb44f3d2f55fe93ff8c624d6b0ac2fd2", func := "lectern/lecternlaw4.SuffixCommons", spec := "suffixCommons", unfollowed := true, recurses := true, apart := false }
def SuffixCommonsSaid : Prop := suffixCommonsRow.holds Try.pinned (OpenSpec.ofChange suffixCommonsSpec)

/-- ITS FALSE NEIGHBOUR: 'it returns false'. Refute it at one input. -/
def suffixCommonsWrong : ChangeSpec := { name := "suffixCommons", fn := fun _ => fun
  | [d] => { results := [.lit (.bool false)], args := [d] }
  | _ => none }
def SuffixCommonsWrongFalsely : Prop := suffixCommonsRow.holds Try.pinned (OpenSpec.ofChange suffixCommonsWrong)

/-- 'lecternlaw4.SuffixRises': WHATEVER THE INPUT: true; the input reads as it did. -/
def suffixRisesSpec : ChangeSpec := { name := "suffixRises", fn := fun _ => fun
  | [d] => { results := [.lit (.bool true)], args := [d] }
  | _ => none }
def suffixRisesRow : OpenClaim := { program := "ytkjajdhempceaaa", sum := "4a75d17db12c7796be036a988ba712e2fb44f3d2f55fe93ff8c624d6b0ac2fd2", func := "lectern/lecternlaw4.SuffixRises", spec := "suffixRises", unfollowed := true, recurses := true, apart := false }
def SuffixRisesSaid : Prop := suffixRisesRow.holds Try.pinned (OpenSpec.ofChange suffixRisesSpec)

/-- ITS FALSE NEIGHBOUR: 'it returns false'. Refute it at one input. -/
def suffixRisesWrong : ChangeSpec := { name := "suffixRises", fn := fun _ => fun
  | [d] => { results := [.lit (.bool false)], args := [d] }
  | _ => none }
def SuffixRisesWrongFalsely : Prop := suffixRisesRow.holds Try.pinned (OpenSpec.ofChange suffixRisesWrong)

/-- 'lecternlaw5.BwtBacks': WHATEVER THE INPUT: true; the input reads as it did. -/
def bwtBacksSpec : ChangeSpec := { name := "bwtBacks", fn := fun _ => fun
  | [d] => { results := [.lit (.bool true)], args := [d] }
  | _ => none }
def bwtBacksRow : OpenClaim := { program := "ytkjajdhempceaaa", sum := "4a75d17db12c7796be036a988ba712e2fb44f3d2f55fe93ff8c624d6b0ac2fd2", func := "lectern/lecternlaw5.BwtBacks", spec := "bwtBacks", unfollowed := true, recurses := true, apart := false }
def BwtBacksSaid : Prop := bwtBacksRow.holds Try.pinned (OpenSpec.ofChange bwtBacksSpec)

/-- ITS FALSE NEIGHBOUR: 'it returns false'. Refute it at one input. -/
def bwtBacksWrong : ChangeSpec := { name := "bwtBacks", fn := fun _ => fun
  | [d] => { results := [.lit (.bool false)], args := [d] }
  | _ => none }
def BwtBacksWrongFalsely : Prop := bwtBacksRow.holds Try.pinned (OpenSpec.ofChange bwtBacksWrong)

/-- 'lecternlaw5.BwtUndo': WHATEVER THE INPUT: true; the input reads as it did. -/
def bwtUndoSpec : ChangeSpec := { name := "bwtUndo", fn := fun _ => fun
  | [d] => { results := [.lit (.bool true)], args := [d] }
  | _ => none }
def bwtUndoRow : OpenClaim := { program := "ytkjajdhempceaaa", sum := "4a75d17db12c7796be036a988ba712e2fb44f3d2f55fe93ff8c624d6b0ac2fd2", func := "lectern/lecternlaw5.BwtUndo", spec := "bwtUndo", unfollowed := true, recurses := true, apart := false }
def BwtUndoSaid : Prop := bwtUndoRow.holds Try.pinned (OpenSpec.ofChange bwtUndoSpec)

/-- ITS FALSE NEIGHBOUR: 'it returns false'. Refute it at one input. -/
def bwtUndoWrong : ChangeSpec := { name := "bwtUndo", fn := fun _ => fun
  | [d] => { results := [.lit (.bool false)], args := [d] }
  | _ => none }
def BwtUndoWrongFalsely : Prop := bwtUndoRow.holds Try.pinned (OpenSpec.ofChange bwtUndoWrong)

/-- 'lecternlaw5.BwtRuns': WHATEVER THE INPUT: true; the input reads as it did. -/
def bwtRunsSpec : ChangeSpec := { name := "bwtRuns", fn := fun _ => fun
  | [d] => { results := [.lit (.bool true)], args := [d] }
  | _ => none }
def bwtRunsRow : OpenClaim := { program := "ytkjajdhempceaaa", sum := "4a75d17db12c7796be036a988ba712e2fb44f3d2f55fe93ff8c624d6b0ac2fd2", func := "lectern/lecternlaw5.BwtRuns", spec := "bwtRuns", unfollowed := true, recurses := true, apart := false }
def BwtRunsSaid : Prop := bwtRunsRow.holds Try.pinned (OpenSpec.ofChange bwtRunsSpec)

/-- ITS FALSE NEIGHBOUR: 'it returns false'. Refute it at one input. -/
def bwtRunsWrong : ChangeSpec := { name := "bwtRuns", fn := fun _ => fun
  | [d] => { results := [.lit (.bool false)], args := [d] }
  | _ => none }
def BwtRunsWrongFalsely : Prop := bwtRunsRow.holds Try.pinned (OpenSpec.ofChange bwtRunsWrong)

/- THE SECOND FORM. 'bulk': how many values and letters a reading holds, each counted each time it is reached (what is shared counts as often as it is met; a slice's spare places count too). A statement '..UptoSaid' is the law's where the arguments, and the package variables that the reading takes, are together of bulk at most 1048576: NARROWER than '..Said'. Prove '..Said' where nothing that the law and all that it calls make is longer than what came in: it says more and counts as full. Else prove '..UptoSaid'. A law counts once. -/
mutual
def uptoBulk {H : Type} : DataW H → Nat
  | .lit (.string bytes) => bytes.length + 1
  | .lit _ => 1
  | .nil => 1
  | .ptr d => uptoBulk d + 1
  | .slice elems spare => uptoBulkAll elems + uptoBulkAll spare + 1
  | .agg parts => uptoBulkAll parts + 1
  | .iface _ d => uptoBulk d + 1
  | .map entries => uptoBulkEntries entries + 1
  | .held _ => 1
def uptoBulkAll {H : Type} : List (DataW H) → Nat
  | [] => 0
  | d :: r => uptoBulk d + uptoBulkAll r
def uptoBulkEntries {H : Type} : List (Lit × DataW H) → Nat
  | [] => 0
  | x :: r => uptoBulkEntry x + uptoBulkEntries r
def uptoBulkEntry {H : Type} : Lit × DataW H → Nat
  | (.string bytes, d) => bytes.length + uptoBulk d + 1
  | (_, d) => uptoBulk d + 1
 end
def uptoSmall : (H : Type) → List (DataW H) → Bool := fun _ ds => decide (uptoBulkAll ds ≤ 1048576)
def OpenSpec.upto (s : _root_.Go.ChangeSpec) : _root_.Go.OpenSpec := { _root_.Go.OpenSpec.ofChange s with cond := some uptoSmall }

/-- 'lecternlaw4.SuffixSorts', WHERE WHAT IT READS IS OF BULK AT MOST 1048576: true; the input reads as it did. -/
def suffixSortsUptoRow : OpenClaim := { program := "ytkjajdhempceaaa", sum := "4a75d17db12c7796be036a988ba712e2fb44f3d2f55fe93ff8c624d6b0ac2fd2", func := "lectern/lecternlaw4.SuffixSorts", spec := "suffixSorts", unfollowed := true, recurses := true, apart := false, narrowed := true }
def SuffixSortsUptoSaid : Prop := suffixSortsUptoRow.holds Try.pinned (OpenSpec.upto suffixSortsSpec)

/-- 'lecternlaw4.SuffixRuns', WHERE WHAT IT READS IS OF BULK AT MOST 1048576: true; the input reads as it did. -/
def suffixRunsUptoRow : OpenClaim := { program := "ytkjajdhempceaaa", sum := "4a75d17db12c7796be036a988ba712e2fb44f3d2f55fe93ff8c624d6b0ac2fd2", func := "lectern/lecternlaw4.SuffixRuns", spec := "suffixRuns", unfollowed := true, recurses := true, apart := false, narrowed := true }
def SuffixRunsUptoSaid : Prop := suffixRunsUptoRow.holds Try.pinned (OpenSpec.upto suffixRunsSpec)

/-- 'lecternlaw5.BwtMakes', WHERE WHAT IT READS IS OF BULK AT MOST 1048576: true; the input reads as it did. -/
def bwtMakesUptoRow : OpenClaim := { program := "ytkjajdhempceaaa", sum := "4a75d17db12c7796be036a988ba712e2fb44f3d2f55fe93ff8c624d6b0ac2fd2", func := "lectern/lecternlaw5.BwtMakes", spec := "bwtMakes", unfollowed := true, recurses := true, apart := false, narrowed := true }
def BwtMakesUptoSaid : Prop := bwtMakesUptoRow.holds Try.pinned (OpenSpec.upto bwtMakesSpec)

/-- 'lecternlaw4.SuffixCommons', WHERE WHAT IT READS IS OF BULK AT MOST 1048576: true; the input reads as it did. -/
def suffixCommonsUptoRow : OpenClaim := { program := "ytkjajdhempceaaa", sum := "4a75d17db12c7796be036a988ba712e2fb44f3d2f55fe93ff8c624d6b0ac2fd2", func := "lectern/lecternlaw4.SuffixCommons", spec := "suffixCommons", unfollowed := true, recurses := true, apart := false, narrowed := true }
def SuffixCommonsUptoSaid : Prop := suffixCommonsUptoRow.holds Try.pinned (OpenSpec.upto suffixCommonsSpec)

/-- 'lecternlaw4.SuffixRises', WHERE WHAT IT READS IS OF BULK AT MOST 1048576: true; the input reads as it did. -/
def suffixRisesUptoRow : OpenClaim := { program := "ytkjajdhempceaaa", sum := "4a75d17db12c7796be036a988ba712e2fb44f3d2f55fe93ff8c624d6b0ac2fd2", func := "lectern/lecternlaw4.SuffixRises", spec := "suffixRises", unfollowed := true, recurses := true, apart := false, narrowed := true }
def SuffixRisesUptoSaid : Prop := suffixRisesUptoRow.holds Try.pinned (OpenSpec.upto suffixRisesSpec)

/-- 'lecternlaw5.BwtBacks', WHERE WHAT IT READS IS OF BULK AT MOST 1048576: true; the input reads as it did. -/
def bwtBacksUptoRow : OpenClaim := { program := "ytkjajdhempceaaa", sum := "4a75d17db12c7796be036a988ba712e2fb44f3d2f55fe93ff8c624d6b0ac2fd2", func := "lectern/lecternlaw5.BwtBacks", spec := "bwtBacks", unfollowed := true, recurses := true, apart := false, narrowed := true }
def BwtBacksUptoSaid : Prop := bwtBacksUptoRow.holds Try.pinned (OpenSpec.upto bwtBacksSpec)

/-- 'lecternlaw5.BwtUndo', WHERE WHAT IT READS IS OF BULK AT MOST 1048576: true; the input reads as it did. -/
def bwtUndoUptoRow : OpenClaim := { program := "ytkjajdhempceaaa", sum := "4a75d17db12c7796be036a988ba712e2fb44f3d2f55fe93ff8c624d6b0ac2fd2", func := "lectern/lecternlaw5.BwtUndo", spec := "bwtUndo", unfollowed := true, recurses := true, apart := false, narrowed := true }
def BwtUndoUptoSaid : Prop := bwtUndoUptoRow.holds Try.pinned (OpenSpec.upto bwtUndoSpec)

/-- 'lecternlaw5.BwtRuns', WHERE WHAT IT READS IS OF BULK AT MOST 1048576: true; the input reads as it did. -/
def bwtRunsUptoRow : OpenClaim := { program := "ytkjajdhempceaaa", sum := "4a75d17db12c7796be036a988ba712e2fb44f3d2f55fe93ff8c624d6b0ac2fd2", func := "lectern/lecternlaw5.BwtRuns", spec := "bwtRuns", unfollowed := true, recurses := true, apart := false, narrowed := true }
def BwtRunsUptoSaid : Prop := bwtRunsUptoRow.holds Try.pinned (OpenSpec.upto bwtRunsSpec)

end Rows
end Go.Proofs.Ytkjajdhempceaaa
