/-
  No cell of these rows narrows 'for every input' (looked for: loops, veiled, ifaces, maps, wideKeys, modest, calm, conditions, laid).
  DERIVED. THE GIVEN ROWS OF THIS SEAT. 8 by the template 'for every input the law returns true; each argument reads behind the call as it read before'; 0 by the template 'total and deterministic' (their statements: YtfiioobdknbacaaTotals.lean).
  GIVEN WITH THE SEED: the statements are not yours to turn. If you find one false, say at which input.
  Laid BY PROGRAM, IN A SANDBOX (cutbox-rows.mjs): the forced cells as the released guide's own fill.sh prints them over the translation 8e1b26ae62bc84f7… (all of the seat's roots in one cut). By AI agents, Wed Nov 11 2026. No macro, syntax, notation, axiom, sorry.
-/
import Derived.Test.YtfiioobdknbacaaChecked
import GoSem.Claim
import GoSem.ClaimJoined
import GoSem.ClaimMapViews
import Derived.JoinedTies
import Derived.KernelRfl
namespace Go.Proofs.Ytfiioobdknbacaa
/- THE CELL 'sum', in the pinned program and in every row, IS THE sha256 OF THE DUMP (.gsa) THAT YtfiioobdknbacaaProg.lean LOADS. Nothing in Lean hashes anything: it is a label: what it is worth is what the hold of that sum in a sandbox is worth. -/
noncomputable def Try.pinned : Pinned := { name := "ytfiioobdknbacaa", sum := "8e1b26ae62bc84f7807c5b1993b028fea24d86ba3f4fea4e70bd307db2db11c6", checked := Try.checked }
namespace Rows
def none {H : Type} : Left H := { results := [], args := [] }

/-- 'lecternlaw25.RpcAny': WHATEVER THE INPUT: true; the input reads as it did. -/
def rpcAnySpec : ChangeSpec := { name := "rpcAny", fn := fun _ => fun
  | [d] => { results := [.lit (.bool true)], args := [d] }
  | _ => none }
def rpcAnyRow : OpenClaim := { program := "ytfiioobdknbacaa", sum := "8e1b26ae62bc84f7807c5b1993b028fea24d86ba3f4fea4e70bd307db2db11c6", func := "lectern/lecternlaw25.RpcAny", spec := "rpcAny", apart := false }
def RpcAnySaid : Prop := rpcAnyRow.holds Try.pinned (OpenSpec.ofChange rpcAnySpec)

/-- ITS FALSE NEIGHBOUR: 'it returns false'. Refute it at one input. -/
def rpcAnyWrong : ChangeSpec := { name := "rpcAny", fn := fun _ => fun
  | [d] => { results := [.lit (.bool false)], args := [d] }
  | _ => none }
def RpcAnyWrongFalsely : Prop := rpcAnyRow.holds Try.pinned (OpenSpec.ofChange rpcAnyWrong)

/-- 'lecternlaw25.RpcGreat': WHATEVER THE INPUT: true; the input reads as it did. -/
def rpcGreatSpec : ChangeSpec := { name := "rpcGreat", fn := fun _ => fun
  | [d] => { results := [.lit (.bool true)], args := [d] }
  | _ => none }
def rpcGreatRow : OpenClaim := { program := "ytfiioobdknbacaa", sum := "8e1b26ae62bc84f7807c5b1993b028fea24d86ba3f4fea4e70bd307db2db11c6", func := "lectern/lecternlaw25.RpcGreat", spec := "rpcGreat", apart := false }
def RpcGreatSaid : Prop := rpcGreatRow.holds Try.pinned (OpenSpec.ofChange rpcGreatSpec)

/-- ITS FALSE NEIGHBOUR: 'it returns false'. Refute it at one input. -/
def rpcGreatWrong : ChangeSpec := { name := "rpcGreat", fn := fun _ => fun
  | [d] => { results := [.lit (.bool false)], args := [d] }
  | _ => none }
def RpcGreatWrongFalsely : Prop := rpcGreatRow.holds Try.pinned (OpenSpec.ofChange rpcGreatWrong)

/-- 'lecternlaw6.FmFinds': WHATEVER THE INPUT: true; the input reads as it did. -/
def fmFindsSpec : ChangeSpec := { name := "fmFinds", fn := fun _ => fun
  | [d] => { results := [.lit (.bool true)], args := [d] }
  | _ => none }
def fmFindsRow : OpenClaim := { program := "ytfiioobdknbacaa", sum := "8e1b26ae62bc84f7807c5b1993b028fea24d86ba3f4fea4e70bd307db2db11c6", func := "lectern/lecternlaw6.FmFinds", spec := "fmFinds", unfollowed := true, recurses := true, apart := false }
def FmFindsSaid : Prop := fmFindsRow.holds Try.pinned (OpenSpec.ofChange fmFindsSpec)

/-- ITS FALSE NEIGHBOUR: 'it returns false'. Refute it at one input. -/
def fmFindsWrong : ChangeSpec := { name := "fmFinds", fn := fun _ => fun
  | [d] => { results := [.lit (.bool false)], args := [d] }
  | _ => none }
def FmFindsWrongFalsely : Prop := fmFindsRow.holds Try.pinned (OpenSpec.ofChange fmFindsWrong)

/-- 'lecternlaw6.FmRows': WHATEVER THE INPUT: true; the input reads as it did. -/
def fmRowsSpec : ChangeSpec := { name := "fmRows", fn := fun _ => fun
  | [d] => { results := [.lit (.bool true)], args := [d] }
  | _ => none }
def fmRowsRow : OpenClaim := { program := "ytfiioobdknbacaa", sum := "8e1b26ae62bc84f7807c5b1993b028fea24d86ba3f4fea4e70bd307db2db11c6", func := "lectern/lecternlaw6.FmRows", spec := "fmRows", unfollowed := true, recurses := true, apart := false }
def FmRowsSaid : Prop := fmRowsRow.holds Try.pinned (OpenSpec.ofChange fmRowsSpec)

/-- ITS FALSE NEIGHBOUR: 'it returns false'. Refute it at one input. -/
def fmRowsWrong : ChangeSpec := { name := "fmRows", fn := fun _ => fun
  | [d] => { results := [.lit (.bool false)], args := [d] }
  | _ => none }
def FmRowsWrongFalsely : Prop := fmRowsRow.holds Try.pinned (OpenSpec.ofChange fmRowsWrong)

/-- 'lecternlaw6.FmHolds': WHATEVER THE INPUT: true; the input reads as it did. -/
def fmHoldsSpec : ChangeSpec := { name := "fmHolds", fn := fun _ => fun
  | [d] => { results := [.lit (.bool true)], args := [d] }
  | _ => none }
def fmHoldsRow : OpenClaim := { program := "ytfiioobdknbacaa", sum := "8e1b26ae62bc84f7807c5b1993b028fea24d86ba3f4fea4e70bd307db2db11c6", func := "lectern/lecternlaw6.FmHolds", spec := "fmHolds", unfollowed := true, recurses := true, apart := false }
def FmHoldsSaid : Prop := fmHoldsRow.holds Try.pinned (OpenSpec.ofChange fmHoldsSpec)

/-- ITS FALSE NEIGHBOUR: 'it returns false'. Refute it at one input. -/
def fmHoldsWrong : ChangeSpec := { name := "fmHolds", fn := fun _ => fun
  | [d] => { results := [.lit (.bool false)], args := [d] }
  | _ => none }
def FmHoldsWrongFalsely : Prop := fmHoldsRow.holds Try.pinned (OpenSpec.ofChange fmHoldsWrong)

/-- 'lecternlaw6.FmAll': WHATEVER THE INPUT: true; the input reads as it did. -/
def fmAllSpec : ChangeSpec := { name := "fmAll", fn := fun _ => fun
  | [d] => { results := [.lit (.bool true)], args := [d] }
  | _ => none }
def fmAllRow : OpenClaim := { program := "ytfiioobdknbacaa", sum := "8e1b26ae62bc84f7807c5b1993b028fea24d86ba3f4fea4e70bd307db2db11c6", func := "lectern/lecternlaw6.FmAll", spec := "fmAll", unfollowed := true, recurses := true, apart := false }
def FmAllSaid : Prop := fmAllRow.holds Try.pinned (OpenSpec.ofChange fmAllSpec)

/-- ITS FALSE NEIGHBOUR: 'it returns false'. Refute it at one input. -/
def fmAllWrong : ChangeSpec := { name := "fmAll", fn := fun _ => fun
  | [d] => { results := [.lit (.bool false)], args := [d] }
  | _ => none }
def FmAllWrongFalsely : Prop := fmAllRow.holds Try.pinned (OpenSpec.ofChange fmAllWrong)

/-- 'lecternlaw6.FmPlaces': WHATEVER THE INPUT: true; the input reads as it did. -/
def fmPlacesSpec : ChangeSpec := { name := "fmPlaces", fn := fun _ => fun
  | [d] => { results := [.lit (.bool true)], args := [d] }
  | _ => none }
def fmPlacesRow : OpenClaim := { program := "ytfiioobdknbacaa", sum := "8e1b26ae62bc84f7807c5b1993b028fea24d86ba3f4fea4e70bd307db2db11c6", func := "lectern/lecternlaw6.FmPlaces", spec := "fmPlaces", unfollowed := true, recurses := true, apart := false }
def FmPlacesSaid : Prop := fmPlacesRow.holds Try.pinned (OpenSpec.ofChange fmPlacesSpec)

/-- ITS FALSE NEIGHBOUR: 'it returns false'. Refute it at one input. -/
def fmPlacesWrong : ChangeSpec := { name := "fmPlaces", fn := fun _ => fun
  | [d] => { results := [.lit (.bool false)], args := [d] }
  | _ => none }
def FmPlacesWrongFalsely : Prop := fmPlacesRow.holds Try.pinned (OpenSpec.ofChange fmPlacesWrong)

/-- 'lecternlaw6.FmTree': WHATEVER THE INPUT: true; the input reads as it did. -/
def fmTreeSpec : ChangeSpec := { name := "fmTree", fn := fun _ => fun
  | [d] => { results := [.lit (.bool true)], args := [d] }
  | _ => none }
def fmTreeRow : OpenClaim := { program := "ytfiioobdknbacaa", sum := "8e1b26ae62bc84f7807c5b1993b028fea24d86ba3f4fea4e70bd307db2db11c6", func := "lectern/lecternlaw6.FmTree", spec := "fmTree", unfollowed := true, recurses := true, apart := false }
def FmTreeSaid : Prop := fmTreeRow.holds Try.pinned (OpenSpec.ofChange fmTreeSpec)

/-- ITS FALSE NEIGHBOUR: 'it returns false'. Refute it at one input. -/
def fmTreeWrong : ChangeSpec := { name := "fmTree", fn := fun _ => fun
  | [d] => { results := [.lit (.bool false)], args := [d] }
  | _ => none }
def FmTreeWrongFalsely : Prop := fmTreeRow.holds Try.pinned (OpenSpec.ofChange fmTreeWrong)

/- THE SECOND FORM. 'bulk': how many values and letters a reading holds, each counted each time it is reached (what is shared counts as often as it is met; a slice's spare places count too). A statement '..UptoSaid' is the law's where the arguments, and the package variables that the reading takes, are together of bulk at most 1048576: NARROWER than '..Said'. Prove '..Said' where nothing that the law and all that it calls make is longer than what came in: it says more and counts as full. Else prove '..UptoSaid'. A law counts once. -/
mutual
def uptoBulk {H : Type} : DataW H → Nat
  | .lit (.string bytes) => bytes.length + 1
  | .lit _ => 1
  | .nil => 1
  | .ptr d => uptoBulk d + 1
  | .slice elems spare => uptoBulkAll elems + uptoBulkAll spare + 1
  | .agg parts => uptoBulkAll parts + 1
  | .iface _ d => uptoBulk d + 1
  | .map entries => uptoBulkEntries entries + 1
  | .held _ => 1
def uptoBulkAll {H : Type} : List (DataW H) → Nat
  | [] => 0
  | d :: r => uptoBulk d + uptoBulkAll r
def uptoBulkEntries {H : Type} : List (Lit × DataW H) → Nat
  | [] => 0
  | x :: r => uptoBulkEntry x + uptoBulkEntries r
def uptoBulkEntry {H : Type} : Lit × DataW H → Nat
  | (.string bytes, d) => bytes.length + uptoBulk d + 1
  | (_, d) => uptoBulk d + 1
 end
def uptoSmall : (H : Type) → List (DataW H) → Bool := fun _ ds => decide (uptoBulkAll ds ≤ 1048576)
def OpenSpec.upto (s : _root_.Go.ChangeSpec) : _root_.Go.OpenSpec := { _root_.Go.OpenSpec.ofChange s with cond := some uptoSmall }

/-- 'lecternlaw25.RpcAny', WHERE WHAT IT READS IS OF BULK AT MOST 1048576: true; the input reads as it did. -/
def rpcAnyUptoRow : OpenClaim := { program := "ytfiioobdknbacaa", sum := "8e1b26ae62bc84f7807c5b1993b028fea24d86ba3f4fea4e70bd307db2db11c6", func := "lectern/lecternlaw25.RpcAny", spec := "rpcAny", apart := false, narrowed := true }
def RpcAnyUptoSaid : Prop := rpcAnyUptoRow.holds Try.pinned (OpenSpec.upto rpcAnySpec)

/-- 'lecternlaw25.RpcGreat', WHERE WHAT IT READS IS OF BULK AT MOST 1048576: true; the input reads as it did. -/
def rpcGreatUptoRow : OpenClaim := { program := "ytfiioobdknbacaa", sum := "8e1b26ae62bc84f7807c5b1993b028fea24d86ba3f4fea4e70bd307db2db11c6", func := "lectern/lecternlaw25.RpcGreat", spec := "rpcGreat", apart := false, narrowed := true }
def RpcGreatUptoSaid : Prop := rpcGreatUptoRow.holds Try.pinned (OpenSpec.upto rpcGreatSpec)

/-- 'lecternlaw6.FmFinds', WHERE WHAT IT READS IS OF BULK AT MOST 1048576: true; the input reads as it did. -/
def fmFindsUptoRow : OpenClaim := { program := "ytfiioobdknbacaa", sum := "8e1b26ae62bc84f7807c5b1993b028fea24d86ba3f4fea4e70bd307db2db11c6", func := "lectern/lecternlaw6.FmFinds", spec := "fmFinds", unfollowed := true, recurses := true, apart := false, narrowed := true }
def FmFindsUptoSaid : Prop := fmFindsUptoRow.holds Try.pinned (OpenSpec.upto fmFindsSpec)

/-- 'lecternlaw6.FmRows', WHERE WHAT IT READS IS OF BULK AT MOST 1048576: true; the input reads as it did. -/
def fmRowsUptoRow : OpenClaim := { program := "ytfiioobdknbacaa", sum := "8e1b26ae62bc84f7807c5b1993b028fea24d86ba3f4fea4e70bd307db2db11c6", func := "lectern/lecternlaw6.FmRows", spec := "fmRows", unfollowed := true, recurses := true, apart := false, narrowed := true }
def FmRowsUptoSaid : Prop := fmRowsUptoRow.holds Try.pinned (OpenSpec.upto fmRowsSpec)

/-- 'lecternlaw6.FmHolds', WHERE WHAT IT READS IS OF BULK AT MOST 1048576: true; the input reads as it did. -/
def fmHoldsUptoRow : OpenClaim := { program := "ytfiioobdknbacaa", sum := "8e1b26ae62bc84f7807c5b1993b028fea24d86ba3f4fea4e70bd307db2db11c6", func := "lectern/lecternlaw6.FmHolds", spec := "fmHolds", unfollowed := true, recurses := true, apart := false, narrowed := true }
def FmHoldsUptoSaid : Prop := fmHoldsUptoRow.holds Try.pinned (OpenSpec.upto fmHoldsSpec)

/-- 'lecternlaw6.FmAll', WHERE WHAT IT READS IS OF BULK AT MOST 1048576: true; the input reads as it did. -/
def fmAllUptoRow : OpenClaim := { program := "ytfiioobdknbacaa", sum := "8e1b26ae62bc84f7807c5b1993b028fea24d86ba3f4fea4e70bd307db2db11c6", func := "lectern/lecternlaw6.FmAll", spec := "fmAll", unfollowed := true, recurses := true, apart := false, narrowed := true }
def FmAllUptoSaid : Prop := fmAllUptoRow.holds Try.pinned (OpenSpec.upto fmAllSpec)

/-- 'lecternlaw6.FmPlaces', WHERE WHAT IT READS IS OF BULK AT MOST 1048576: true; the input reads as it did. -/
def fmPlacesUptoRow : OpenClaim := { program := "ytfiioobdknbacaa", sum := "8e1b26ae62bc84f7807c5b1993b028fea24d86ba3f4fea4e70bd307db2db11c6", func := "lectern/lecternlaw6.FmPlaces", spec := "fmPlaces", unfollowed := true, recurses := true, apart := false, narrowed := true }
def FmPlacesUptoSaid : Prop := fmPlacesUptoRow.holds Try.pinned (OpenSpec.upto fmPlacesSpec)

/-- 'lecternlaw6.FmTree', WHERE WHAT IT READS IS OF BULK AT MOST 1048576: true; the input reads as it did. -/
def fmTreeUptoRow : OpenClaim := { program := "ytfiioobdknbacaa", sum := "8e1b26ae62bc84f7807c5b1993b028fea24d86ba3f4fea4e70bd307db2db11c6", func := "lectern/lecternlaw6.FmTree", spec := "fmTree", unfollowed := true, recurses := true, apart := false, narrowed := true }
def FmTreeUptoSaid : Prop := fmTreeUptoRow.holds Try.pinned (OpenSpec.upto fmTreeSpec)

end Rows
end Go.Proofs.Ytfiioobdknbacaa
