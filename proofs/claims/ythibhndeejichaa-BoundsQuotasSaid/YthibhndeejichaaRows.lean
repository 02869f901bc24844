/-
  No cell of these rows narrows 'for every input' (looked for: loops, veiled, ifaces, maps, wideKeys, modest, calm, conditions, laid).
  DERIVED. THE GIVEN ROWS OF THIS SEAT. 11 by the template 'for every input the law returns true; each argument reads behind the call as it read before'; 0 by the template 'total and deterministic' (their statements: YthibhndeejichaaTotals.lean).
  GIVEN WITH THE SEED: the statements are not yours to turn. If you find one false, say at which input.
  Laid BY PROGRAM, IN A SANDBOX (cutbox-rows.mjs): the forced cells as the released guide's own fill.sh prints them over the translation 1480713c834a4d0d… (all of the seat's roots in one cut). By AI agents, Wed Nov 11 2026. No macro, syntax, notation, axiom, sorry.
-/
import Derived.Test.YthibhndeejichaaChecked
import GoSem.Claim
import GoSem.ClaimJoined
import GoSem.ClaimMapViews
import Derived.JoinedTies
import Derived.KernelRfl
namespace Go.Proofs.Ythibhndeejichaa
/- THE CELL 'sum', in the pinned program and in every row, IS THE sha256 OF THE DUMP (.gsa) THAT YthibhndeejichaaProg.lean LOADS. Nothing in Lean hashes anything: it is a label: what it is worth is what the hold of that sum in a sandbox is worth. -/
noncomputable def Try.pinned : Pinned := { name := "ythibhndeejichaa", sum := "1480713c834a4d0d5af7c49c14486246e4a6fcd1b8e07edd751c60f5ca0b8e12", checked := Try.checked }
namespace Rows
def none {H : Type} : Left H := { results := [], args := [] }

/-- 'lecternlaw9.SumExact': WHATEVER THE INPUT: true; the input reads as it did. -/
def sumExactSpec : ChangeSpec := { name := "sumExact", fn := fun _ => fun
  | [d] => { results := [.lit (.bool true)], args := [d] }
  | _ => none }
def sumExactRow : OpenClaim := { program := "ythibhndeejichaa", sum := "1480713c834a4d0d5af7c49c14486246e4a6fcd1b8e07edd751c60f5ca0b8e12", func := "lectern/lecternlaw9.SumExact", spec := "sumExact", apart := false }
def SumExactSaid : Prop := sumExactRow.holds Try.pinned (OpenSpec.ofChange sumExactSpec)

/-- ITS FALSE NEIGHBOUR: 'it returns false'. Refute it at one input. -/
def sumExactWrong : ChangeSpec := { name := "sumExact", fn := fun _ => fun
  | [d] => { results := [.lit (.bool false)], args := [d] }
  | _ => none }
def SumExactWrongFalsely : Prop := sumExactRow.holds Try.pinned (OpenSpec.ofChange sumExactWrong)

/-- 'lecternlaw9.SumParts': WHATEVER THE INPUT: true; the input reads as it did. -/
def sumPartsSpec : ChangeSpec := { name := "sumParts", fn := fun _ => fun
  | [d] => { results := [.lit (.bool true)], args := [d] }
  | _ => none }
def sumPartsRow : OpenClaim := { program := "ythibhndeejichaa", sum := "1480713c834a4d0d5af7c49c14486246e4a6fcd1b8e07edd751c60f5ca0b8e12", func := "lectern/lecternlaw9.SumParts", spec := "sumParts", apart := false }
def SumPartsSaid : Prop := sumPartsRow.holds Try.pinned (OpenSpec.ofChange sumPartsSpec)

/-- ITS FALSE NEIGHBOUR: 'it returns false'. Refute it at one input. -/
def sumPartsWrong : ChangeSpec := { name := "sumParts", fn := fun _ => fun
  | [d] => { results := [.lit (.bool false)], args := [d] }
  | _ => none }
def SumPartsWrongFalsely : Prop := sumPartsRow.holds Try.pinned (OpenSpec.ofChange sumPartsWrong)

/-- 'lecternlaw9.SumOnes': WHATEVER THE INPUT: true; the input reads as it did. -/
def sumOnesSpec : ChangeSpec := { name := "sumOnes", fn := fun _ => fun
  | [d] => { results := [.lit (.bool true)], args := [d] }
  | _ => none }
def sumOnesRow : OpenClaim := { program := "ythibhndeejichaa", sum := "1480713c834a4d0d5af7c49c14486246e4a6fcd1b8e07edd751c60f5ca0b8e12", func := "lectern/lecternlaw9.SumOnes", spec := "sumOnes", apart := false }
def SumOnesSaid : Prop := sumOnesRow.holds Try.pinned (OpenSpec.ofChange sumOnesSpec)

/-- ITS FALSE NEIGHBOUR: 'it returns false'. Refute it at one input. -/
def sumOnesWrong : ChangeSpec := { name := "sumOnes", fn := fun _ => fun
  | [d] => { results := [.lit (.bool false)], args := [d] }
  | _ => none }
def SumOnesWrongFalsely : Prop := sumOnesRow.holds Try.pinned (OpenSpec.ofChange sumOnesWrong)

/-- 'lecternlaw10.WireNums': WHATEVER THE INPUT: true; the input reads as it did. -/
def wireNumsSpec : ChangeSpec := { name := "wireNums", fn := fun _ => fun
  | [d] => { results := [.lit (.bool true)], args := [d] }
  | _ => none }
def wireNumsRow : OpenClaim := { program := "ythibhndeejichaa", sum := "1480713c834a4d0d5af7c49c14486246e4a6fcd1b8e07edd751c60f5ca0b8e12", func := "lectern/lecternlaw10.WireNums", spec := "wireNums", apart := false }
def WireNumsSaid : Prop := wireNumsRow.holds Try.pinned (OpenSpec.ofChange wireNumsSpec)

/-- ITS FALSE NEIGHBOUR: 'it returns false'. Refute it at one input. -/
def wireNumsWrong : ChangeSpec := { name := "wireNums", fn := fun _ => fun
  | [d] => { results := [.lit (.bool false)], args := [d] }
  | _ => none }
def WireNumsWrongFalsely : Prop := wireNumsRow.holds Try.pinned (OpenSpec.ofChange wireNumsWrong)

/-- 'lecternlaw10.WireSizes': WHATEVER THE INPUT: true; the input reads as it did. -/
def wireSizesSpec : ChangeSpec := { name := "wireSizes", fn := fun _ => fun
  | [d] => { results := [.lit (.bool true)], args := [d] }
  | _ => none }
def wireSizesRow : OpenClaim := { program := "ythibhndeejichaa", sum := "1480713c834a4d0d5af7c49c14486246e4a6fcd1b8e07edd751c60f5ca0b8e12", func := "lectern/lecternlaw10.WireSizes", spec := "wireSizes", apart := false }
def WireSizesSaid : Prop := wireSizesRow.holds Try.pinned (OpenSpec.ofChange wireSizesSpec)

/-- ITS FALSE NEIGHBOUR: 'it returns false'. Refute it at one input. -/
def wireSizesWrong : ChangeSpec := { name := "wireSizes", fn := fun _ => fun
  | [d] => { results := [.lit (.bool false)], args := [d] }
  | _ => none }
def WireSizesWrongFalsely : Prop := wireSizesRow.holds Try.pinned (OpenSpec.ofChange wireSizesWrong)

/-- 'lecternlaw7.BoundsWhere': WHATEVER THE INPUT: true; the input reads as it did. -/
def boundsWhereSpec : ChangeSpec := { name := "boundsWhere", fn := fun _ => fun
  | [d] => { results := [.lit (.bool true)], args := [d] }
  | _ => none }
def boundsWhereRow : OpenClaim := { program := "ythibhndeejichaa", sum := "1480713c834a4d0d5af7c49c14486246e4a6fcd1b8e07edd751c60f5ca0b8e12", func := "lectern/lecternlaw7.BoundsWhere", spec := "boundsWhere", unfollowed := true, recurses := true, apart := false }
def BoundsWhereSaid : Prop := boundsWhereRow.holds Try.pinned (OpenSpec.ofChange boundsWhereSpec)

/-- ITS FALSE NEIGHBOUR: 'it returns false'. Refute it at one input. -/
def boundsWhereWrong : ChangeSpec := { name := "boundsWhere", fn := fun _ => fun
  | [d] => { results := [.lit (.bool false)], args := [d] }
  | _ => none }
def BoundsWhereWrongFalsely : Prop := boundsWhereRow.holds Try.pinned (OpenSpec.ofChange boundsWhereWrong)

/-- 'lecternlaw7.BoundsQuotas': WHATEVER THE INPUT: true; the input reads as it did. -/
def boundsQuotasSpec : ChangeSpec := { name := "boundsQuotas", fn := fun _ => fun
  | [d] => { results := [.lit (.bool true)], args := [d] }
  | _ => none }
def boundsQuotasRow : OpenClaim := { program := "ythibhndeejichaa", sum := "1480713c834a4d0d5af7c49c14486246e4a6fcd1b8e07edd751c60f5ca0b8e12", func := "lectern/lecternlaw7.BoundsQuotas", spec := "boundsQuotas", unfollowed := true, recurses := true, apart := false }
def BoundsQuotasSaid : Prop := boundsQuotasRow.holds Try.pinned (OpenSpec.ofChange boundsQuotasSpec)

/-- ITS FALSE NEIGHBOUR: 'it returns false'. Refute it at one input. -/
def boundsQuotasWrong : ChangeSpec := { name := "boundsQuotas", fn := fun _ => fun
  | [d] => { results := [.lit (.bool false)], args := [d] }
  | _ => none }
def BoundsQuotasWrongFalsely : Prop := boundsQuotasRow.holds Try.pinned (OpenSpec.ofChange boundsQuotasWrong)

/-- 'lecternlaw7.BoundsBack': WHATEVER THE INPUT: true; the input reads as it did. -/
def boundsBackSpec : ChangeSpec := { name := "boundsBack", fn := fun _ => fun
  | [d] => { results := [.lit (.bool true)], args := [d] }
  | _ => none }
def boundsBackRow : OpenClaim := { program := "ythibhndeejichaa", sum := "1480713c834a4d0d5af7c49c14486246e4a6fcd1b8e07edd751c60f5ca0b8e12", func := "lectern/lecternlaw7.BoundsBack", spec := "boundsBack", unfollowed := true, recurses := true, apart := false }
def BoundsBackSaid : Prop := boundsBackRow.holds Try.pinned (OpenSpec.ofChange boundsBackSpec)

/-- ITS FALSE NEIGHBOUR: 'it returns false'. Refute it at one input. -/
def boundsBackWrong : ChangeSpec := { name := "boundsBack", fn := fun _ => fun
  | [d] => { results := [.lit (.bool false)], args := [d] }
  | _ => none }
def BoundsBackWrongFalsely : Prop := boundsBackRow.holds Try.pinned (OpenSpec.ofChange boundsBackWrong)

/-- 'lecternlaw7.BoundsTexts': WHATEVER THE INPUT: true; the input reads as it did. -/
def boundsTextsSpec : ChangeSpec := { name := "boundsTexts", fn := fun _ => fun
  | [d] => { results := [.lit (.bool true)], args := [d] }
  | _ => none }
def boundsTextsRow : OpenClaim := { program := "ythibhndeejichaa", sum := "1480713c834a4d0d5af7c49c14486246e4a6fcd1b8e07edd751c60f5ca0b8e12", func := "lectern/lecternlaw7.BoundsTexts", spec := "boundsTexts", unfollowed := true, recurses := true, apart := false }
def BoundsTextsSaid : Prop := boundsTextsRow.holds Try.pinned (OpenSpec.ofChange boundsTextsSpec)

/-- ITS FALSE NEIGHBOUR: 'it returns false'. Refute it at one input. -/
def boundsTextsWrong : ChangeSpec := { name := "boundsTexts", fn := fun _ => fun
  | [d] => { results := [.lit (.bool false)], args := [d] }
  | _ => none }
def BoundsTextsWrongFalsely : Prop := boundsTextsRow.holds Try.pinned (OpenSpec.ofChange boundsTextsWrong)

/-- 'lecternlaw10.WirePuts': WHATEVER THE INPUT: true; the input reads as it did. -/
def wirePutsSpec : ChangeSpec := { name := "wirePuts", fn := fun _ => fun
  | [d] => { results := [.lit (.bool true)], args := [d] }
  | _ => none }
def wirePutsRow : OpenClaim := { program := "ythibhndeejichaa", sum := "1480713c834a4d0d5af7c49c14486246e4a6fcd1b8e07edd751c60f5ca0b8e12", func := "lectern/lecternlaw10.WirePuts", spec := "wirePuts", apart := false }
def WirePutsSaid : Prop := wirePutsRow.holds Try.pinned (OpenSpec.ofChange wirePutsSpec)

/-- ITS FALSE NEIGHBOUR: 'it returns false'. Refute it at one input. -/
def wirePutsWrong : ChangeSpec := { name := "wirePuts", fn := fun _ => fun
  | [d] => { results := [.lit (.bool false)], args := [d] }
  | _ => none }
def WirePutsWrongFalsely : Prop := wirePutsRow.holds Try.pinned (OpenSpec.ofChange wirePutsWrong)

/-- 'lecternlaw10.WireBack': WHATEVER THE INPUT: true; the input reads as it did. -/
def wireBackSpec : ChangeSpec := { name := "wireBack", fn := fun _ => fun
  | [d] => { results := [.lit (.bool true)], args := [d] }
  | _ => none }
def wireBackRow : OpenClaim := { program := "ythibhndeejichaa", sum := "1480713c834a4d0d5af7c49c14486246e4a6fcd1b8e07edd751c60f5ca0b8e12", func := "lectern/lecternlaw10.WireBack", spec := "wireBack", apart := false }
def WireBackSaid : Prop := wireBackRow.holds Try.pinned (OpenSpec.ofChange wireBackSpec)

/-- ITS FALSE NEIGHBOUR: 'it returns false'. Refute it at one input. -/
def wireBackWrong : ChangeSpec := { name := "wireBack", fn := fun _ => fun
  | [d] => { results := [.lit (.bool false)], args := [d] }
  | _ => none }
def WireBackWrongFalsely : Prop := wireBackRow.holds Try.pinned (OpenSpec.ofChange wireBackWrong)

/- THE SECOND FORM. 'bulk': how many values and letters a reading holds, each counted each time it is reached (what is shared counts as often as it is met; a slice's spare places count too). A statement '..UptoSaid' is the law's where the arguments, and the package variables that the reading takes, are together of bulk at most 1048576: NARROWER than '..Said'. Prove '..Said' where nothing that the law and all that it calls make is longer than what came in: it says more and counts as full. Else prove '..UptoSaid'. A law counts once. -/
mutual
def uptoBulk {H : Type} : DataW H → Nat
  | .lit (.string bytes) => bytes.length + 1
  | .lit _ => 1
  | .nil => 1
  | .ptr d => uptoBulk d + 1
  | .slice elems spare => uptoBulkAll elems + uptoBulkAll spare + 1
  | .agg parts => uptoBulkAll parts + 1
  | .iface _ d => uptoBulk d + 1
  | .map entries => uptoBulkEntries entries + 1
  | .held _ => 1
def uptoBulkAll {H : Type} : List (DataW H) → Nat
  | [] => 0
  | d :: r => uptoBulk d + uptoBulkAll r
def uptoBulkEntries {H : Type} : List (Lit × DataW H) → Nat
  | [] => 0
  | x :: r => uptoBulkEntry x + uptoBulkEntries r
def uptoBulkEntry {H : Type} : Lit × DataW H → Nat
  | (.string bytes, d) => bytes.length + uptoBulk d + 1
  | (_, d) => uptoBulk d + 1
 end
def uptoSmall : (H : Type) → List (DataW H) → Bool := fun _ ds => decide (uptoBulkAll ds ≤ 1048576)
def OpenSpec.upto (s : _root_.Go.ChangeSpec) : _root_.Go.OpenSpec := { _root_.Go.OpenSpec.ofChange s with cond := some uptoSmall }

/-- 'lecternlaw9.SumExact', WHERE WHAT IT READS IS OF BULK AT MOST 1048576: true; the input reads as it did. -/
def sumExactUptoRow : OpenClaim := { program := "ythibhndeejichaa", sum := "1480713c834a4d0d5af7c49c14486246e4a6fcd1b8e07edd751c60f5ca0b8e12", func := "lectern/lecternlaw9.SumExact", spec := "sumExact", apart := false, narrowed := true }
def SumExactUptoSaid : Prop := sumExactUptoRow.holds Try.pinned (OpenSpec.upto sumExactSpec)

/-- 'lecternlaw9.SumParts', WHERE WHAT IT READS IS OF BULK AT MOST 1048576: true; the input reads as it did. -/
def sumPartsUptoRow : OpenClaim := { program := "ythibhndeejichaa", sum := "1480713c834a4d0d5af7c49c14486246e4a6fcd1b8e07edd751c60f5ca0b8e12", func := "lectern/lecternlaw9.SumParts", spec := "sumParts", apart := false, narrowed := true }
def SumPartsUptoSaid : Prop := sumPartsUptoRow.holds Try.pinned (OpenSpec.upto sumPartsSpec)

/-- 'lecternlaw9.SumOnes', WHERE WHAT IT READS IS OF BULK AT MOST 1048576: true; the input reads as it did. -/
def sumOnesUptoRow : OpenClaim := { program := "ythibhndeejichaa", sum := "1480713c834a4d0d5af7c49c14486246e4a6fcd1b8e07edd751c60f5ca0b8e12", func := "lectern/lecternlaw9.SumOnes", spec := "sumOnes", apart := false, narrowed := true }
def SumOnesUptoSaid : Prop := sumOnesUptoRow.holds Try.pinned (OpenSpec.upto sumOnesSpec)

/-- 'lecternlaw10.WireNums', WHERE WHAT IT READS IS OF BULK AT MOST 1048576: true; the input reads as it did. -/
def wireNumsUptoRow : OpenClaim := { program := "ythibhndeejichaa", sum := "1480713c834a4d0d5af7c49c14486246e4a6fcd1b8e07edd751c60f5ca0b8e12", func := "lectern/lecternlaw10.WireNums", spec := "wireNums", apart := false, narrowed := true }
def WireNumsUptoSaid : Prop := wireNumsUptoRow.holds Try.pinned (OpenSpec.upto wireNumsSpec)

/-- 'lecternlaw10.WireSizes', WHERE WHAT IT READS IS OF BULK AT MOST 1048576: true; the input reads as it did. -/
def wireSizesUptoRow : OpenClaim := { program := "ythibhndeejichaa", sum := "1480713c834a4d0d5af7c49c14486246e4a6fcd1b8e07edd751c60f5ca0b8e12", func := "lectern/lecternlaw10.WireSizes", spec := "wireSizes", apart := false, narrowed := true }
def WireSizesUptoSaid : Prop := wireSizesUptoRow.holds Try.pinned (OpenSpec.upto wireSizesSpec)

/-- 'lecternlaw7.BoundsWhere', WHERE WHAT IT READS IS OF BULK AT MOST 1048576: true; the input reads as it did. -/
def boundsWhereUptoRow : OpenClaim := { program := "ythibhndeejichaa", sum := "1480713c834a4d0d5af7c49c14486246e4a6fcd1b8e07edd751c60f5ca0b8e12", func := "lectern/lecternlaw7.BoundsWhere", spec := "boundsWhere", unfollowed := true, recurses := true, apart := false, narrowed := true }
def BoundsWhereUptoSaid : Prop := boundsWhereUptoRow.holds Try.pinned (OpenSpec.upto boundsWhereSpec)

/-- 'lecternlaw7.BoundsQuotas', WHERE WHAT IT READS IS OF BULK AT MOST 1048576: true; the input reads as it did. -/
def boundsQuotasUptoRow : OpenClaim := { program := "ythibhndeejichaa", sum := "1480713c834a4d0d5af7c49c14486246e4a6fcd1b8e07edd751c60f5ca0b8e12", func := "lectern/lecternlaw7.BoundsQuotas", spec := "boundsQuotas", unfollowed := true, recurses := true, apart := false, narrowed := true }
def BoundsQuotasUptoSaid : Prop := boundsQuotasUptoRow.holds Try.pinned (OpenSpec.upto boundsQuotasSpec)

/-- 'lecternlaw7.BoundsBack', WHERE WHAT IT READS IS OF BULK AT MOST 1048576: true; the input reads as it did. -/
def boundsBackUptoRow : OpenClaim := { program := "ythibhndeejichaa", sum := "1480713c834a4d0d5af7c49c14486246e4a6fcd1b8e07edd751c60f5ca0b8e12", func := "lectern/lecternlaw7.BoundsBack", spec := "boundsBack", unfollowed := true, recurses := true, apart := false, narrowed := true }
def BoundsBackUptoSaid : Prop := boundsBackUptoRow.holds Try.pinned (OpenSpec.upto boundsBackSpec)

/-- 'lecternlaw7.BoundsTexts', WHERE WHAT IT READS IS OF BULK AT MOST 1048576: true; the input reads as it did. -/
def boundsTextsUptoRow : OpenClaim := { program := "ythibhndeejichaa", sum := "1480713c834a4d0d5af7c49c14486246e4a6fcd1b8e07edd751c60f5ca0b8e12", func := "lectern/lecternlaw7.BoundsTexts", spec := "boundsTexts", unfollowed := true, recurses := true, apart := false, narrowed := true }
def BoundsTextsUptoSaid : Prop := boundsTextsUptoRow.holds Try.pinned (OpenSpec.upto boundsTextsSpec)

/-- 'lecternlaw10.WirePuts', WHERE WHAT IT READS IS OF BULK AT MOST 1048576: true; the input reads as it did. -/
def wirePutsUptoRow : OpenClaim := { program := "ythibhndeejichaa", sum := "1480713c834a4d0d5af7c49c14486246e4a6fcd1b8e07edd751c60f5ca0b8e12", func := "lectern/lecternlaw10.WirePuts", spec := "wirePuts", apart := false, narrowed := true }
def WirePutsUptoSaid : Prop := wirePutsUptoRow.holds Try.pinned (OpenSpec.upto wirePutsSpec)

/-- 'lecternlaw10.WireBack', WHERE WHAT IT READS IS OF BULK AT MOST 1048576: true; the input reads as it did. -/
def wireBackUptoRow : OpenClaim := { program := "ythibhndeejichaa", sum := "1480713c834a4d0d5af7c49c14486246e4a6fcd1b8e07edd751c60f5ca0b8e12", func := "lectern/lecternlaw10.WireBack", spec := "wireBack", apart := false, narrowed := true }
def WireBackUptoSaid : Prop := wireBackUptoRow.holds Try.pinned (OpenSpec.upto wireBackSpec)

end Rows
end Go.Proofs.Ythibhndeejichaa
