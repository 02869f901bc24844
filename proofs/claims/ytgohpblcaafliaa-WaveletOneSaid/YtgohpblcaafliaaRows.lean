/-
  No cell of these rows narrows 'for every input' (looked for: loops, veiled, ifaces, maps, wideKeys, modest, calm, conditions, laid).
  DERIVED. THE GIVEN ROWS OF THIS SEAT. 11 by the template 'for every input the law returns true; each argument reads behind the call as it read before'; 0 by the template 'total and deterministic' (their statements: YtgohpblcaafliaaTotals.lean).
  GIVEN WITH THE SEED: the statements are not yours to turn. If you find one false, say at which input.
  Laid BY PROGRAM, IN A SANDBOX (cutbox-rows.mjs): the forced cells as the released guide's own fill.sh prints them over the translation d7da820a3d401e61… (all of the seat's roots in one cut). By AI agents, Wed Nov 11 2026. No macro, syntax, notation, axiom, sorry.
-/
import Derived.Test.YtgohpblcaafliaaChecked
import GoSem.Claim
import GoSem.ClaimJoined
import GoSem.ClaimMapViews
import Derived.JoinedTies
import Derived.KernelRfl
namespace Go.Proofs.Ytgohpblcaafliaa
/- THE CELL 'sum', in the pinned program and in every row, IS THE sha256 OF THE DUMP (.gsa) THAT YtgohpblcaafliaaProg.lean LOADS. Nothing in Lean hashes anything: it is a label: what it is worth is what the hold of that sum in a sandbox is worth. -/
noncomputable def Try.pinned : Pinned := { name := "ytgohpblcaafliaa", sum := "d7da820a3d401e61694a9b655bb33fbc6f1fa19e2840ca070de1416244daff20", checked := Try.checked }
namespace Rows
def none {H : Type} : Left H := { results := [], args := [] }

/-- 'lecternlaw1.BitsRanks': WHATEVER THE INPUT: true; the input reads as it did. -/
def bitsRanksSpec : ChangeSpec := { name := "bitsRanks", fn := fun _ => fun
  | [d] => { results := [.lit (.bool true)], args := [d] }
  | _ => none }
def bitsRanksRow : OpenClaim := { program := "ytgohpblcaafliaa", sum := "d7da820a3d401e61694a9b655bb33fbc6f1fa19e2840ca070de1416244daff20", func := "lectern/lecternlaw1.BitsRanks", spec := "bitsRanks", apart := false }
def BitsRanksSaid : Prop := bitsRanksRow.holds Try.pinned (OpenSpec.ofChange bitsRanksSpec)

/-- ITS FALSE NEIGHBOUR: 'it returns false'. Refute it at one input. -/
def bitsRanksWrong : ChangeSpec := { name := "bitsRanks", fn := fun _ => fun
  | [d] => { results := [.lit (.bool false)], args := [d] }
  | _ => none }
def BitsRanksWrongFalsely : Prop := bitsRanksRow.holds Try.pinned (OpenSpec.ofChange bitsRanksWrong)

/-- 'lecternlaw1.BitsGets': WHATEVER THE INPUT: true; the input reads as it did. -/
def bitsGetsSpec : ChangeSpec := { name := "bitsGets", fn := fun _ => fun
  | [d] => { results := [.lit (.bool true)], args := [d] }
  | _ => none }
def bitsGetsRow : OpenClaim := { program := "ytgohpblcaafliaa", sum := "d7da820a3d401e61694a9b655bb33fbc6f1fa19e2840ca070de1416244daff20", func := "lectern/lecternlaw1.BitsGets", spec := "bitsGets", apart := false }
def BitsGetsSaid : Prop := bitsGetsRow.holds Try.pinned (OpenSpec.ofChange bitsGetsSpec)

/-- ITS FALSE NEIGHBOUR: 'it returns false'. Refute it at one input. -/
def bitsGetsWrong : ChangeSpec := { name := "bitsGets", fn := fun _ => fun
  | [d] => { results := [.lit (.bool false)], args := [d] }
  | _ => none }
def BitsGetsWrongFalsely : Prop := bitsGetsRow.holds Try.pinned (OpenSpec.ofChange bitsGetsWrong)

/-- 'lecternlaw1.BitsRuns': WHATEVER THE INPUT: true; the input reads as it did. -/
def bitsRunsSpec : ChangeSpec := { name := "bitsRuns", fn := fun _ => fun
  | [d] => { results := [.lit (.bool true)], args := [d] }
  | _ => none }
def bitsRunsRow : OpenClaim := { program := "ytgohpblcaafliaa", sum := "d7da820a3d401e61694a9b655bb33fbc6f1fa19e2840ca070de1416244daff20", func := "lectern/lecternlaw1.BitsRuns", spec := "bitsRuns", unfollowed := true, recurses := true, apart := false }
def BitsRunsSaid : Prop := bitsRunsRow.holds Try.pinned (OpenSpec.ofChange bitsRunsSpec)

/-- ITS FALSE NEIGHBOUR: 'it returns false'. Refute it at one input. -/
def bitsRunsWrong : ChangeSpec := { name := "bitsRuns", fn := fun _ => fun
  | [d] => { results := [.lit (.bool false)], args := [d] }
  | _ => none }
def BitsRunsWrongFalsely : Prop := bitsRunsRow.holds Try.pinned (OpenSpec.ofChange bitsRunsWrong)

/-- 'lecternlaw1.BitsSelects': WHATEVER THE INPUT: true; the input reads as it did. -/
def bitsSelectsSpec : ChangeSpec := { name := "bitsSelects", fn := fun _ => fun
  | [d] => { results := [.lit (.bool true)], args := [d] }
  | _ => none }
def bitsSelectsRow : OpenClaim := { program := "ytgohpblcaafliaa", sum := "d7da820a3d401e61694a9b655bb33fbc6f1fa19e2840ca070de1416244daff20", func := "lectern/lecternlaw1.BitsSelects", spec := "bitsSelects", unfollowed := true, recurses := true, apart := false }
def BitsSelectsSaid : Prop := bitsSelectsRow.holds Try.pinned (OpenSpec.ofChange bitsSelectsSpec)

/-- ITS FALSE NEIGHBOUR: 'it returns false'. Refute it at one input. -/
def bitsSelectsWrong : ChangeSpec := { name := "bitsSelects", fn := fun _ => fun
  | [d] => { results := [.lit (.bool false)], args := [d] }
  | _ => none }
def BitsSelectsWrongFalsely : Prop := bitsSelectsRow.holds Try.pinned (OpenSpec.ofChange bitsSelectsWrong)

/-- 'lecternlaw1.BitsBack': WHATEVER THE INPUT: true; the input reads as it did. -/
def bitsBackSpec : ChangeSpec := { name := "bitsBack", fn := fun _ => fun
  | [d] => { results := [.lit (.bool true)], args := [d] }
  | _ => none }
def bitsBackRow : OpenClaim := { program := "ytgohpblcaafliaa", sum := "d7da820a3d401e61694a9b655bb33fbc6f1fa19e2840ca070de1416244daff20", func := "lectern/lecternlaw1.BitsBack", spec := "bitsBack", unfollowed := true, recurses := true, apart := false }
def BitsBackSaid : Prop := bitsBackRow.holds Try.pinned (OpenSpec.ofChange bitsBackSpec)

/-- ITS FALSE NEIGHBOUR: 'it returns false'. Refute it at one input. -/
def bitsBackWrong : ChangeSpec := { name := "bitsBack", fn := fun _ => fun
  | [d] => { results := [.lit (.bool false)], args := [d] }
  | _ => none }
def BitsBackWrongFalsely : Prop := bitsBackRow.holds Try.pinned (OpenSpec.ofChange bitsBackWrong)

/-- 'lecternlaw3.WaveletRanks': WHATEVER THE INPUT: true; the input reads as it did. -/
def waveletRanksSpec : ChangeSpec := { name := "waveletRanks", fn := fun _ => fun
  | [d] => { results := [.lit (.bool true)], args := [d] }
  | _ => none }
def waveletRanksRow : OpenClaim := { program := "ytgohpblcaafliaa", sum := "d7da820a3d401e61694a9b655bb33fbc6f1fa19e2840ca070de1416244daff20", func := "lectern/lecternlaw3.WaveletRanks", spec := "waveletRanks", apart := false }
def WaveletRanksSaid : Prop := waveletRanksRow.holds Try.pinned (OpenSpec.ofChange waveletRanksSpec)

/-- ITS FALSE NEIGHBOUR: 'it returns false'. Refute it at one input. -/
def waveletRanksWrong : ChangeSpec := { name := "waveletRanks", fn := fun _ => fun
  | [d] => { results := [.lit (.bool false)], args := [d] }
  | _ => none }
def WaveletRanksWrongFalsely : Prop := waveletRanksRow.holds Try.pinned (OpenSpec.ofChange waveletRanksWrong)

/-- 'lecternlaw3.WaveletLess': WHATEVER THE INPUT: true; the input reads as it did. -/
def waveletLessSpec : ChangeSpec := { name := "waveletLess", fn := fun _ => fun
  | [d] => { results := [.lit (.bool true)], args := [d] }
  | _ => none }
def waveletLessRow : OpenClaim := { program := "ytgohpblcaafliaa", sum := "d7da820a3d401e61694a9b655bb33fbc6f1fa19e2840ca070de1416244daff20", func := "lectern/lecternlaw3.WaveletLess", spec := "waveletLess", apart := false }
def WaveletLessSaid : Prop := waveletLessRow.holds Try.pinned (OpenSpec.ofChange waveletLessSpec)

/-- ITS FALSE NEIGHBOUR: 'it returns false'. Refute it at one input. -/
def waveletLessWrong : ChangeSpec := { name := "waveletLess", fn := fun _ => fun
  | [d] => { results := [.lit (.bool false)], args := [d] }
  | _ => none }
def WaveletLessWrongFalsely : Prop := waveletLessRow.holds Try.pinned (OpenSpec.ofChange waveletLessWrong)

/-- 'lecternlaw3.WaveletAccess': WHATEVER THE INPUT: true; the input reads as it did. -/
def waveletAccessSpec : ChangeSpec := { name := "waveletAccess", fn := fun _ => fun
  | [d] => { results := [.lit (.bool true)], args := [d] }
  | _ => none }
def waveletAccessRow : OpenClaim := { program := "ytgohpblcaafliaa", sum := "d7da820a3d401e61694a9b655bb33fbc6f1fa19e2840ca070de1416244daff20", func := "lectern/lecternlaw3.WaveletAccess", spec := "waveletAccess", apart := false }
def WaveletAccessSaid : Prop := waveletAccessRow.holds Try.pinned (OpenSpec.ofChange waveletAccessSpec)

/-- ITS FALSE NEIGHBOUR: 'it returns false'. Refute it at one input. -/
def waveletAccessWrong : ChangeSpec := { name := "waveletAccess", fn := fun _ => fun
  | [d] => { results := [.lit (.bool false)], args := [d] }
  | _ => none }
def WaveletAccessWrongFalsely : Prop := waveletAccessRow.holds Try.pinned (OpenSpec.ofChange waveletAccessWrong)

/-- 'lecternlaw3.WaveletSelects': WHATEVER THE INPUT: true; the input reads as it did. -/
def waveletSelectsSpec : ChangeSpec := { name := "waveletSelects", fn := fun _ => fun
  | [d] => { results := [.lit (.bool true)], args := [d] }
  | _ => none }
def waveletSelectsRow : OpenClaim := { program := "ytgohpblcaafliaa", sum := "d7da820a3d401e61694a9b655bb33fbc6f1fa19e2840ca070de1416244daff20", func := "lectern/lecternlaw3.WaveletSelects", spec := "waveletSelects", unfollowed := true, recurses := true, apart := false }
def WaveletSelectsSaid : Prop := waveletSelectsRow.holds Try.pinned (OpenSpec.ofChange waveletSelectsSpec)

/-- ITS FALSE NEIGHBOUR: 'it returns false'. Refute it at one input. -/
def waveletSelectsWrong : ChangeSpec := { name := "waveletSelects", fn := fun _ => fun
  | [d] => { results := [.lit (.bool false)], args := [d] }
  | _ => none }
def WaveletSelectsWrongFalsely : Prop := waveletSelectsRow.holds Try.pinned (OpenSpec.ofChange waveletSelectsWrong)

/-- 'lecternlaw3.WaveletOne': WHATEVER THE INPUT: true; the input reads as it did. -/
def waveletOneSpec : ChangeSpec := { name := "waveletOne", fn := fun _ => fun
  | [d] => { results := [.lit (.bool true)], args := [d] }
  | _ => none }
def waveletOneRow : OpenClaim := { program := "ytgohpblcaafliaa", sum := "d7da820a3d401e61694a9b655bb33fbc6f1fa19e2840ca070de1416244daff20", func := "lectern/lecternlaw3.WaveletOne", spec := "waveletOne", unfollowed := true, recurses := true, apart := false }
def WaveletOneSaid : Prop := waveletOneRow.holds Try.pinned (OpenSpec.ofChange waveletOneSpec)

/-- ITS FALSE NEIGHBOUR: 'it returns false'. Refute it at one input. -/
def waveletOneWrong : ChangeSpec := { name := "waveletOne", fn := fun _ => fun
  | [d] => { results := [.lit (.bool false)], args := [d] }
  | _ => none }
def WaveletOneWrongFalsely : Prop := waveletOneRow.holds Try.pinned (OpenSpec.ofChange waveletOneWrong)

/-- 'lecternlaw3.WaveletBack': WHATEVER THE INPUT: true; the input reads as it did. -/
def waveletBackSpec : ChangeSpec := { name := "waveletBack", fn := fun _ => fun
  | [d] => { results := [.lit (.bool true)], args := [d] }
  | _ => none }
def waveletBackRow : OpenClaim := { program := "ytgohpblcaafliaa", sum := "d7da820a3d401e61694a9b655bb33fbc6f1fa19e2840ca070de1416244daff20", func := "lectern/lecternlaw3.WaveletBack", spec := "waveletBack", unfollowed := true, recurses := true, apart := false }
def WaveletBackSaid : Prop := waveletBackRow.holds Try.pinned (OpenSpec.ofChange waveletBackSpec)

/-- ITS FALSE NEIGHBOUR: 'it returns false'. Refute it at one input. -/
def waveletBackWrong : ChangeSpec := { name := "waveletBack", fn := fun _ => fun
  | [d] => { results := [.lit (.bool false)], args := [d] }
  | _ => none }
def WaveletBackWrongFalsely : Prop := waveletBackRow.holds Try.pinned (OpenSpec.ofChange waveletBackWrong)

/- THE SECOND FORM. 'bulk': how many values and letters a reading holds, each counted each time it is reached (what is shared counts as often as it is met; a slice's spare places count too). A statement '..UptoSaid' is the law's where the arguments, and the package variables that the reading takes, are together of bulk at most 1048576: NARROWER than '..Said'. Prove '..Said' where nothing that the law and all that it calls make is longer than what came in: it says more and counts as full. Else prove '..UptoSaid'. A law counts once. -/
mutual
def uptoBulk {H : Type} : DataW H → Nat
  | .lit (.string bytes) => bytes.length + 1
  | .lit _ => 1
  | .nil => 1
  | .ptr d => uptoBulk d + 1
  | .slice elems spare => uptoBulkAll elems + uptoBulkAll spare + 1
  | .agg parts => uptoBulkAll parts + 1
  | .iface _ d => uptoBulk d + 1
  | .map entries => uptoBulkEntries entries + 1
  | .held _ => 1
def uptoBulkAll {H : Type} : List (DataW H) → Nat
  | [] => 0
  | d :: r => uptoBulk d + uptoBulkAll r
def uptoBulkEntries {H : Type} : List (Lit × DataW H) → Nat
  | [] => 0
  | x :: r => uptoBulkEntry x + uptoBulkEntries r
def uptoBulkEntry {H : Type} : Lit × DataW H → Nat
  | (.string bytes, d) => bytes.length + uptoBulk d + 1
  | (_, d) => uptoBulk d + 1
 end
def uptoSmall : (H : Type) → List (DataW H) → Bool := fun _ ds => decide (uptoBulkAll ds ≤ 1048576)
def OpenSpec.upto (s : _root_.Go.ChangeSpec) : _root_.Go.OpenSpec := { _root_.Go.OpenSpec.ofChange s with cond := some uptoSmall }

/-- 'lecternlaw1.BitsRanks', WHERE WHAT IT READS IS OF BULK AT MOST 1048576: true; the input reads as it did. -/
def bitsRanksUptoRow : OpenClaim := { program := "ytgohpblcaafliaa", sum := "d7da820a3d401e61694a9b655bb33fbc6f1fa19e2840ca070de1416244daff20", func := "lectern/lecternlaw1.BitsRanks", spec := "bitsRanks", apart := false, narrowed := true }
def BitsRanksUptoSaid : Prop := bitsRanksUptoRow.holds Try.pinned (OpenSpec.upto bitsRanksSpec)

/-- 'lecternlaw1.BitsGets', WHERE WHAT IT READS IS OF BULK AT MOST 1048576: true; the input reads as it did. -/
def bitsGetsUptoRow : OpenClaim := { program := "ytgohpblcaafliaa", sum := "d7da820a3d401e61694a9b655bb33fbc6f1fa19e2840ca070de1416244daff20", func := "lectern/lecternlaw1.BitsGets", spec := "bitsGets", apart := false, narrowed := true }
def BitsGetsUptoSaid : Prop := bitsGetsUptoRow.holds Try.pinned (OpenSpec.upto bitsGetsSpec)

/-- 'lecternlaw1.BitsRuns', WHERE WHAT IT READS IS OF BULK AT MOST 1048576: true; the input reads as it did. -/
def bitsRunsUptoRow : OpenClaim := { program := "ytgohpblcaafliaa", sum := "d7da820a3d401e61694a9b655bb33fbc6f1fa19e2840ca070de1416244daff20", func := "lectern/lecternlaw1.BitsRuns", spec := "bitsRuns", unfollowed := true, recurses := true, apart := false, narrowed := true }
def BitsRunsUptoSaid : Prop := bitsRunsUptoRow.holds Try.pinned (OpenSpec.upto bitsRunsSpec)

/-- 'lecternlaw1.BitsSelects', WHERE WHAT IT READS IS OF BULK AT MOST 1048576: true; the input reads as it did. -/
def bitsSelectsUptoRow : OpenClaim := { program := "ytgohpblcaafliaa", sum := "d7da820a3d401e61694a9b655bb33fbc6f1fa19e2840ca070de1416244daff20", func := "lectern/lecternlaw1.BitsSelects", spec := "bitsSelects", unfollowed := true, recurses := true, apart := false, narrowed := true }
def BitsSelectsUptoSaid : Prop := bitsSelectsUptoRow.holds Try.pinned (OpenSpec.upto bitsSelectsSpec)

/-- 'lecternlaw1.BitsBack', WHERE WHAT IT READS IS OF BULK AT MOST 1048576: true; the input reads as it did. -/
def bitsBackUptoRow : OpenClaim := { program := "ytgohpblcaafliaa", sum := "d7da820a3d401e61694a9b655bb33fbc6f1fa19e2840ca070de1416244daff20", func := "lectern/lecternlaw1.BitsBack", spec := "bitsBack", unfollowed := true, recurses := true, apart := false, narrowed := true }
def BitsBackUptoSaid : Prop := bitsBackUptoRow.holds Try.pinned (OpenSpec.upto bitsBackSpec)

/-- 'lecternlaw3.WaveletRanks', WHERE WHAT IT READS IS OF BULK AT MOST 1048576: true; the input reads as it did. -/
def waveletRanksUptoRow : OpenClaim := { program := "ytgohpblcaafliaa", sum := "d7da820a3d401e61694a9b655bb33fbc6f1fa19e2840ca070de1416244daff20", func := "lectern/lecternlaw3.WaveletRanks", spec := "waveletRanks", apart := false, narrowed := true }
def WaveletRanksUptoSaid : Prop := waveletRanksUptoRow.holds Try.pinned (OpenSpec.upto waveletRanksSpec)

/-- 'lecternlaw3.WaveletLess', WHERE WHAT IT READS IS OF BULK AT MOST 1048576: true; the input reads as it did. -/
def waveletLessUptoRow : OpenClaim := { program := "ytgohpblcaafliaa", sum := "d7da820a3d401e61694a9b655bb33fbc6f1fa19e2840ca070de1416244daff20", func := "lectern/lecternlaw3.WaveletLess", spec := "waveletLess", apart := false, narrowed := true }
def WaveletLessUptoSaid : Prop := waveletLessUptoRow.holds Try.pinned (OpenSpec.upto waveletLessSpec)

/-- 'lecternlaw3.WaveletAccess', WHERE WHAT IT READS IS OF BULK AT MOST 1048576: true; the input reads as it did. -/
def waveletAccessUptoRow : OpenClaim := { program := "ytgohpblcaafliaa", sum := "d7da820a3d401e61694a9b655bb33fbc6f1fa19e2840ca070de1416244daff20", func := "lectern/lecternlaw3.WaveletAccess", spec := "waveletAccess", apart := false, narrowed := true }
def WaveletAccessUptoSaid : Prop := waveletAccessUptoRow.holds Try.pinned (OpenSpec.upto waveletAccessSpec)

/-- 'lecternlaw3.WaveletSelects', WHERE WHAT IT READS IS OF BULK AT MOST 1048576: true; the input reads as it did. -/
def waveletSelectsUptoRow : OpenClaim := { program := "ytgohpblcaafliaa", sum := "d7da820a3d401e61694a9b655bb33fbc6f1fa19e2840ca070de1416244daff20", func := "lectern/lecternlaw3.WaveletSelects", spec := "waveletSelects", unfollowed := true, recurses := true, apart := false, narrowed := true }
def WaveletSelectsUptoSaid : Prop := waveletSelectsUptoRow.holds Try.pinned (OpenSpec.upto waveletSelectsSpec)

/-- 'lecternlaw3.WaveletOne', WHERE WHAT IT READS IS OF BULK AT MOST 1048576: true; the input reads as it did. -/
def waveletOneUptoRow : OpenClaim := { program := "ytgohpblcaafliaa", sum := "d7da820a3d401e61694a9b655bb33fbc6f1fa19e2840ca070de1416244daff20", func := "lectern/lecternlaw3.WaveletOne", spec := "waveletOne", unfollowed := true, recurses := true, apart := false, narrowed := true }
def WaveletOneUptoSaid : Prop := waveletOneUptoRow.holds Try.pinned (OpenSpec.upto waveletOneSpec)

/-- 'lecternlaw3.WaveletBack', WHERE WHAT IT READS IS OF BULK AT MOST 1048576: true; the input reads as it did. -/
def waveletBackUptoRow : OpenClaim := { program := "ytgohpblcaafliaa", sum := "d7da820a3d401e61694a9b655bb33fbc6f1fa19e2840ca070de1416244daff20", func := "lectern/lecternlaw3.WaveletBack", spec := "waveletBack", unfollowed := true, recurses := true, apart := false, narrowed := true }
def WaveletBackUptoSaid : Prop := waveletBackUptoRow.holds Try.pinned (OpenSpec.upto waveletBackSpec)

end Rows
end Go.Proofs.Ytgohpblcaafliaa
