/-
  No cell of these rows narrows 'for every input' (looked for: loops, veiled, ifaces, maps, wideKeys, modest, calm, conditions, laid).
  DERIVED. THE GIVEN ROWS OF THIS SEAT. 6 by the template 'for every input the law returns true; each argument reads behind the call as it read before'; 0 by the template 'total and deterministic' (their statements: YtjpcfpffbicpnaaTotals.lean).
  GIVEN WITH THE SEED: the statements are not yours to turn. If you find one false, say at which input.
  Laid BY PROGRAM, IN A SANDBOX (cutbox-rows.mjs): the forced cells as the released guide's own fill.sh prints them over the translation 5c66382c59ca99b5… (all of the seat's roots in one cut). By AI agents, Wed Nov 11 2026. No macro, syntax, notation, axiom, sorry.
-/
import Derived.Test.YtjpcfpffbicpnaaChecked
import GoSem.Claim
import GoSem.ClaimJoined
import GoSem.ClaimMapViews
import Derived.JoinedTies
import Derived.KernelRfl
namespace Go.Proofs.Ytjpcfpffbicpnaa
/- THE CELL 'sum', in the pinned program and in every row, IS THE sha256 OF THE DUMP (.gsa) THAT YtjpcfpffbicpnaaProg.lean LOADS. Nothing in Lean hashes anything: it is a label: what it is worth is what the hold of that sum in a sandbox is worth. -/
noncomputable def Try.pinned : Pinned := { name := "ytjpcfpffbicpnaa", sum := "5c66382c59ca99b50bb33fbd9312365dc084b33bbd29b681ac03b3b0a7da4abd", checked := Try.checked }
namespace Rows
def none {H : Type} : Left H := { results := [], args := [] }

/-- 'lecternlaw11.SegcodeAny': WHATEVER THE INPUT: true; the input reads as it did. -/
def segcodeAnySpec : ChangeSpec := { name := "segcodeAny", fn := fun _ => fun
  | [d] => { results := [.lit (.bool true)], args := [d] }
  | _ => none }
def segcodeAnyRow : OpenClaim := { program := "ytjpcfpffbicpnaa", sum := "5c66382c59ca99b50bb33fbd9312365dc084b33bbd29b681ac03b3b0a7da4abd", func := "lectern/lecternlaw11.SegcodeAny", spec := "segcodeAny", inPlace := ["internal/abi.NoEscape"], unfollowed := true, recurses := true, apart := false }
def SegcodeAnySaid : Prop := segcodeAnyRow.holds Try.pinned (OpenSpec.ofChange segcodeAnySpec)

/-- ITS FALSE NEIGHBOUR: 'it returns false'. Refute it at one input. -/
def segcodeAnyWrong : ChangeSpec := { name := "segcodeAny", fn := fun _ => fun
  | [d] => { results := [.lit (.bool false)], args := [d] }
  | _ => none }
def SegcodeAnyWrongFalsely : Prop := segcodeAnyRow.holds Try.pinned (OpenSpec.ofChange segcodeAnyWrong)

/-- 'lecternlaw8.SegmentSearches': WHATEVER THE INPUT: true; the input reads as it did. -/
def segmentSearchesSpec : ChangeSpec := { name := "segmentSearches", fn := fun _ => fun
  | [d] => { results := [.lit (.bool true)], args := [d] }
  | _ => none }
def segmentSearchesRow : OpenClaim := { program := "ytjpcfpffbicpnaa", sum := "5c66382c59ca99b50bb33fbd9312365dc084b33bbd29b681ac03b3b0a7da4abd", func := "lectern/lecternlaw8.SegmentSearches", spec := "segmentSearches", unfollowed := true, recurses := true, apart := false }
def SegmentSearchesSaid : Prop := segmentSearchesRow.holds Try.pinned (OpenSpec.ofChange segmentSearchesSpec)

/-- ITS FALSE NEIGHBOUR: 'it returns false'. Refute it at one input. -/
def segmentSearchesWrong : ChangeSpec := { name := "segmentSearches", fn := fun _ => fun
  | [d] => { results := [.lit (.bool false)], args := [d] }
  | _ => none }
def SegmentSearchesWrongFalsely : Prop := segmentSearchesRow.holds Try.pinned (OpenSpec.ofChange segmentSearchesWrong)

/-- 'lecternlaw8.SegmentQuotas': WHATEVER THE INPUT: true; the input reads as it did. -/
def segmentQuotasSpec : ChangeSpec := { name := "segmentQuotas", fn := fun _ => fun
  | [d] => { results := [.lit (.bool true)], args := [d] }
  | _ => none }
def segmentQuotasRow : OpenClaim := { program := "ytjpcfpffbicpnaa", sum := "5c66382c59ca99b50bb33fbd9312365dc084b33bbd29b681ac03b3b0a7da4abd", func := "lectern/lecternlaw8.SegmentQuotas", spec := "segmentQuotas", unfollowed := true, recurses := true, apart := false }
def SegmentQuotasSaid : Prop := segmentQuotasRow.holds Try.pinned (OpenSpec.ofChange segmentQuotasSpec)

/-- ITS FALSE NEIGHBOUR: 'it returns false'. Refute it at one input. -/
def segmentQuotasWrong : ChangeSpec := { name := "segmentQuotas", fn := fun _ => fun
  | [d] => { results := [.lit (.bool false)], args := [d] }
  | _ => none }
def SegmentQuotasWrongFalsely : Prop := segmentQuotasRow.holds Try.pinned (OpenSpec.ofChange segmentQuotasWrong)

/-- 'lecternlaw8.SegmentIndex': WHATEVER THE INPUT: true; the input reads as it did. -/
def segmentIndexSpec : ChangeSpec := { name := "segmentIndex", fn := fun _ => fun
  | [d] => { results := [.lit (.bool true)], args := [d] }
  | _ => none }
def segmentIndexRow : OpenClaim := { program := "ytjpcfpffbicpnaa", sum := "5c66382c59ca99b50bb33fbd9312365dc084b33bbd29b681ac03b3b0a7da4abd", func := "lectern/lecternlaw8.SegmentIndex", spec := "segmentIndex", unfollowed := true, recurses := true, apart := false }
def SegmentIndexSaid : Prop := segmentIndexRow.holds Try.pinned (OpenSpec.ofChange segmentIndexSpec)

/-- ITS FALSE NEIGHBOUR: 'it returns false'. Refute it at one input. -/
def segmentIndexWrong : ChangeSpec := { name := "segmentIndex", fn := fun _ => fun
  | [d] => { results := [.lit (.bool false)], args := [d] }
  | _ => none }
def SegmentIndexWrongFalsely : Prop := segmentIndexRow.holds Try.pinned (OpenSpec.ofChange segmentIndexWrong)

/-- 'lecternlaw8.SegmentHolds': WHATEVER THE INPUT: true; the input reads as it did. -/
def segmentHoldsSpec : ChangeSpec := { name := "segmentHolds", fn := fun _ => fun
  | [d] => { results := [.lit (.bool true)], args := [d] }
  | _ => none }
def segmentHoldsRow : OpenClaim := { program := "ytjpcfpffbicpnaa", sum := "5c66382c59ca99b50bb33fbd9312365dc084b33bbd29b681ac03b3b0a7da4abd", func := "lectern/lecternlaw8.SegmentHolds", spec := "segmentHolds", inPlace := ["internal/abi.NoEscape"], unfollowed := true, recurses := true, apart := false }
def SegmentHoldsSaid : Prop := segmentHoldsRow.holds Try.pinned (OpenSpec.ofChange segmentHoldsSpec)

/-- ITS FALSE NEIGHBOUR: 'it returns false'. Refute it at one input. -/
def segmentHoldsWrong : ChangeSpec := { name := "segmentHolds", fn := fun _ => fun
  | [d] => { results := [.lit (.bool false)], args := [d] }
  | _ => none }
def SegmentHoldsWrongFalsely : Prop := segmentHoldsRow.holds Try.pinned (OpenSpec.ofChange segmentHoldsWrong)

/-- 'lecternlaw8.SegmentDocs': WHATEVER THE INPUT: true; the input reads as it did. -/
def segmentDocsSpec : ChangeSpec := { name := "segmentDocs", fn := fun _ => fun
  | [d] => { results := [.lit (.bool true)], args := [d] }
  | _ => none }
def segmentDocsRow : OpenClaim := { program := "ytjpcfpffbicpnaa", sum := "5c66382c59ca99b50bb33fbd9312365dc084b33bbd29b681ac03b3b0a7da4abd", func := "lectern/lecternlaw8.SegmentDocs", spec := "segmentDocs", inPlace := ["internal/abi.NoEscape"], unfollowed := true, recurses := true, apart := false }
def SegmentDocsSaid : Prop := segmentDocsRow.holds Try.pinned (OpenSpec.ofChange segmentDocsSpec)

/-- ITS FALSE NEIGHBOUR: 'it returns false'. Refute it at one input. -/
def segmentDocsWrong : ChangeSpec := { name := "segmentDocs", fn := fun _ => fun
  | [d] => { results := [.lit (.bool false)], args := [d] }
  | _ => none }
def SegmentDocsWrongFalsely : Prop := segmentDocsRow.holds Try.pinned (OpenSpec.ofChange segmentDocsWrong)

/- THE SECOND FORM. 'bulk': how many values and letters a reading holds, each counted each time it is reached (what is shared counts as often as it is met; a slice's spare places count too). A statement '..UptoSaid' is the law's where the arguments, and the package variables that the reading takes, are together of bulk at most 1048576: NARROWER than '..Said'. Prove '..Said' where nothing that the law and all that it calls make is longer than what came in: it says more and counts as full. Else prove '..UptoSaid'. A law counts once. -/
mutual
def uptoBulk {H : Type} : DataW H → Nat
  | .lit (.string bytes) => bytes.length + 1
  | .lit _ => 1
  | .nil => 1
  | .ptr d => uptoBulk d + 1
  | .slice elems spare => uptoBulkAll elems + uptoBulkAll spare + 1
  | .agg parts => uptoBulkAll parts + 1
  | .iface _ d => uptoBulk d + 1
  | .map entries => uptoBulkEntries entries + 1
  | .held _ => 1
def uptoBulkAll {H : Type} : List (DataW H) → Nat
  | [] => 0
  | d :: r => uptoBulk d + uptoBulkAll r
def uptoBulkEntries {H : Type} : List (Lit × DataW H) → Nat
  | [] => 0
  | x :: r => uptoBulkEntry x + uptoBulkEntries r
def uptoBulkEntry {H : Type} : Lit × DataW H → Nat
  | (.string bytes, d) => bytes.length + uptoBulk d + 1
  | (_, d) => uptoBulk d + 1
 end
def uptoSmall : (H : Type) → List (DataW H) → Bool := fun _ ds => decide (uptoBulkAll ds ≤ 1048576)
def OpenSpec.upto (s : _root_.Go.ChangeSpec) : _root_.Go.OpenSpec := { _root_.Go.OpenSpec.ofChange s with cond := some uptoSmall }

/-- 'lecternlaw11.SegcodeAny', WHERE WHAT IT READS IS OF BULK AT MOST 1048576: true; the input reads as it did. -/
def segcodeAnyUptoRow : OpenClaim := { program := "ytjpcfpffbicpnaa", sum := "5c66382c59ca99b50bb33fbd9312365dc084b33bbd29b681ac03b3b0a7da4abd", func := "lectern/lecternlaw11.SegcodeAny", spec := "segcodeAny", inPlace := ["internal/abi.NoEscape"], unfollowed := true, recurses := true, apart := false, narrowed := true }
def SegcodeAnyUptoSaid : Prop := segcodeAnyUptoRow.holds Try.pinned (OpenSpec.upto segcodeAnySpec)

/-- 'lecternlaw8.SegmentSearches', WHERE WHAT IT READS IS OF BULK AT MOST 1048576: true; the input reads as it did. -/
def segmentSearchesUptoRow : OpenClaim := { program := "ytjpcfpffbicpnaa", sum := "5c66382c59ca99b50bb33fbd9312365dc084b33bbd29b681ac03b3b0a7da4abd", func := "lectern/lecternlaw8.SegmentSearches", spec := "segmentSearches", unfollowed := true, recurses := true, apart := false, narrowed := true }
def SegmentSearchesUptoSaid : Prop := segmentSearchesUptoRow.holds Try.pinned (OpenSpec.upto segmentSearchesSpec)

/-- 'lecternlaw8.SegmentQuotas', WHERE WHAT IT READS IS OF BULK AT MOST 1048576: true; the input reads as it did. -/
def segmentQuotasUptoRow : OpenClaim := { program := "ytjpcfpffbicpnaa", sum := "5c66382c59ca99b50bb33fbd9312365dc084b33bbd29b681ac03b3b0a7da4abd", func := "lectern/lecternlaw8.SegmentQuotas", spec := "segmentQuotas", unfollowed := true, recurses := true, apart := false, narrowed := true }
def SegmentQuotasUptoSaid : Prop := segmentQuotasUptoRow.holds Try.pinned (OpenSpec.upto segmentQuotasSpec)

/-- 'lecternlaw8.SegmentIndex', WHERE WHAT IT READS IS OF BULK AT MOST 1048576: true; the input reads as it did. -/
def segmentIndexUptoRow : OpenClaim := { program := "ytjpcfpffbicpnaa", sum := "5c66382c59ca99b50bb33fbd9312365dc084b33bbd29b681ac03b3b0a7da4abd", func := "lectern/lecternlaw8.SegmentIndex", spec := "segmentIndex", unfollowed := true, recurses := true, apart := false, narrowed := true }
def SegmentIndexUptoSaid : Prop := segmentIndexUptoRow.holds Try.pinned (OpenSpec.upto segmentIndexSpec)

/-- 'lecternlaw8.SegmentHolds', WHERE WHAT IT READS IS OF BULK AT MOST 1048576: true; the input reads as it did. -/
def segmentHoldsUptoRow : OpenClaim := { program := "ytjpcfpffbicpnaa", sum := "5c66382c59ca99b50bb33fbd9312365dc084b33bbd29b681ac03b3b0a7da4abd", func := "lectern/lecternlaw8.SegmentHolds", spec := "segmentHolds", inPlace := ["internal/abi.NoEscape"], unfollowed := true, recurses := true, apart := false, narrowed := true }
def SegmentHoldsUptoSaid : Prop := segmentHoldsUptoRow.holds Try.pinned (OpenSpec.upto segmentHoldsSpec)

/-- 'lecternlaw8.SegmentDocs', WHERE WHAT IT READS IS OF BULK AT MOST 1048576: true; the input reads as it did. -/
def segmentDocsUptoRow : OpenClaim := { program := "ytjpcfpffbicpnaa", sum := "5c66382c59ca99b50bb33fbd9312365dc084b33bbd29b681ac03b3b0a7da4abd", func := "lectern/lecternlaw8.SegmentDocs", spec := "segmentDocs", inPlace := ["internal/abi.NoEscape"], unfollowed := true, recurses := true, apart := false, narrowed := true }
def SegmentDocsUptoSaid : Prop := segmentDocsUptoRow.holds Try.pinned (OpenSpec.upto segmentDocsSpec)

end Rows
end Go.Proofs.Ytjpcfpffbicpnaa
