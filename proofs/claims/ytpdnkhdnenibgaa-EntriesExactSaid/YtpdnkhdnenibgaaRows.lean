/-
  No cell of these rows narrows 'for every input' (looked for: loops, veiled, ifaces, maps, wideKeys, modest, calm, conditions, laid).
  DERIVED. THE GIVEN ROWS OF THIS SEAT. 12 by the template 'for every input the law returns true; each argument reads behind the call as it read before'; 0 by the template 'total and deterministic' (their statements: YtpdnkhdnenibgaaTotals.lean).
  GIVEN WITH THE SEED: the statements are not yours to turn. If you find one false, say at which input.
  Laid BY PROGRAM, IN A SANDBOX (cutbox-rows.mjs): the forced cells as the released guide's own fill.sh prints them over the translation b73bd148c31ab926… (all of the seat's roots in one cut). By AI agents, Wed Nov 11 2026. No macro, syntax, notation, axiom, sorry.
-/
import Derived.Test.YtpdnkhdnenibgaaChecked
import GoSem.Claim
import GoSem.ClaimJoined
import GoSem.ClaimMapViews
import Derived.JoinedTies
import Derived.KernelRfl
namespace Go.Proofs.Ytpdnkhdnenibgaa
/- THE CELL 'sum', in the pinned program and in every row, IS THE sha256 OF THE DUMP (.gsa) THAT YtpdnkhdnenibgaaProg.lean LOADS. Nothing in Lean hashes anything: it is a label: what it is worth is what the hold of that sum in a sandbox is worth. -/
noncomputable def Try.pinned : Pinned := { name := "ytpdnkhdnenibgaa", sum := "b73bd148c31ab9265e1f118f912366ed687f77f62d8a9b7f48ec467e48ca6bb6", checked := Try.checked }
namespace Rows
def none {H : Type} : Left H := { results := [], args := [] }

/-- 'lecternlaw23.EntriesAppends': WHATEVER THE INPUT: true; the input reads as it did. -/
def entriesAppendsSpec : ChangeSpec := { name := "entriesAppends", fn := fun _ => fun
  | [d] => { results := [.lit (.bool true)], args := [d] }
  | _ => none }
def entriesAppendsRow : OpenClaim := { program := "ytpdnkhdnenibgaa", sum := "b73bd148c31ab9265e1f118f912366ed687f77f62d8a9b7f48ec467e48ca6bb6", func := "lectern/lecternlaw23.EntriesAppends", spec := "entriesAppends", apart := false }
def EntriesAppendsSaid : Prop := entriesAppendsRow.holds Try.pinned (OpenSpec.ofChange entriesAppendsSpec)

/-- ITS FALSE NEIGHBOUR: 'it returns false'. Refute it at one input. -/
def entriesAppendsWrong : ChangeSpec := { name := "entriesAppends", fn := fun _ => fun
  | [d] => { results := [.lit (.bool false)], args := [d] }
  | _ => none }
def EntriesAppendsWrongFalsely : Prop := entriesAppendsRow.holds Try.pinned (OpenSpec.ofChange entriesAppendsWrong)

/-- 'lecternlaw23.EntriesLast': WHATEVER THE INPUT: true; the input reads as it did. -/
def entriesLastSpec : ChangeSpec := { name := "entriesLast", fn := fun _ => fun
  | [d] => { results := [.lit (.bool true)], args := [d] }
  | _ => none }
def entriesLastRow : OpenClaim := { program := "ytpdnkhdnenibgaa", sum := "b73bd148c31ab9265e1f118f912366ed687f77f62d8a9b7f48ec467e48ca6bb6", func := "lectern/lecternlaw23.EntriesLast", spec := "entriesLast", apart := false }
def EntriesLastSaid : Prop := entriesLastRow.holds Try.pinned (OpenSpec.ofChange entriesLastSpec)

/-- ITS FALSE NEIGHBOUR: 'it returns false'. Refute it at one input. -/
def entriesLastWrong : ChangeSpec := { name := "entriesLast", fn := fun _ => fun
  | [d] => { results := [.lit (.bool false)], args := [d] }
  | _ => none }
def EntriesLastWrongFalsely : Prop := entriesLastRow.holds Try.pinned (OpenSpec.ofChange entriesLastWrong)

/-- 'lecternlaw23.EntriesCuts': WHATEVER THE INPUT: true; the input reads as it did. -/
def entriesCutsSpec : ChangeSpec := { name := "entriesCuts", fn := fun _ => fun
  | [d] => { results := [.lit (.bool true)], args := [d] }
  | _ => none }
def entriesCutsRow : OpenClaim := { program := "ytpdnkhdnenibgaa", sum := "b73bd148c31ab9265e1f118f912366ed687f77f62d8a9b7f48ec467e48ca6bb6", func := "lectern/lecternlaw23.EntriesCuts", spec := "entriesCuts", apart := false }
def EntriesCutsSaid : Prop := entriesCutsRow.holds Try.pinned (OpenSpec.ofChange entriesCutsSpec)

/-- ITS FALSE NEIGHBOUR: 'it returns false'. Refute it at one input. -/
def entriesCutsWrong : ChangeSpec := { name := "entriesCuts", fn := fun _ => fun
  | [d] => { results := [.lit (.bool false)], args := [d] }
  | _ => none }
def EntriesCutsWrongFalsely : Prop := entriesCutsRow.holds Try.pinned (OpenSpec.ofChange entriesCutsWrong)

/-- 'lecternlaw23.EntriesNewer': WHATEVER THE INPUT: true; the input reads as it did. -/
def entriesNewerSpec : ChangeSpec := { name := "entriesNewer", fn := fun _ => fun
  | [d] => { results := [.lit (.bool true)], args := [d] }
  | _ => none }
def entriesNewerRow : OpenClaim := { program := "ytpdnkhdnenibgaa", sum := "b73bd148c31ab9265e1f118f912366ed687f77f62d8a9b7f48ec467e48ca6bb6", func := "lectern/lecternlaw23.EntriesNewer", spec := "entriesNewer", apart := false }
def EntriesNewerSaid : Prop := entriesNewerRow.holds Try.pinned (OpenSpec.ofChange entriesNewerSpec)

/-- ITS FALSE NEIGHBOUR: 'it returns false'. Refute it at one input. -/
def entriesNewerWrong : ChangeSpec := { name := "entriesNewer", fn := fun _ => fun
  | [d] => { results := [.lit (.bool false)], args := [d] }
  | _ => none }
def EntriesNewerWrongFalsely : Prop := entriesNewerRow.holds Try.pinned (OpenSpec.ofChange entriesNewerWrong)

/-- 'lecternlaw23.EntriesTerms': WHATEVER THE INPUT: true; the input reads as it did. -/
def entriesTermsSpec : ChangeSpec := { name := "entriesTerms", fn := fun _ => fun
  | [d] => { results := [.lit (.bool true)], args := [d] }
  | _ => none }
def entriesTermsRow : OpenClaim := { program := "ytpdnkhdnenibgaa", sum := "b73bd148c31ab9265e1f118f912366ed687f77f62d8a9b7f48ec467e48ca6bb6", func := "lectern/lecternlaw23.EntriesTerms", spec := "entriesTerms", apart := false }
def EntriesTermsSaid : Prop := entriesTermsRow.holds Try.pinned (OpenSpec.ofChange entriesTermsSpec)

/-- ITS FALSE NEIGHBOUR: 'it returns false'. Refute it at one input. -/
def entriesTermsWrong : ChangeSpec := { name := "entriesTerms", fn := fun _ => fun
  | [d] => { results := [.lit (.bool false)], args := [d] }
  | _ => none }
def EntriesTermsWrongFalsely : Prop := entriesTermsRow.holds Try.pinned (OpenSpec.ofChange entriesTermsWrong)

/-- 'lecternlaw23.EntriesSlices': WHATEVER THE INPUT: true; the input reads as it did. -/
def entriesSlicesSpec : ChangeSpec := { name := "entriesSlices", fn := fun _ => fun
  | [d] => { results := [.lit (.bool true)], args := [d] }
  | _ => none }
def entriesSlicesRow : OpenClaim := { program := "ytpdnkhdnenibgaa", sum := "b73bd148c31ab9265e1f118f912366ed687f77f62d8a9b7f48ec467e48ca6bb6", func := "lectern/lecternlaw23.EntriesSlices", spec := "entriesSlices", apart := false }
def EntriesSlicesSaid : Prop := entriesSlicesRow.holds Try.pinned (OpenSpec.ofChange entriesSlicesSpec)

/-- ITS FALSE NEIGHBOUR: 'it returns false'. Refute it at one input. -/
def entriesSlicesWrong : ChangeSpec := { name := "entriesSlices", fn := fun _ => fun
  | [d] => { results := [.lit (.bool false)], args := [d] }
  | _ => none }
def EntriesSlicesWrongFalsely : Prop := entriesSlicesRow.holds Try.pinned (OpenSpec.ofChange entriesSlicesWrong)

/-- 'lecternlaw23.EntriesCompacts': WHATEVER THE INPUT: true; the input reads as it did. -/
def entriesCompactsSpec : ChangeSpec := { name := "entriesCompacts", fn := fun _ => fun
  | [d] => { results := [.lit (.bool true)], args := [d] }
  | _ => none }
def entriesCompactsRow : OpenClaim := { program := "ytpdnkhdnenibgaa", sum := "b73bd148c31ab9265e1f118f912366ed687f77f62d8a9b7f48ec467e48ca6bb6", func := "lectern/lecternlaw23.EntriesCompacts", spec := "entriesCompacts", apart := false }
def EntriesCompactsSaid : Prop := entriesCompactsRow.holds Try.pinned (OpenSpec.ofChange entriesCompactsSpec)

/-- ITS FALSE NEIGHBOUR: 'it returns false'. Refute it at one input. -/
def entriesCompactsWrong : ChangeSpec := { name := "entriesCompacts", fn := fun _ => fun
  | [d] => { results := [.lit (.bool false)], args := [d] }
  | _ => none }
def EntriesCompactsWrongFalsely : Prop := entriesCompactsRow.holds Try.pinned (OpenSpec.ofChange entriesCompactsWrong)

/-- 'lecternlaw23.EntriesAgain': WHATEVER THE INPUT: true; the input reads as it did. -/
def entriesAgainSpec : ChangeSpec := { name := "entriesAgain", fn := fun _ => fun
  | [d] => { results := [.lit (.bool true)], args := [d] }
  | _ => none }
def entriesAgainRow : OpenClaim := { program := "ytpdnkhdnenibgaa", sum := "b73bd148c31ab9265e1f118f912366ed687f77f62d8a9b7f48ec467e48ca6bb6", func := "lectern/lecternlaw23.EntriesAgain", spec := "entriesAgain", apart := false }
def EntriesAgainSaid : Prop := entriesAgainRow.holds Try.pinned (OpenSpec.ofChange entriesAgainSpec)

/-- ITS FALSE NEIGHBOUR: 'it returns false'. Refute it at one input. -/
def entriesAgainWrong : ChangeSpec := { name := "entriesAgain", fn := fun _ => fun
  | [d] => { results := [.lit (.bool false)], args := [d] }
  | _ => none }
def EntriesAgainWrongFalsely : Prop := entriesAgainRow.holds Try.pinned (OpenSpec.ofChange entriesAgainWrong)

/-- 'lecternlaw16.CommandAny': WHATEVER THE INPUT: true; the input reads as it did. -/
def commandAnySpec : ChangeSpec := { name := "commandAny", fn := fun _ => fun
  | [d] => { results := [.lit (.bool true)], args := [d] }
  | _ => none }
def commandAnyRow : OpenClaim := { program := "ytpdnkhdnenibgaa", sum := "b73bd148c31ab9265e1f118f912366ed687f77f62d8a9b7f48ec467e48ca6bb6", func := "lectern/lecternlaw16.CommandAny", spec := "commandAny", apart := false }
def CommandAnySaid : Prop := commandAnyRow.holds Try.pinned (OpenSpec.ofChange commandAnySpec)

/-- ITS FALSE NEIGHBOUR: 'it returns false'. Refute it at one input. -/
def commandAnyWrong : ChangeSpec := { name := "commandAny", fn := fun _ => fun
  | [d] => { results := [.lit (.bool false)], args := [d] }
  | _ => none }
def CommandAnyWrongFalsely : Prop := commandAnyRow.holds Try.pinned (OpenSpec.ofChange commandAnyWrong)

/-- 'lecternlaw23.EntriesExact': WHATEVER THE INPUT: true; the input reads as it did. -/
def entriesExactSpec : ChangeSpec := { name := "entriesExact", fn := fun _ => fun
  | [d] => { results := [.lit (.bool true)], args := [d] }
  | _ => none }
def entriesExactRow : OpenClaim := { program := "ytpdnkhdnenibgaa", sum := "b73bd148c31ab9265e1f118f912366ed687f77f62d8a9b7f48ec467e48ca6bb6", func := "lectern/lecternlaw23.EntriesExact", spec := "entriesExact", apart := false }
def EntriesExactSaid : Prop := entriesExactRow.holds Try.pinned (OpenSpec.ofChange entriesExactSpec)

/-- ITS FALSE NEIGHBOUR: 'it returns false'. Refute it at one input. -/
def entriesExactWrong : ChangeSpec := { name := "entriesExact", fn := fun _ => fun
  | [d] => { results := [.lit (.bool false)], args := [d] }
  | _ => none }
def EntriesExactWrongFalsely : Prop := entriesExactRow.holds Try.pinned (OpenSpec.ofChange entriesExactWrong)

/-- 'lecternlaw22.NetOnce': WHATEVER THE INPUT: true; the input reads as it did. -/
def netOnceSpec : ChangeSpec := { name := "netOnce", fn := fun _ => fun
  | [d] => { results := [.lit (.bool true)], args := [d] }
  | _ => none }
def netOnceRow : OpenClaim := { program := "ytpdnkhdnenibgaa", sum := "b73bd148c31ab9265e1f118f912366ed687f77f62d8a9b7f48ec467e48ca6bb6", func := "lectern/lecternlaw22.NetOnce", spec := "netOnce", unfollowed := true, recurses := true, apart := false }
def NetOnceSaid : Prop := netOnceRow.holds Try.pinned (OpenSpec.ofChange netOnceSpec)

/-- ITS FALSE NEIGHBOUR: 'it returns false'. Refute it at one input. -/
def netOnceWrong : ChangeSpec := { name := "netOnce", fn := fun _ => fun
  | [d] => { results := [.lit (.bool false)], args := [d] }
  | _ => none }
def NetOnceWrongFalsely : Prop := netOnceRow.holds Try.pinned (OpenSpec.ofChange netOnceWrong)

/-- 'lecternlaw22.NetExact': WHATEVER THE INPUT: true; the input reads as it did. -/
def netExactSpec : ChangeSpec := { name := "netExact", fn := fun _ => fun
  | [d] => { results := [.lit (.bool true)], args := [d] }
  | _ => none }
def netExactRow : OpenClaim := { program := "ytpdnkhdnenibgaa", sum := "b73bd148c31ab9265e1f118f912366ed687f77f62d8a9b7f48ec467e48ca6bb6", func := "lectern/lecternlaw22.NetExact", spec := "netExact", unfollowed := true, recurses := true, apart := false }
def NetExactSaid : Prop := netExactRow.holds Try.pinned (OpenSpec.ofChange netExactSpec)

/-- ITS FALSE NEIGHBOUR: 'it returns false'. Refute it at one input. -/
def netExactWrong : ChangeSpec := { name := "netExact", fn := fun _ => fun
  | [d] => { results := [.lit (.bool false)], args := [d] }
  | _ => none }
def NetExactWrongFalsely : Prop := netExactRow.holds Try.pinned (OpenSpec.ofChange netExactWrong)

/- THE SECOND FORM. 'bulk': how many values and letters a reading holds, each counted each time it is reached (what is shared counts as often as it is met; a slice's spare places count too). A statement '..UptoSaid' is the law's where the arguments, and the package variables that the reading takes, are together of bulk at most 1048576: NARROWER than '..Said'. Prove '..Said' where nothing that the law and all that it calls make is longer than what came in: it says more and counts as full. Else prove '..UptoSaid'. A law counts once. -/
mutual
def uptoBulk {H : Type} : DataW H → Nat
  | .lit (.string bytes) => bytes.length + 1
  | .lit _ => 1
  | .nil => 1
  | .ptr d => uptoBulk d + 1
  | .slice elems spare => uptoBulkAll elems + uptoBulkAll spare + 1
  | .agg parts => uptoBulkAll parts + 1
  | .iface _ d => uptoBulk d + 1
  | .map entries => uptoBulkEntries entries + 1
  | .held _ => 1
def uptoBulkAll {H : Type} : List (DataW H) → Nat
  | [] => 0
  | d :: r => uptoBulk d + uptoBulkAll r
def uptoBulkEntries {H : Type} : List (Lit × DataW H) → Nat
  | [] => 0
  | x :: r => uptoBulkEntry x + uptoBulkEntries r
def uptoBulkEntry {H : Type} : Lit × DataW H → Nat
  | (.string bytes, d) => bytes.length + uptoBulk d + 1
  | (_, d) => uptoBulk d + 1
 end
def uptoSmall : (H : Type) → List (DataW H) → Bool := fun _ ds => decide (uptoBulkAll ds ≤ 1048576)
def OpenSpec.upto (s : _root_.Go.ChangeSpec) : _root_.Go.OpenSpec := { _root_.Go.OpenSpec.ofChange s with cond := some uptoSmall }

/-- 'lecternlaw23.EntriesAppends', WHERE WHAT IT READS IS OF BULK AT MOST 1048576: true; the input reads as it did. -/
def entriesAppendsUptoRow : OpenClaim := { program := "ytpdnkhdnenibgaa", sum := "b73bd148c31ab9265e1f118f912366ed687f77f62d8a9b7f48ec467e48ca6bb6", func := "lectern/lecternlaw23.EntriesAppends", spec := "entriesAppends", apart := false, narrowed := true }
def EntriesAppendsUptoSaid : Prop := entriesAppendsUptoRow.holds Try.pinned (OpenSpec.upto entriesAppendsSpec)

/-- 'lecternlaw23.EntriesLast', WHERE WHAT IT READS IS OF BULK AT MOST 1048576: true; the input reads as it did. -/
def entriesLastUptoRow : OpenClaim := { program := "ytpdnkhdnenibgaa", sum := "b73bd148c31ab9265e1f118f912366ed687f77f62d8a9b7f48ec467e48ca6bb6", func := "lectern/lecternlaw23.EntriesLast", spec := "entriesLast", apart := false, narrowed := true }
def EntriesLastUptoSaid : Prop := entriesLastUptoRow.holds Try.pinned (OpenSpec.upto entriesLastSpec)

/-- 'lecternlaw23.EntriesCuts', WHERE WHAT IT READS IS OF BULK AT MOST 1048576: true; the input reads as it did. -/
def entriesCutsUptoRow : OpenClaim := { program := "ytpdnkhdnenibgaa", sum := "b73bd148c31ab9265e1f118f912366ed687f77f62d8a9b7f48ec467e48ca6bb6", func := "lectern/lecternlaw23.EntriesCuts", spec := "entriesCuts", apart := false, narrowed := true }
def EntriesCutsUptoSaid : Prop := entriesCutsUptoRow.holds Try.pinned (OpenSpec.upto entriesCutsSpec)

/-- 'lecternlaw23.EntriesNewer', WHERE WHAT IT READS IS OF BULK AT MOST 1048576: true; the input reads as it did. -/
def entriesNewerUptoRow : OpenClaim := { program := "ytpdnkhdnenibgaa", sum := "b73bd148c31ab9265e1f118f912366ed687f77f62d8a9b7f48ec467e48ca6bb6", func := "lectern/lecternlaw23.EntriesNewer", spec := "entriesNewer", apart := false, narrowed := true }
def EntriesNewerUptoSaid : Prop := entriesNewerUptoRow.holds Try.pinned (OpenSpec.upto entriesNewerSpec)

/-- 'lecternlaw23.EntriesTerms', WHERE WHAT IT READS IS OF BULK AT MOST 1048576: true; the input reads as it did. -/
def entriesTermsUptoRow : OpenClaim := { program := "ytpdnkhdnenibgaa", sum := "b73bd148c31ab9265e1f118f912366ed687f77f62d8a9b7f48ec467e48ca6bb6", func := "lectern/lecternlaw23.EntriesTerms", spec := "entriesTerms", apart := false, narrowed := true }
def EntriesTermsUptoSaid : Prop := entriesTermsUptoRow.holds Try.pinned (OpenSpec.upto entriesTermsSpec)

/-- 'lecternlaw23.EntriesSlices', WHERE WHAT IT READS IS OF BULK AT MOST 1048576: true; the input reads as it did. -/
def entriesSlicesUptoRow : OpenClaim := { program := "ytpdnkhdnenibgaa", sum := "b73bd148c31ab9265e1f118f912366ed687f77f62d8a9b7f48ec467e48ca6bb6", func := "lectern/lecternlaw23.EntriesSlices", spec := "entriesSlices", apart := false, narrowed := true }
def EntriesSlicesUptoSaid : Prop := entriesSlicesUptoRow.holds Try.pinned (OpenSpec.upto entriesSlicesSpec)

/-- 'lecternlaw23.EntriesCompacts', WHERE WHAT IT READS IS OF BULK AT MOST 1048576: true; the input reads as it did. -/
def entriesCompactsUptoRow : OpenClaim := { program := "ytpdnkhdnenibgaa", sum := "b73bd148c31ab9265e1f118f912366ed687f77f62d8a9b7f48ec467e48ca6bb6", func := "lectern/lecternlaw23.EntriesCompacts", spec := "entriesCompacts", apart := false, narrowed := true }
def EntriesCompactsUptoSaid : Prop := entriesCompactsUptoRow.holds Try.pinned (OpenSpec.upto entriesCompactsSpec)

/-- 'lecternlaw23.EntriesAgain', WHERE WHAT IT READS IS OF BULK AT MOST 1048576: true; the input reads as it did. -/
def entriesAgainUptoRow : OpenClaim := { program := "ytpdnkhdnenibgaa", sum := "b73bd148c31ab9265e1f118f912366ed687f77f62d8a9b7f48ec467e48ca6bb6", func := "lectern/lecternlaw23.EntriesAgain", spec := "entriesAgain", apart := false, narrowed := true }
def EntriesAgainUptoSaid : Prop := entriesAgainUptoRow.holds Try.pinned (OpenSpec.upto entriesAgainSpec)

/-- 'lecternlaw16.CommandAny', WHERE WHAT IT READS IS OF BULK AT MOST 1048576: true; the input reads as it did. -/
def commandAnyUptoRow : OpenClaim := { program := "ytpdnkhdnenibgaa", sum := "b73bd148c31ab9265e1f118f912366ed687f77f62d8a9b7f48ec467e48ca6bb6", func := "lectern/lecternlaw16.CommandAny", spec := "commandAny", apart := false, narrowed := true }
def CommandAnyUptoSaid : Prop := commandAnyUptoRow.holds Try.pinned (OpenSpec.upto commandAnySpec)

/-- 'lecternlaw23.EntriesExact', WHERE WHAT IT READS IS OF BULK AT MOST 1048576: true; the input reads as it did. -/
def entriesExactUptoRow : OpenClaim := { program := "ytpdnkhdnenibgaa", sum := "b73bd148c31ab9265e1f118f912366ed687f77f62d8a9b7f48ec467e48ca6bb6", func := "lectern/lecternlaw23.EntriesExact", spec := "entriesExact", apart := false, narrowed := true }
def EntriesExactUptoSaid : Prop := entriesExactUptoRow.holds Try.pinned (OpenSpec.upto entriesExactSpec)

/-- 'lecternlaw22.NetOnce', WHERE WHAT IT READS IS OF BULK AT MOST 1048576: true; the input reads as it did. -/
def netOnceUptoRow : OpenClaim := { program := "ytpdnkhdnenibgaa", sum := "b73bd148c31ab9265e1f118f912366ed687f77f62d8a9b7f48ec467e48ca6bb6", func := "lectern/lecternlaw22.NetOnce", spec := "netOnce", unfollowed := true, recurses := true, apart := false, narrowed := true }
def NetOnceUptoSaid : Prop := netOnceUptoRow.holds Try.pinned (OpenSpec.upto netOnceSpec)

/-- 'lecternlaw22.NetExact', WHERE WHAT IT READS IS OF BULK AT MOST 1048576: true; the input reads as it did. -/
def netExactUptoRow : OpenClaim := { program := "ytpdnkhdnenibgaa", sum := "b73bd148c31ab9265e1f118f912366ed687f77f62d8a9b7f48ec467e48ca6bb6", func := "lectern/lecternlaw22.NetExact", spec := "netExact", unfollowed := true, recurses := true, apart := false, narrowed := true }
def NetExactUptoSaid : Prop := netExactUptoRow.holds Try.pinned (OpenSpec.upto netExactSpec)

end Rows
end Go.Proofs.Ytpdnkhdnenibgaa
