/-
  For every question the law SegmentQuotas returns true and leaves its argument as it was.
-/
import Derived.Test.YtjpcfpffbicpnaaRows
import Derived.Test.YtjpcfpffbicpnaaWSegmentQuotas
import Derived.WalkKit
import Derived.ProofKit
import Derived.OpenShut
import Derived.ChangeOld
import Derived.Below
import Derived.SizedLaws
set_option linter.unusedVariables false
namespace Go.Proofs.Ytjpcfpffbicpnaa.SegmentQuotasRow
open Go.ChangeShapes Go.WideShapes Go.ChangeAt Go.RowKit Lec
theorem own : ownKnob Try.prog.godebug = none := by kernel_rfl
theorem laidOut : laidOutB Try.prog = true := by kernel_rfl
set_option maxRecDepth 100000 in
theorem lifted (os : Os) (started : os.Started) (H : Type) (enc : TypeId × Value → H) :
    ReturnsInHanded {} Try.checked os 5 .any (Rows.segmentQuotasSpec.pre6 enc Try.prog Try.f5 Rows.segmentQuotasRow.domain false) (Rows.segmentQuotasSpec.post enc Try.prog Try.f5 false true false false) := by
  refine returnsInHanded_of_change_sized (C := Try.checked) own started (by kernel_rfl) Try.func5
    (ChangeSpec.witness6 (enc := enc) (C := Try.checked) false ⟨#[], #[.agg #[.slice none 0 0, .slice none 0 0, .slice none 0 0]], []⟩ 8 (by kernel_rfl) (by kernel_rfl) (by kernel_rfl) (by kernel_rfl)) ?_
  intro W base args ds gs before hval0 hW hcnd hsz0 _
  have hsz : (DataW.weightsEach Try.prog (Try.f5.params.toList ++ Rows.segmentQuotasSpec.plain.varTypes Try.prog) (ds ++ gs)).all (· ≤ reachBytes) = true := hsz0
  have hval : ∀ (j : Nat) t v, Try.f5.params[j]? = some t → args[j]? = some v → Value.okWide Try.prog W .any base t v := hval0
  have hW' := hW
  obtain ⟨p, q, hA0, hV, rfl, hfz, hnd⟩ := hW
  have hA : DataW.TrodAll enc Try.prog W 0 (fun _ => true) true Try.f5.params.toList args.toList ds p := hA0
  rw [Try.params5] at hA hval hsz
  obtain ⟨v0, d0, rfl, rfl, h0⟩ := trodAll_one hA
  obtain ⟨rfl, rfl⟩ := trodVars_none hV
  obtain ⟨cs, rfl, hcs⟩ := okWide_struct Try.underlying40 (hval 0 40 v0 rfl rfl)
  have k0 := h0
  have lt0 : ∀ x ∈ p, x.block < W.heap.size := by obtain ⟨m, hm⟩ := k0; exact DataW.trod_lt m _ _ _ hm
  obtain ⟨fuel, hf⟩ := h0
  have hz : ∀ n ∈ d0.weights Try.prog 40, n ≤ reachBytes := fun n hn => by
    have := List.all_eq_true.1 hsz n (by simp [DataW.weightsEach, hn])
    simpa using this
  obtain ⟨x, u1, u2, he, _, ⟨A, c, rfl, a1, a2, a3, a4, a5⟩, u3, u4, rfl, _, ⟨B, d, rfl, b1, b2, b3, b4, b5⟩, ⟨C, e0, rfl, c1, c2, c3, c4, c5⟩⟩ := askG_of.out H enc W 0 _ true fuel _ d0 p (fun _ => rfl) hf hz
  have he' : cs = #[.slice A x.1.length c, .slice B x.2.1.length d, .slice C x.2.2.length e0] := by
    have := congrArg List.toArray he
    simpa [Value.cells] using this
  subst he'
  clear hA0 hval0 hsz0 hsz hz
  have hwk := SegmentQuotas_walk W A B C c d e0 (x.1.map mkDoc) x.2.1 x.2.2 (by rw [List.length_map]; exact reachG a1 a4 (by decide)) (reachG b1 b4 (by decide)) (reachG c1 c4 (by decide)) (docs_sz a5) (texts_sz b5) (texts_sz c5) (docs_of a5) b5.rds c5.rds
  rw [List.length_map] at hwk
  refine hwk.mono fun e W' ⟨he, bel⟩ => ?_
  subst he
  exact ⟨_, rfl, _, _, _, [], _, [], hW', trodAll_mk1 (shut_bool Try.underlying4 _), trodAll_mk1 (Below.trod laidOut (by kernel_rfl) (of_decide_eq_true (by kernel_rfl)) k0 bel lt0), rfl, bel.frame _, fun h => by cases h⟩
theorem over : Rows.segmentQuotasRow.holds Try.pinned (OpenSpec.ofChange Rows.segmentQuotasSpec) :=
  OpenClaim.holds_of_wide 5 Try.f5 rfl rfl rfl rfl rfl rfl rfl ⟨rfl, rfl, rfl, rfl, rfl⟩ rfl rfl rfl rfl rfl (by kernel_rfl) Try.func5 (by kernel_rfl)
    (of_decide_eq_true (by kernel_rfl)) (by unfold Func.isWrapper; first | (rw [if_pos (by decide +kernel)]; kernel_rfl) | (rw [if_neg (by decide +kernel)]; exact ⟨rfl, rfl⟩))
    (fun os started H enc _ => lifted os started H enc)
theorem proved : Rows.SegmentQuotasSaid := over
#print axioms proved
end Go.Proofs.Ytjpcfpffbicpnaa.SegmentQuotasRow
namespace Go.Proofs.Ytjpcfpffbicpnaa
/-- The row, under a short name, for the claim. -/
theorem segmentQuotas_holds : Rows.SegmentQuotasSaid := SegmentQuotasRow.proved
end Go.Proofs.Ytjpcfpffbicpnaa
