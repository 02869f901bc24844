/- The walk of CopyEntries. -/
import Derived.Test.YtdbpgcaoakoojaaEntA
set_option linter.unusedVariables false
set_option linter.unusedSimpArgs false
namespace Go.Proofs.Ytdbpgcaoakoojaa
open Go.RowKit Lec

theorem info_ent : (Try.prog.info? 41).map (fun i => (i.zero, i.size, i.bytes)) = some (some (.agg #[.int .i64 0, .int .i64 0, .string ⟨#[]⟩]), 3, 32) := by kernel_rfl

set_option maxRecDepth 100000 in
theorem CopyEntries_any (w : World) (A : Option Addr) (n c : Nat) (es : List Ent) (hn : es.length = n) (hm : n ≤ 4000000000) (hr : Rds w A (entsC es)) :
    Calls Try.prog 24 #[.slice A n c] w fun e w' => ∃ v, e = .returned v ∧ w'.ownsRow w.heap.size 41 3 v n (entsC es) ∧ Below w.heap.size w w' := by
  have HR := Lib.hid hr
  have HN := Lib.hid hn
  clear hr hn
  go_enter Try.func24, Try.ntmps24
  go_wp2
  go_loopw [3, 4] (fun v i wr => ∃ k : Nat, k ≤ n ∧ i = .int .i64 k ∧ Hid (wr.ownsRow w.heap.size 41 3 v k (entsC (es.take k))) ∧ Hid (Below w.heap.size w wr)) (fun _ i _ => n - (intOf i).toNat)
  case atStart => exact ⟨0, by omega, rfl, World.ownsRow_nil _ _ _ _, Below.refl _ _⟩
  case round =>
    obtain ⟨k, hk, rfl, HO, HX⟩ := hrel
    by_cases h8 : k < n
    · have hk' : k < es.length := by rw [HN.out]; exact h8
      have hki : (k : Int) < (n : Int) := by omega
      obtain ⟨a, rfl, g0, g1, g2⟩ := ents_cells HR.out k hk'
      have e0 := cell_ext HX.out (Nat.le_refl _) g0
      have e1 := cell_ext HX.out (Nat.le_refl _) g1
      have e2 := cell_ext HX.out (Nat.le_refl _) g2
      clear g0 g1 g2
      have HL : Hid (entsC (es.take (k + 1)) = entsC (es.take k) ++ entC es[k]) := by
        show _ = _; rw [List.take_succ_eq_append_getElem hk', entsC_app]; simp [entsC]
      generalize es[k] = x at *
      obtain ⟨xi, xt, xd⟩ := x
      go_wp2_with (at_builtin; go_loud (refine wp_app1 (w0 := wr) rfl rfl _ _ 25 rfl w.heap.size 41 (.agg #[.int .i64 0, .int .i64 0, .string ⟨#[]⟩]) 3 32 Try.underlying25 info_ent rfl (by decide) (by decide) _ k _ rfl HO.out rfl rfl (by intro u hu; simp at hu; rcases hu with rfl | rfl | rfl <;> rfl) (by omega) HX.out.size ?_; intro v' w' hown' hg' hb'))
      go_roundw
      case rel => exact ⟨k + 1, by omega, by go_num, by show World.ownsRow _ _ _ _ _ _ _; rw [HL.out]; exact hown', HX.out.trans hb'⟩
      case measure => simp [intOf]; omega
    · obtain rfl : k = n := by omega
      have hki : ¬ (k : Int) < (k : Int) := by omega
      go_wp2
      go_ret
      refine ⟨_, rfl, ?_, HX.out⟩
      have := HO.out
      rwa [List.take_of_length_le (by rw [HN.out]; exact Nat.le_refl _)] at this
end Go.Proofs.Ytdbpgcaoakoojaa
