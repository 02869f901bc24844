/- The walk of the law SumExact. -/
import Derived.Test.YthibhndeejichaaWakes9
import Derived.Test.YthibhndeejichaaQuiet
import Derived.Test.YthibhndeejichaaRef10Sum
import Derived.Test.YthibhndeejichaaAsk9
import Derived.Test.YthibhndeejichaaHelpCB
import Derived.Test.YthibhndeejichaaHelpEB
set_option linter.unusedVariables false
set_option linter.unusedSimpArgs false
namespace Go.Proofs.Ythibhndeejichaa
open Go.RowKit Lec

set_option maxRecDepth 100000 in
set_option maxHeartbeats 1000000 in
theorem SumExact_walk (W : World) (A : Option Addr) (c : Nat) (xs : List (Nat × List UInt8 × Int)) (hrow : Row Ask9 W A xs) (hlc : xs.length ≤ c) (hcm : c ≤ maxLen) (hnone : A = none → xs.length = 0 ∧ c = 0) (hby : c * 40 ≤ reachBytes) :
    Calls Try.prog 3 #[.slice A xs.length c] W fun e w' => e = .returned (.bool true) ∧ Below W.heap.size W w' := by
  have HR := Lib.hid hrow
  have hlen : xs.length ≤ 9223372036854775807 := by unfold maxLen at hcm; omega
  clear hrow hnone hby hcm hlc
  go_enter Try.func3, Try.ntmps3
  go_wp2
  go_loopw [3] (fun i wr => ∃ k : Nat, k ≤ xs.length ∧ i = .int .i64 k ∧ Hid (Below W.heap.size W wr)) (fun i _ => xs.length - (intOf i).toNat)
  case atStart => exact ⟨0, by omega, rfl, Below.refl _ _⟩
  case round =>
    obtain ⟨k, hk, rfl, HX⟩ := hrel
    by_cases h1 : k < xs.length ∧ k < 20
    · obtain ⟨h1, h2⟩ := h1
      have h1i : (k : Int) < (xs.length : Int) := by omega
      have h2i : (k : Int) < 20 := by omega
      obtain ⟨a, B, cb, rfl, hc0, hs0, hc1, hc2, hb1, hb2, hb3, hb4, hb5⟩ := ask9_at (HR.out.ext HX.out (Nat.le_refl _)) k h1
      have HB4 := Lib.hid hb4
      clear hb3 hb4 hb5
      by_cases h3 : 3000 < xs[k].2.1.length
      · have h3i : (3000 : Int) < (xs[k].2.1.length : Int) := by omega
        go_wp2
        go_ret
        exact ⟨rfl, HX.out⟩
      · have h3i : ¬ (3000 : Int) < (xs[k].2.1.length : Int) := by omega
        go_wp2_with fail
        refine (CopyBytes_any wr B _ cb xs[k].2.1 rfl (by omega) HB4.out).mono ?_
        rintro e w1 ⟨v, rfl, hown, hb⟩
        go_wp2_with fail
        obtain ⟨A2, c2, rfl, g1, g2, g3, g4, g5⟩ := own_rds hown
        have HQ0 : Hid (∀ w', Ext w1 w' → w'.cell? (a.add (k * 3)) = some (.int .u32 (xs[k].1 : Int))) := fun w' h => h.cell (cell_ext hb (Nat.le_refl _) hc0)
        have HQ1 : Hid (∀ w', Ext w1 w' → w'.cell? ⟨(a.add (k * 3)).block, (a.add (k * 3)).off + 1, none⟩ = some (.slice B xs[k].2.1.length cb)) := fun w' h => h.cell (cell_ext hb (Nat.le_refl _) hc1)
        have HB := Lib.hid hb
        have HBS := Lib.hid (HB4.out.ext hb (Nat.le_refl _))
        have HG := Lib.hid g4
        have hne : ((csum xs[k].1 xs[k].2.1 : Int) != (csum xs[k].1 xs[k].2.1 : Int)) = false := by simp
        have hdd : decide (xs[k].2.1 = xs[k].2.1) = true := by simp
        clear hb g1 g2 g3 g4 g5 hown hc0 hc1 hc2
        refine wp_region_cls (Ext w1) (by kernel_rfl) (by kernel_rfl) (Ext.drawn _) ?_
        repeat (go_big_quiet_step (first
          | (intro _; rfl)
          | (intro hC; (first | rw [HQ0.out _ hC] | rw [HQ1.out _ hC]); exact ⟨rfl, rfl⟩)
          | (intro hC; go_at_call 15; exact Calls.cls hC (sum_any _ hs0 _ _ _ _ xs[k].2.1 rfl (by omega) (hC.rds HG.out)))
          | (intro hC; go_at_call 16; exact Calls.cls_same hC (refSum_any _ hs0 _ _ _ _ xs[k].2.1 rfl (by omega) (hC.rds HBS.out)))
          | (intro hC; go_at_call 17; exact Calls.cls_drawn hC (EqBytes_any _ _ _ _ xs[k].2.1 rfl (hC.rds HG.out) _ _ _ xs[k].2.1 rfl (hC.rds HBS.out) (by omega)))))
        refine wpQuiet_nil ?_
        intro w2 hC2
        have HX2 : Hid (Below W.heap.size W w2) := HX.out.trans ((HB.out.trans (hC2.below.mono HB.out.size)).mono HX.out.size)
        clear hC2 hne hdd
        go_wp2
        go_roundw
        case rel => exact ⟨k + 1, by omega, by go_num, HX2⟩
        case measure => simp [intOf]; omega
    · by_cases h2 : k < xs.length
      · have h1i : (k : Int) < (xs.length : Int) := by omega
        have h2i : ¬ (k : Int) < 20 := by omega
        go_wp2_with (go_at_call 18; refine (wakes9 _).mono ?_; rintro e w1 ⟨rfl, hb⟩)
        go_ret
        exact ⟨rfl, HX.out.trans (hb.mono HX.out.size)⟩
      · have h1i : ¬ (k : Int) < (xs.length : Int) := by omega
        go_wp2_with (go_at_call 18; refine (wakes9 _).mono ?_; rintro e w1 ⟨rfl, hb⟩)
        go_ret
        exact ⟨rfl, HX.out.trans (hb.mono HX.out.size)⟩
end Go.Proofs.Ythibhndeejichaa
