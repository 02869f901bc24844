/- The walk of the law EntriesLast. -/
import Derived.Test.YtpdnkhdnenibgaaAskR23
import Derived.Test.YtpdnkhdnenibgaaEntR2
set_option linter.unusedVariables false
set_option linter.unusedSimpArgs false
namespace Go.Proofs.Ytpdnkhdnenibgaa
open Go.RowKit Lec

set_option maxRecDepth 100000 in
set_option maxHeartbeats 2000000 in
theorem EntriesLast_walk (W : World) (A : Option Addr) (c : Nat) (xs : List AskT) (hrow : Row Ask23 W A xs) (hlc : xs.length ≤ c) (hcm : c ≤ maxLen) (hnone : A = none → xs.length = 0 ∧ c = 0) (hby : c * 88 ≤ reachBytes) :
    Calls Try.prog 4 #[.slice A xs.length c] W fun e w' => e = .returned (.bool true) ∧ Below W.heap.size W w' := by
  have hlen : xs.length ≤ 9223372036854775807 := by unfold maxLen at hcm; omega
  have HROW := Lib.hid hrow
  clear hrow hnone hby hcm hlc
  go_enter Try.func4, Try.ntmps4
  go_wp2
  go_loopw [3] (fun i wr => ∃ k : Nat, k ≤ 8 ∧ i = .int .i64 k ∧ Hid (Below W.heap.size W wr)) (fun i _ => 8 - (intOf i).toNat)
  case atStart => exact ⟨0, by omega, rfl, Below.refl _ _⟩
  case round =>
    obtain ⟨k, hk, rfl, HX⟩ := hrel
    by_cases h1 : k < xs.length
    · have h1i : (k : Int) < (xs.length : Int) := by omega
      by_cases h8 : k < 8
      · have h8i : (k : Int) < 8 := by omega
        obtain ⟨a, B, cc, C, d, rfl, hat⟩ := ask_at (HROW.out.ext HX.out (Nat.le_refl _)) k h1
        generalize xs[k] = x at *
        obtain ⟨⟨b, t, L⟩, i, j, Es, N⟩ := x
        have HAT := Lib.hid hat
        obtain ⟨g0, g1, g2, g3, g4, g5, g6, _, _, _⟩ := hat
        generalize hok : ok23 b t L Es = u
        have HOK := Lib.hid hok
        clear hok
        go_wp2_with fail
        clear g0 g1 g2 g3 g4 g5 g6
        refine (ok23_any wr b t B L.length cc L i j C Es.length d Es N rfl rfl HAT.out.l.small HAT.out.e.small HAT.out.l.str HAT.out.e.str HAT.out.l.rds HAT.out.e.rds u HOK.out).mono ?_
        rintro e w1 ⟨rfl, hb⟩
        replace HX : Hid (Below W.heap.size W w1) := HX.out.trans (hb.mono HX.out.size)
        replace HAT := Lib.hid (HAT.out.ext hb (Nat.le_refl _))
        clear hb
        cases u with
        | false =>
          go_wp2
          go_roundw
          case rel => exact ⟨k + 1, by omega, by go_num, HX⟩
          case measure => simp [intOf]; omega
        | true =>
          have HM := Lib.hid (ok23_may HOK.out)
          obtain ⟨g0, g1, g2, g3, g4, g5, g6, _, _, _⟩ := HAT.out
          go_wp2_with fail
          clear g0 g1 g2 g3 g4 g5 g6
          refine (Last_any w1 b t B L.length cc L rfl (Nat.le_trans HAT.out.l.small (by decide)) HAT.out.l.rds HM.out.1).mono ?_
          rintro e w2 ⟨rfl, hb⟩
          replace HX : Hid (Below W.heap.size W w2) := HX.out.trans (hb.mono HX.out.size)
          replace HAT := Lib.hid (HAT.out.ext hb (Nat.le_refl _))
          clear hb
          obtain ⟨g0, g1, g2, g3, g4, g5, g6, _, _, _⟩ := HAT.out
          go_wp2_with fail
          clear g0 g1 g2 g3 g4 g5 g6
          refine (rLast_any w2 b t B L.length cc L rfl (Nat.le_trans HAT.out.l.small (by decide)) HAT.out.l.rds).mono ?_
          rintro e w3 ⟨rfl, hb⟩
          replace HX : Hid (Below W.heap.size W w3) := HX.out.trans (hb.mono HX.out.size)
          clear hb HAT HM HOK
          generalize endE b t L = en at *
          obtain ⟨ei, et⟩ := en
          have hee : (ei != ei) = false := by simp
          have hte : (et != et) = false := by simp
          go_wp2_with (go_at_call 18; refine (num23 _ _).mono ?_; rintro e wq ⟨rfl, rfl⟩)
          go_roundw
          case rel => exact ⟨k + 1, by omega, by go_num, HX⟩
          case measure => simp [intOf]; omega
      · obtain rfl : k = 8 := by omega
        go_wp2_with fail
        refine (wakes23 _).mono ?_
        rintro e w1 ⟨rfl, hb⟩
        go_wp2
        go_ret
        exact ⟨rfl, HX.out.trans (hb.mono HX.out.size)⟩
    · have h1i : ¬ (k : Int) < (xs.length : Int) := by omega
      go_wp2_with fail
      refine (wakes23 _).mono ?_
      rintro e w1 ⟨rfl, hb⟩
      go_wp2
      go_ret
      exact ⟨rfl, HX.out.trans (hb.mono HX.out.size)⟩
end Go.Proofs.Ytpdnkhdnenibgaa
