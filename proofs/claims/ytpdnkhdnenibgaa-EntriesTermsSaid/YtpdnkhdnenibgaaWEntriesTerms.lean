/- The walk of the law EntriesTerms. -/
import Derived.Test.YtpdnkhdnenibgaaAskR23
import Derived.Test.YtpdnkhdnenibgaaEntT
set_option linter.unusedVariables false
set_option linter.unusedSimpArgs false
namespace Go.Proofs.Ytpdnkhdnenibgaa
open Go.RowKit Lec


set_option maxRecDepth 100000 in
set_option maxHeartbeats 4000000 in
theorem EntriesTerms_walk (W : World) (A : Option Addr) (c : Nat) (xs : List AskT) (hrow : Row Ask23 W A xs) (hlc : xs.length ≤ c) (hcm : c ≤ maxLen) (hnone : A = none → xs.length = 0 ∧ c = 0) (hby : c * 88 ≤ reachBytes) :
    Calls Try.prog 7 #[.slice A xs.length c] W fun e w' => e = .returned (.bool true) ∧ Below W.heap.size W w' := by
  have hlen : xs.length ≤ 9223372036854775807 := by unfold maxLen at hcm; omega
  have HROW := Lib.hid hrow
  clear hrow hnone hby hcm hlc
  go_enter Try.func7, Try.ntmps7
  go_wp2
  go_loopw [3] (fun i wr => ∃ k : Nat, k ≤ 8 ∧ i = .int .i64 k ∧ Hid (Below W.heap.size W wr)) (fun i _ => 8 - (intOf i).toNat)
  case atStart => exact ⟨0, by omega, rfl, Below.refl _ _⟩
  case round =>
    obtain ⟨k, hk, rfl, HX⟩ := hrel
    by_cases h1 : k < xs.length
    · have h1i : (k : Int) < (xs.length : Int) := by omega
      by_cases h8 : k < 8
      · have h8i : (k : Int) < 8 := by omega
        obtain ⟨a, B, cc, C, d, rfl, hat⟩ := ask_at (HROW.out.ext HX.out (Nat.le_refl _)) k h1
        generalize xs[k] = x at *
        obtain ⟨⟨b, t, L⟩, i, j, Es, N⟩ := x
        have HAT := Lib.hid hat
        clear hat
        generalize hok : ok23 b t L Es = u
        have HOK := Lib.hid hok
        clear hok
        obtain ⟨g0, g1, g2, g3, g4, g5, g6, _, _, _⟩ := HAT.out
        go_wp2_with fail
        clear g0 g1 g2 g3 g4 g5 g6
        refine (ok23_any wr b t B L.length cc L i j C Es.length d Es N rfl rfl HAT.out.l.small HAT.out.e.small HAT.out.l.str HAT.out.e.str HAT.out.l.rds HAT.out.e.rds u HOK.out).mono ?_
        rintro e w1 ⟨rfl, hb⟩
        replace HX : Hid (Below W.heap.size W w1) := HX.out.trans (hb.mono HX.out.size)
        replace HAT := Lib.hid (HAT.out.ext hb (Nat.le_refl _))
        clear hb
        cases u with
        | false =>
          go_wp2
          go_roundw
          case rel => exact ⟨k + 1, by omega, by go_num, HX⟩
          case measure => simp [intOf]; omega
        | true =>
          have HM := Lib.hid (ok23_may HOK.out)
          have hl2 : L.length < 200 := HM.out.2.1
          have hbb : 0 ≤ b ∧ b ≤ 1099511625728 := ⟨HM.out.1.1, HM.out.1.2.1⟩
          obtain ⟨n, hn⟩ : ∃ n, n = L.length := ⟨_, rfl⟩
          have HN := Lib.hid hn.symm
          obtain ⟨g0, g1, g2, g3, g4, g5, g6, _, _, _⟩ := HAT.out
          rw [← hn] at g2 hl2
          have HL : Hid (Rds w1 B (entsC L)) := HAT.out.l.rds
          have HS := Lib.hid g2
          clear hn
          go_wp2
          clear g0 g1 g2 g3 g4 g5 g6
          go_loopw [4] (fun i wr => ∃ m : Nat, m ≤ n + 5 ∧ i = .int .i64 (b - 2 + m) ∧ Hid (Below W.heap.size W wr) ∧ Hid (Below w1.heap.size w1 wr)) (fun i _ => n + 5 - (intOf i - (b - 2)).toNat)
          case atStart => exact ⟨0, by omega, by simp, HX, Below.refl _ _⟩
          case round =>
            obtain ⟨m, hm, rfl, HX2, HB2⟩ := hrel
            have hki0 : (0 : Int) ≤ (k : Int) := by omega
            have HAT2 := Lib.hid (HAT.out.ext HB2.out (Nat.le_refl _))
            have hs2 := HAT2.out.g2
            have hg0 := HAT2.out.g0
            rw [show (((b, t, L), i, j, Es, N) : AskT).1.2.2.length = n from HN.out] at hs2
            have hw1 : IntKind.i64.wrap (b + (n : Int)) = b + (n : Int) := wrap_id (by omega)
            have hw2 : IntKind.i64.wrap (b + (n : Int) + 3) = b + (n : Int) + 3 := wrap_id (by omega)
            by_cases hmn : m < n + 5
            · have hlt : b - 2 + (m : Int) < b + (n : Int) + 3 := by omega
              go_wp2
              go_quiet (fail)
              clear hw1 hw2 hs2 hg0
              have hbd : Below wr.heap.size wr (wr.drewN nq) := drawn_below wr nq
              replace HAT2 := Lib.hid (HAT2.out.ext hbd (Nat.le_refl _))
              replace HX2 : Hid (Below W.heap.size W (wr.drewN nq)) := HX2.out.trans (hbd.mono HX2.out.size)
              replace HB2 : Hid (Below w1.heap.size w1 (wr.drewN nq)) := HB2.out.trans (hbd.mono HB2.out.size)
              clear hbd
              generalize wr.drewN nq = wq at *
              obtain ⟨o, ho⟩ : ∃ o, o = atE b t L (b - 2 + m) := ⟨_, rfl⟩
              have HOQ := Lib.hid ho
              clear ho
              obtain ⟨g0, g1, g2, g3, g4, g5, g6, _, _, _⟩ := HAT2.out
              rw [show (((b, t, L), i, j, Es, N) : AskT).1.2.2.length = n from HN.out] at g2
              go_wp2_with fail
              clear g0 g1 g2 g3 g4 g5 g6
              refine (Term_any wq b t B n cc L HN.out (by omega) HAT2.out.l.rds HM.out.1 _).mono ?_
              rw [← HOQ.out]
              rintro e w3 ⟨rfl, hb⟩
              replace HAT2 := Lib.hid (HAT2.out.ext hb (Nat.le_refl _))
              replace HX2 : Hid (Below W.heap.size W w3) := HX2.out.trans (hb.mono HX2.out.size)
              replace HB2 : Hid (Below w1.heap.size w1 w3) := HB2.out.trans (hb.mono HB2.out.size)
              clear hb
              obtain ⟨g0, g1, g2, g3, g4, g5, g6, _, _, _⟩ := HAT2.out
              rw [show (((b, t, L), i, j, Es, N) : AskT).1.2.2.length = n from HN.out] at g2
              go_wp2_with fail
              clear g0 g1 g2 g3 g4 g5 g6
              refine (rTerm_any w3 b t B n cc L HN.out (by omega) HAT2.out.l.rds HM.out.1 _).mono ?_
              rw [← HOQ.out]
              rintro e w4 ⟨rfl, hb⟩
              replace HX2 : Hid (Below W.heap.size W w4) := HX2.out.trans (hb.mono HX2.out.size)
              replace HB2 : Hid (Below w1.heap.size w1 w4) := HB2.out.trans (hb.mono HB2.out.size)
              clear hb HAT2 HOQ
              cases o with
              | none =>
                go_wp2_with (go_at_call 18; refine (num23 _ _).mono ?_; rintro e wq ⟨rfl, rfl⟩)
                go_roundw
                case rel => exact ⟨m + 1, by omega, by go_num, HX2, HB2⟩
                case measure => simp [intOf]; omega
              | some x =>
                have hxx : (x != x) = false := by simp
                dsimp only [termR, atR]
                go_wp2_with (go_at_call 18; refine (num23 _ _).mono ?_; rintro e wq ⟨rfl, rfl⟩)
                go_roundw
                case rel => exact ⟨m + 1, by omega, by go_num, HX2, HB2⟩
                case measure => simp [intOf]; omega
            · obtain rfl : m = n + 5 := by omega
              have hlt : ¬ b - 2 + ((n + 5 : Nat) : Int) < b + (n : Int) + 3 := by omega
              go_wp2
              go_quiet (fail)
              go_wp2
              have hbd : Below wr.heap.size wr (wr.drewN nq) := drawn_below wr nq
              have HX : Hid (Below W.heap.size W (wr.drewN nq)) := HX2.out.trans (hbd.mono HX2.out.size)
              go_roundw
              case rel => exact ⟨k + 1, by omega, by go_num, HX⟩
              case measure => simp [intOf]; omega
      · obtain rfl : k = 8 := by omega
        go_wp2_with fail
        refine (wakes23 _).mono ?_
        rintro e w1 ⟨rfl, hb⟩
        go_wp2
        go_ret
        exact ⟨rfl, HX.out.trans (hb.mono HX.out.size)⟩
    · have h1i : ¬ (k : Int) < (xs.length : Int) := by omega
      go_wp2_with fail
      refine (wakes23 _).mono ?_
      rintro e w1 ⟨rfl, hb⟩
      go_wp2
      go_ret
      exact ⟨rfl, HX.out.trans (hb.mono HX.out.size)⟩
end Go.Proofs.Ytpdnkhdnenibgaa
