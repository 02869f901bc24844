/- The walk of the law EntriesNewer. -/
import Derived.Test.YtpdnkhdnenibgaaAskR23
import Derived.Test.YtpdnkhdnenibgaaEntN
set_option linter.unusedVariables false
set_option linter.unusedSimpArgs false
namespace Go.Proofs.Ytpdnkhdnenibgaa
open Go.RowKit Lec

set_option maxRecDepth 100000 in
set_option maxHeartbeats 4000000 in
theorem EntriesNewer_walk (W : World) (A : Option Addr) (c : Nat) (xs : List AskT) (hrow : Row Ask23 W A xs) (hlc : xs.length ≤ c) (hcm : c ≤ maxLen) (hnone : A = none → xs.length = 0 ∧ c = 0) (hby : c * 88 ≤ reachBytes) :
    Calls Try.prog 6 #[.slice A xs.length c] W fun e w' => e = .returned (.bool true) ∧ Below W.heap.size W w' := by
  have hlen : xs.length ≤ 9223372036854775807 := by unfold maxLen at hcm; omega
  have HROW := Lib.hid hrow
  clear hrow hnone hby hcm hlc
  go_enter Try.func6, Try.ntmps6
  go_wp2
  go_loopw [3] (fun i wr => ∃ k : Nat, k ≤ 8 ∧ i = .int .i64 k ∧ Hid (Below W.heap.size W wr)) (fun i _ => 8 - (intOf i).toNat)
  case atStart => exact ⟨0, by omega, rfl, Below.refl _ _⟩
  case round =>
    obtain ⟨k, hk, rfl, HX⟩ := hrel
    by_cases h1 : k + 1 < xs.length
    · have h1i : (k : Int) + 1 < (xs.length : Int) := by omega
      by_cases h8 : k < 8
      · have h8i : (k : Int) < 8 := by omega
        have hk0 : k < xs.length := by omega
        have hk0i : (k : Int) < (xs.length : Int) := by omega
        obtain ⟨a, B, cc, C, d, rfl, hat⟩ := ask_at (HROW.out.ext HX.out (Nat.le_refl _)) k hk0
        obtain ⟨a2, B2, cc2, C2, d2, ha2, hau⟩ := ask_at (HROW.out.ext HX.out (Nat.le_refl _)) (k + 1) h1
        obtain rfl : a = a2 := Option.some.inj ha2
        have hidx : ((k : Int) + 1).toNat = k + 1 := by omega
        generalize xs[k] = x at *
        generalize xs[k + 1] = y at *
        obtain ⟨⟨b, t, L⟩, i, j, Es, N⟩ := x
        obtain ⟨⟨b2, t2, L2⟩, i2, j2, Es2, N2⟩ := y
        have HAT := Lib.hid hat
        have HAU := Lib.hid hau
        clear hat hau ha2
        generalize hok : ok23 b t L Es = u
        generalize hok2 : ok23 b2 t2 L2 Es2 = u2
        have HOK := Lib.hid hok
        have HOK2 := Lib.hid hok2
        clear hok hok2
        obtain ⟨g0, g1, g2, g3, g4, g5, g6, _, _, _⟩ := HAT.out
        obtain ⟨q0, q1, q2, q3, q4, q5, q6, _, _, _⟩ := HAU.out
        go_wp2_with fail
        clear g0 g1 g2 g3 g4 g5 g6 q0 q1 q2 q3 q4 q5 q6
        refine (ok23_any wr b t B L.length cc L i j C Es.length d Es N rfl rfl HAT.out.l.small HAT.out.e.small HAT.out.l.str HAT.out.e.str HAT.out.l.rds HAT.out.e.rds u HOK.out).mono ?_
        rintro e w1 ⟨rfl, hb⟩
        replace HX : Hid (Below W.heap.size W w1) := HX.out.trans (hb.mono HX.out.size)
        replace HAT := Lib.hid (HAT.out.ext hb (Nat.le_refl _))
        replace HAU := Lib.hid (HAU.out.ext hb (Nat.le_refl _))
        clear hb
        cases u with
        | false =>
          go_wp2
          go_roundw
          case rel => exact ⟨k + 1, by omega, by go_num, HX⟩
          case measure => simp [intOf]; omega
        | true =>
          have HM := Lib.hid (ok23_may HOK.out)
          obtain ⟨g0, g1, g2, g3, g4, g5, g6, _, _, _⟩ := HAT.out
          obtain ⟨q0, q1, q2, q3, q4, q5, q6, _, _, _⟩ := HAU.out
          go_wp2_with fail
          clear g0 g1 g2 g3 g4 g5 g6 q0 q1 q2 q3 q4 q5 q6
          refine (ok23_any w1 b2 t2 B2 L2.length cc2 L2 i2 j2 C2 Es2.length d2 Es2 N2 rfl rfl HAU.out.l.small HAU.out.e.small HAU.out.l.str HAU.out.e.str HAU.out.l.rds HAU.out.e.rds u2 HOK2.out).mono ?_
          rintro e w2 ⟨rfl, hb⟩
          replace HX : Hid (Below W.heap.size W w2) := HX.out.trans (hb.mono HX.out.size)
          replace HAT := Lib.hid (HAT.out.ext hb (Nat.le_refl _))
          replace HAU := Lib.hid (HAU.out.ext hb (Nat.le_refl _))
          clear hb
          cases u2 with
          | false =>
            go_wp2
            go_roundw
            case rel => exact ⟨k + 1, by omega, by go_num, HX⟩
            case measure => simp [intOf]; omega
          | true =>
            have HM2 := Lib.hid (ok23_may HOK2.out)
            obtain ⟨g0, g1, g2, g3, g4, g5, g6, _, _, _⟩ := HAT.out
            obtain ⟨q0, q1, q2, q3, q4, q5, q6, _, _, _⟩ := HAU.out
            go_wp2_with fail
            clear g0 g1 g2 g3 g4 g5 g6 q0 q1 q2 q3 q4 q5 q6
            refine (Last_any w2 b t B L.length cc L rfl (Nat.le_trans HAT.out.l.small (by decide)) HAT.out.l.rds HM.out.1).mono ?_
            rintro e w3 ⟨rfl, hb⟩
            replace HX : Hid (Below W.heap.size W w3) := HX.out.trans (hb.mono HX.out.size)
            replace HAT := Lib.hid (HAT.out.ext hb (Nat.le_refl _))
            replace HAU := Lib.hid (HAU.out.ext hb (Nat.le_refl _))
            clear hb
            obtain ⟨g0, g1, g2, g3, g4, g5, g6, _, _, _⟩ := HAT.out
            obtain ⟨q0, q1, q2, q3, q4, q5, q6, _, _, _⟩ := HAU.out
            go_wp2_with fail
            clear g0 g1 g2 g3 g4 g5 g6 q0 q1 q2 q3 q4 q5 q6
            refine (Last_any w3 b2 t2 B2 L2.length cc2 L2 rfl (Nat.le_trans HAU.out.l.small (by decide)) HAU.out.l.rds HM2.out.1).mono ?_
            rintro e w4 ⟨rfl, hb⟩
            replace HX : Hid (Below W.heap.size W w4) := HX.out.trans (hb.mono HX.out.size)
            replace HAT := Lib.hid (HAT.out.ext hb (Nat.le_refl _))
            replace HAU := Lib.hid (HAU.out.ext hb (Nat.le_refl _))
            clear hb
            obtain ⟨g0, g1, g2, g3, g4, g5, g6, _, _, _⟩ := HAT.out
            obtain ⟨q0, q1, q2, q3, q4, q5, q6, _, _, _⟩ := HAU.out
            go_wp2_with fail
            clear g0 g1 g2 g3 g4 g5 g6 q0 q1 q2 q3 q4 q5 q6
            refine (Newer_any w4 b t B L.length cc L rfl (Nat.le_trans HAT.out.l.small (by decide)) HAT.out.l.rds HM.out.1 _ _).mono ?_
            rintro e w5 ⟨rfl, hb⟩
            replace HX : Hid (Below W.heap.size W w5) := HX.out.trans (hb.mono HX.out.size)
            replace HAT := Lib.hid (HAT.out.ext hb (Nat.le_refl _))
            replace HAU := Lib.hid (HAU.out.ext hb (Nat.le_refl _))
            clear hb
            obtain ⟨g0, g1, g2, g3, g4, g5, g6, _, _, _⟩ := HAT.out
            obtain ⟨q0, q1, q2, q3, q4, q5, q6, _, _, _⟩ := HAU.out
            go_wp2_with fail
            clear g0 g1 g2 g3 g4 g5 g6 q0 q1 q2 q3 q4 q5 q6
            refine (Newer_any w5 b2 t2 B2 L2.length cc2 L2 rfl (Nat.le_trans HAU.out.l.small (by decide)) HAU.out.l.rds HM2.out.1 _ _).mono ?_
            rintro e w6 ⟨rfl, hb⟩
            replace HX : Hid (Below W.heap.size W w6) := HX.out.trans (hb.mono HX.out.size)
            replace HAT := Lib.hid (HAT.out.ext hb (Nat.le_refl _))
            replace HAU := Lib.hid (HAU.out.ext hb (Nat.le_refl _))
            clear hb
            clear HAT HAU HM HM2 HOK HOK2
            generalize endE b t L = en at *
            obtain ⟨p, q⟩ := en
            generalize endE b2 t2 L2 = en at *
            obtain ⟨r, s⟩ := en
            generalize hx : newE (p, q) r s = x
            generalize hy : newE (r, s) p q = y
            unfold newE at hx hy
            simp only at hx hy
            by_cases h3 : q < s
            · rw [decide_eq_true (.inl h3)] at hx
              rw [decide_eq_false (by omega)] at hy
              subst hx hy
              go_wp2_with (go_at_call 18; refine (num23 _ _).mono ?_; rintro e wq ⟨rfl, rfl⟩)
              go_roundw
              case rel => exact ⟨k + 1, by omega, by go_num, HX⟩
              case measure => simp [intOf]; omega
            · by_cases h4 : s < q
              · rw [decide_eq_true (.inl h4)] at hy
                rw [decide_eq_false (by omega)] at hx
                subst hx hy
                have h5 : (s == q) = false := by rw [beq_eq_false_iff_ne]; omega
                go_wp2_with (go_at_call 18; refine (num23 _ _).mono ?_; rintro e wq ⟨rfl, rfl⟩)
                go_roundw
                case rel => exact ⟨k + 1, by omega, by go_num, HX⟩
                case measure => simp [intOf]; omega
              · obtain rfl : q = s := by omega
                have h5 : (q == q) = true := by simp
                have h6 : (q != q) = false := by simp
                by_cases h7 : p < r
                · rw [decide_eq_true (.inr ⟨rfl, by omega⟩)] at hx
                  rw [decide_eq_false (by omega)] at hy
                  subst hx hy
                  have h9 : p ≤ r := by omega
                  go_wp2_with (go_at_call 18; refine (num23 _ _).mono ?_; rintro e wq ⟨rfl, rfl⟩)
                  go_roundw
                  case rel => exact ⟨k + 1, by omega, by go_num, HX⟩
                  case measure => simp [intOf]; omega
                · by_cases h9 : r < p
                  · rw [decide_eq_true (.inr ⟨rfl, by omega⟩)] at hy
                    rw [decide_eq_false (by omega)] at hx
                    subst hx hy
                    have h10 : ¬ p ≤ r := by omega
                    go_wp2_with (go_at_call 18; refine (num23 _ _).mono ?_; rintro e wq ⟨rfl, rfl⟩)
                    go_roundw
                    case rel => exact ⟨k + 1, by omega, by go_num, HX⟩
                    case measure => simp [intOf]; omega
                  · obtain rfl : p = r := by omega
                    rw [decide_eq_true (.inr ⟨rfl, by omega⟩)] at hx hy
                    subst hx hy
                    have h10 : (p != p) = false := by simp
                    go_wp2_with (go_at_call 18; refine (num23 _ _).mono ?_; rintro e wq ⟨rfl, rfl⟩)
                    go_roundw
                    case rel => exact ⟨k + 1, by omega, by go_num, HX⟩
                    case measure => simp [intOf]; omega
      · obtain rfl : k = 8 := by omega
        go_wp2_with fail
        refine (wakes23 _).mono ?_
        rintro e w1 ⟨rfl, hb⟩
        go_wp2
        go_ret
        exact ⟨rfl, HX.out.trans (hb.mono HX.out.size)⟩
    · have h1i : ¬ (k : Int) + 1 < (xs.length : Int) := by omega
      go_wp2_with fail
      refine (wakes23 _).mono ?_
      rintro e w1 ⟨rfl, hb⟩
      go_wp2
      go_ret
      exact ⟨rfl, HX.out.trans (hb.mono HX.out.size)⟩
end Go.Proofs.Ytpdnkhdnenibgaa
