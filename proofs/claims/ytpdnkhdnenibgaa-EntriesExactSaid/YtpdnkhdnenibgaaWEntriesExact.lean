/- The walk of the law EntriesExact. -/
import Derived.Test.YtpdnkhdnenibgaaAskR23
import Derived.Test.YtpdnkhdnenibgaaEntT
import Derived.Test.YtpdnkhdnenibgaaExactL
set_option linter.unusedVariables false
set_option linter.unusedSimpArgs false
namespace Go.Proofs.Ytpdnkhdnenibgaa
open Go.RowKit Lec
set_option maxRecDepth 100000 in
set_option maxHeartbeats 4000000 in
theorem EntriesExact_walk (W : World) (A : Option Addr) (c : Nat) (xs : List AskT) (hrow : Row Ask23 W A xs) (hlc : xs.length ≤ c) (hcm : c ≤ maxLen) (hnone : A = none → xs.length = 0 ∧ c = 0) (hby : c * 88 ≤ reachBytes) :
    Calls Try.prog 12 #[.slice A xs.length c] W fun e w' => e = .returned (.bool true) ∧ Below W.heap.size W w' := by
  have hlen : xs.length ≤ 9223372036854775807 := by unfold maxLen at hcm; omega
  have HROW := Lib.hid hrow
  clear hrow hnone hby hcm hlc
  go_enter Try.func12, Try.ntmps12
  go_wp2
  go_loopw [3] (fun i wr => ∃ k : Nat, k ≤ 8 ∧ i = .int .i64 k ∧ Hid (Below W.heap.size W wr)) (fun i _ => 8 - (intOf i).toNat)
  case atStart => exact ⟨0, by omega, rfl, Below.refl _ _⟩
  case round =>
    obtain ⟨k, hk, rfl, HX⟩ := hrel
    by_cases h1 : k < xs.length
    · have h1i : (k : Int) < (xs.length : Int) := by omega
      by_cases h8 : k < 8
      · have h8i : (k : Int) < 8 := by omega
        obtain ⟨a, B, cc, C, d, rfl, hat⟩ := ask_at (HROW.out.ext HX.out (Nat.le_refl _)) k h1
        generalize xs[k] = x at *
        obtain ⟨⟨b, t, L⟩, i, j, Es, N⟩ := x
        have HAT := Lib.hid hat
        clear hat
        obtain ⟨g0, g1, g2, g3, g4, g5, g6, _, _, _⟩ := HAT.out
        go_upto_region 5 with (fail)
        clear g0 g1 g2 g3 g4 g5 g6
        obtain ⟨w1, hw1⟩ : ∃ w1, w1 = wr.alloc (.cells #[.int .i64 b, .int .i64 t, .slice B L.length cc, .int .i64 i, .int .i64 j, .slice C Es.length d, .int .i64 N] 28) := ⟨_, rfl⟩
        have hb1 : Below wr.heap.size wr w1 := by rw [hw1]; exact (Below.refl _ _).alloc (Nat.le_refl _) _
        have hat1 : AskAt w1 ⟨wr.heap.size, 0, none⟩ ((b, t, L), i, j, Es, N) B cc C d := by
          have hnew := heap_alloc_new wr (.cells #[.int .i64 b, .int .i64 t, .slice B L.length cc, .int .i64 i, .int .i64 j, .slice C Es.length d, .int .i64 N] 28 (0, 0))
          have h := HAT.out.ext hb1 (Nat.le_refl _)
          rw [hw1] at h ⊢
          exact ⟨by rw [cell_of_row _ _ _ _ _ _ hnew]; rfl, by rw [cell_of_row _ _ _ _ _ _ hnew]; rfl, by rw [cell_of_row _ _ _ _ _ _ hnew]; rfl, by rw [cell_of_row _ _ _ _ _ _ hnew]; rfl, by rw [cell_of_row _ _ _ _ _ _ hnew]; rfl, by rw [cell_of_row _ _ _ _ _ _ hnew]; rfl, by rw [cell_of_row _ _ _ _ _ _ hnew]; rfl, h.l, h.e, h.wf⟩
        rw [← hw1]
        clear HAT
        have HAT := Lib.hid hat1
        replace HX : Hid (Below W.heap.size W w1) := HX.out.trans (hb1.mono HX.out.size)
        generalize wr.heap.size = gp at *
        clear hw1 hb1 hat1
        obtain ⟨u, hok⟩ : ∃ u, u = (heavy23 L Es || (decide (2 < k) && decide (100 < L.length))) := ⟨_, rfl⟩
        have HOK := Lib.hid hok
        clear hok
        obtain ⟨g0, g1, g2, g3, g4, g5, g6, _, _, _⟩ := HAT.out
        simp only [Nat.zero_add] at g1 g2 g3 g4 g5 g6
        dsimp only at g0 g1 g2 g3 g4 g5 g6
        go_cut [62] from 50 to 62 (fun s62 wx => s62 = .bool u ∧ Hid (Below w1.heap.size w1 wx))
        case first =>
          generalize hh : heavy23 L Es = v
          have HH := Lib.hid hh
          clear hh
          rw [HH.out] at HOK
          have HHV := Lib.hid (heavy23_any w1 b t B L.length cc L i j C Es.length d Es N rfl rfl HAT.out.l.small HAT.out.e.small HAT.out.l.str HAT.out.e.str HAT.out.l.rds HAT.out.e.rds v HH.out)
          go_wp2_with fail
          refine HHV.out.mono ?_
          rintro e w2 ⟨rfl, hb⟩
          have HAT2 := Lib.hid (HAT.out.ext hb (Nat.le_refl _))
          have HB2 := Lib.hid hb
          clear hb HHV
          clear g0 g1 g2 g3 g4 g5 g6
          obtain ⟨g0, g1, g2, g3, g4, g5, g6, _, _, _⟩ := HAT2.out
          simp only [Nat.zero_add] at g1 g2 g3 g4 g5 g6
          dsimp only at g0 g1 g2 g3 g4 g5 g6
          cases v with
          | true =>
            go_wp2_with fail
            go_meet
            exact ⟨by rw [HOK.out]; rfl, HB2⟩
          | false =>
            by_cases h2k : 2 < k
            · have h2i : (2 : Int) < (k : Int) := by omega
              by_cases h100 : 100 < L.length
              · have h100i : (100 : Int) < (L.length : Int) := by omega
                have hu9 : u = true := by rw [HOK.out, decide_eq_true h2k, decide_eq_true h100]; rfl
                clear HOK
                go_wp2_with fail
                go_meet
                exact ⟨by rw [hu9], HB2⟩
              · have h100i : ¬ (100 : Int) < (L.length : Int) := by omega
                have hu9 : u = false := by rw [HOK.out, decide_eq_true h2k, decide_eq_false h100]; rfl
                clear HOK
                go_wp2_with fail
                go_meet
                exact ⟨by first | (rw [hu9]; done) | (rw [hu9]; rfl) | (rw [hu9]; simp; omega), HB2⟩
            · have h2i : ¬ (2 : Int) < (k : Int) := by omega
              have hu9 : u = false := by rw [HOK.out, decide_eq_false h2k]; rfl
              clear HOK
              go_wp2_with fail
              go_meet
              exact ⟨by first | (rw [hu9]; done) | (rw [hu9]; rfl) | (rw [hu9]; simp; omega), HB2⟩
        case rest =>
          clear g0 g1 g2 g3 g4 g5 g6
          obtain ⟨rfl, hb⟩ := hcut
          replace hb := hb.out
          replace HX : Hid (Below W.heap.size W wc) := HX.out.trans (hb.mono HX.out.size)
          replace HAT := Lib.hid (HAT.out.ext hb (Nat.le_refl _))
          clear hb
          cases u with
          | true =>
            go_wp2
            go_ret
            exact ⟨rfl, HX.out⟩
          | false =>
            have HLT : Hid (L.length ≤ 600 ∧ Es.length ≤ 600) := Lib.hid (heavy23_light (by
              have := HOK.out
              cases h : heavy23 L Es with
              | false => rfl
              | true => rw [h] at this; simp at this))
            have hl6 : L.length ≤ 600 := HLT.out.1
            have he6 : Es.length ≤ 600 := HLT.out.2
            clear HOK
            obtain ⟨g0, g1, g2, g3, g4, g5, g6, _, _, _⟩ := HAT.out
            simp only [Nat.zero_add] at g1 g2 g3 g4 g5 g6
            dsimp only at g0 g1 g2 g3 g4 g5 g6
            go_wp2_with fail
            clear g0 g1 g2 g3 g4 g5 g6
            refine (CopyLog_any wc b t B L.length cc L rfl (by omega) HAT.out.l.rds).mono ?_
            rintro e w2 ⟨v, rfl, hown, hb⟩
            obtain ⟨A1, c1, rfl, p1, p2, p3, p4, p5⟩ := own_rds hown
            replace HX : Hid (Below W.heap.size W w2) := HX.out.trans (hb.mono HX.out.size)
            replace HAT := Lib.hid (HAT.out.ext hb (Nat.le_refl _))
            have HXR := Lib.hid p4
            have HXC := Lib.hid p1
            have HXN := Lib.hid p3
            clear hown hb p1 p2 p3 p4 p5
            go_upto_region 8 with (fail)
            obtain ⟨w3, hw3⟩ : ∃ w3, w3 = w2.alloc (.cells #[.int .i64 b, .int .i64 t, .slice A1 L.length c1] 26) := ⟨_, rfl⟩
            have hb : Below w2.heap.size w2 w3 := by rw [hw3]; exact (Below.refl _ _).alloc (Nat.le_refl _) _
            have HXL : Hid (Lg w3 w2.heap.size b t (.slice A1 L.length c1)) := by rw [hw3]; exact Lg.new w2 _ _ _ _
            rw [← hw3]
            replace HX : Hid (Below W.heap.size W w3) := HX.out.trans (hb.mono HX.out.size)
            replace HAT := Lib.hid (HAT.out.ext hb (Nat.le_refl _))
            replace HXR := Lib.hid (HXR.out.ext hb (Nat.le_refl _))
            generalize w2.heap.size = gx at *
            clear hw3 hb
            obtain ⟨g0, g1, g2, g3, g4, g5, g6, _, _, _⟩ := HAT.out
            simp only [Nat.zero_add] at g1 g2 g3 g4 g5 g6
            dsimp only at g0 g1 g2 g3 g4 g5 g6
            go_wp2_with fail
            clear g0 g1 g2 g3 g4 g5 g6
            refine (CopyEntries_any w3 C Es.length d Es rfl (by omega) HAT.out.e.rds).mono ?_
            rintro e w4 ⟨v, rfl, hown, hb⟩
            obtain ⟨A6, c6, rfl, p1, p2, p3, p4, p5⟩ := own_rds hown
            replace HX : Hid (Below W.heap.size W w4) := HX.out.trans (hb.mono HX.out.size)
            replace HAT := Lib.hid (HAT.out.ext hb (Nat.le_refl _))
            replace HXR := Lib.hid (HXR.out.ext hb (Nat.le_refl _))
            replace HXL := Lib.hid (HXL.out.ext hb (Nat.le_refl _))
            have HER := Lib.hid p4
            have HEN := Lib.hid p3
            clear hown hb p1 p2 p3 p4 p5
            obtain ⟨g0, g1, g2, g3, g4, g5, g6, _, _, _⟩ := HAT.out
            simp only [Nat.zero_add] at g1 g2 g3 g4 g5 g6
            dsimp only at g0 g1 g2 g3 g4 g5 g6
            go_wp2_with fail
            clear g0 g1 g2 g3 g4 g5 g6
            obtain ⟨mb, hmb⟩ : ∃ mb, mb = decide (mayL b t L) := ⟨_, rfl⟩
            have HMB := Lib.hid hmb
            refine (rMay_any w4 b t B L.length cc L rfl (by omega) HAT.out.l.rds mb hmb.symm).mono ?_
            rintro e w5 ⟨rfl, hb⟩
            replace HX : Hid (Below W.heap.size W w5) := HX.out.trans (hb.mono HX.out.size)
            replace HAT := Lib.hid (HAT.out.ext hb (Nat.le_refl _))
            replace HXR := Lib.hid (HXR.out.ext hb (Nat.le_refl _))
            replace HXL := Lib.hid (HXL.out.ext hb (Nat.le_refl _))
            replace HER := Lib.hid (HER.out.ext hb (Nat.le_refl _))
            clear hb hmb
            go_upto_region 15 with (fail)
            obtain ⟨K, hK⟩ : ∃ K, K = w5.heap.size := ⟨_, rfl⟩
            obtain ⟨w6, hw6⟩ : ∃ w6, w6 = ((w5.alloc (.cells #[.int .i64 0, .int .i64 0, .slice none 0 0] 26)).alloc (.cells #[.int .i64 0, .int .i64 0, .slice none 0 0] 26)).alloc (.cells #[.int .i64 0, .int .i64 0, .slice none 0 0] 26) := ⟨_, rfl⟩
            rw [← hw6, ← hK]
            have HKE : Hid (w5.heap.size ≤ K) := Lib.hid (by omega)
            have HBK : Hid (Below K w5 w6) := by rw [hw6]; exact (((Below.refl _ _).alloc (by omega) _).alloc (by simp; omega) _).alloc (by simp; omega) _
            have HKS : Hid (K + 3 ≤ w6.heap.size) := by rw [hw6]; show _ ≤ _; simp; omega
            have HP : Hid (Slot w6 K K (0, 0, [])) := by
              rw [hw6]
              have h := ((Lg.new w5 0 0 (.slice none 0 0) 26).ext ((Below.refl (w5.alloc (.cells #[.int .i64 0, .int .i64 0, .slice none 0 0] 26)).heap.size _).alloc (Nat.le_refl _) (.cells #[.int .i64 0, .int .i64 0, .slice none 0 0] 26)) (Nat.le_refl _)).ext ((Below.refl ((w5.alloc (.cells #[.int .i64 0, .int .i64 0, .slice none 0 0] 26)).alloc (.cells #[.int .i64 0, .int .i64 0, .slice none 0 0] 26)).heap.size _).alloc (Nat.le_refl _) (.cells #[.int .i64 0, .int .i64 0, .slice none 0 0] 26)) (Nat.le_refl _)
              rw [← hK] at h
              exact ⟨none, 0, h, Rds.nil _ _, fun a ha => by cases ha⟩
            have HQ : Hid (Slot w6 (K + 1) K (0, 0, [])) := by
              rw [hw6]
              have h := ((Lg.new (w5.alloc (.cells #[.int .i64 0, .int .i64 0, .slice none 0 0] 26)) 0 0 (.slice none 0 0) 26).ext ((Below.refl ((w5.alloc (.cells #[.int .i64 0, .int .i64 0, .slice none 0 0] 26)).alloc (.cells #[.int .i64 0, .int .i64 0, .slice none 0 0] 26)).heap.size _).alloc (Nat.le_refl _) (.cells #[.int .i64 0, .int .i64 0, .slice none 0 0] 26)) (Nat.le_refl _))
              rw [show (w5.alloc (.cells #[.int .i64 0, .int .i64 0, .slice none 0 0] 26)).heap.size = K + 1 by simp; omega] at h
              exact ⟨none, 0, h, Rds.nil _ _, fun a ha => by cases ha⟩
            have HS : Hid (Slot w6 (K + 1 + 1) K (0, 0, [])) := by
              rw [hw6]
              have h := Lg.new ((w5.alloc (.cells #[.int .i64 0, .int .i64 0, .slice none 0 0] 26)).alloc (.cells #[.int .i64 0, .int .i64 0, .slice none 0 0] 26)) 0 0 (.slice none 0 0) 26
              rw [show ((w5.alloc (.cells #[.int .i64 0, .int .i64 0, .slice none 0 0] 26)).alloc (.cells #[.int .i64 0, .int .i64 0, .slice none 0 0] 26)).heap.size = K + 1 + 1 by simp; omega] at h
              exact ⟨none, 0, h, Rds.nil _ _, fun a ha => by cases ha⟩
            clear hw6 hK
            go_upto_if 72 with (fail)
            go_cut [8, 9, 10, 11, 12, 13, 17, 18, 19, 20, 21] from 72 to 165
              (fun s8 s9 s10 s11 s12 s13 s17 s18 s19 s20 s21 wx => s8 = .int .i64 (formE b t L) ∧ s9 = .int .i64 (appE b t L Es).2.2.2 ∧ s10 = .int .i64 (cutE b t L i).2.2.2 ∧ s11 = .int .i64 (sliceE b t L i N).2 ∧ s12 = .int .i64 (compE b t L i).2.2.2 ∧ s13 = .int .i64 (termX b t L i).2 ∧ Hid (Part wx K s17 (sliceE b t L i N).1) ∧ s18 = .int .i64 (lastX b t L).1 ∧ s19 = .int .i64 (lastX b t L).2 ∧ s20 = .int .i64 (termX b t L i).1 ∧ s21 = .bool (newX b t L i j) ∧ Hid (Below K w5 wx) ∧ Hid (K + 3 ≤ wx.heap.size) ∧ Hid (Slot wx K K ((appE b t L Es).1, (appE b t L Es).2.1, (appE b t L Es).2.2.1)) ∧ Hid (Slot wx (K + 1) K ((cutE b t L i).1, (cutE b t L i).2.1, (cutE b t L i).2.2.1)) ∧ Hid (Slot wx (K + 1 + 1) K ((compE b t L i).1, (compE b t L i).2.1, (compE b t L i).2.2.1)))
            case first =>
              cases mb with
              | false =>
                have hm : ¬ mayL b t L := of_decide_eq_false HMB.out.symm
                go_wp2_with fail
                go_meet
                unfold formE appE cutE sliceE compE termX lastX newX
                rw [if_neg hm, if_neg hm, if_neg (fun h => hm h.1), if_neg hm, if_neg (fun h => hm h.1), if_neg hm, if_neg hm, if_neg hm]
                exact ⟨rfl, rfl, rfl, rfl, rfl, rfl, ⟨none, 0, rfl, Rds.nil _ _, fun a ha => by cases ha⟩, rfl, rfl, rfl, rfl, HBK, HKS, HP, HQ, HS⟩
              | true =>
                as_aux_lemma =>
                  have hm : mayL b t L := of_decide_eq_true HMB.out.symm
                  have HM := Lib.hid hm
                  have hbb : 0 ≤ b ∧ b ≤ 1099511625728 := ⟨hm.1, hm.2.1⟩
                  have hend : (endE b t L).1 = b + L.length := runsE_end _ _ _ hm.2.2.2.2.2
                  obtain ⟨et, het⟩ : ∃ et, endE b t L = (b + L.length, et) := ⟨_, by rw [← hend]⟩
                  have HET := Lib.hid het
                  have HFO : Hid (formE b t L = 0) := by show _ = _; unfold formE; rw [if_pos hm]
                  have HLA : Hid (lastX b t L = (b + L.length, et)) := by show _ = _; unfold lastX; rw [if_pos hm, het]
                  clear hm hend het
                  obtain ⟨g0, g1, g2, g3, g4, g5, g6, _, _, _⟩ := HAT.out.ext HBK.out HKE.out
                  simp only [Nat.zero_add] at g1 g2 g3 g4 g5 g6
                  dsimp only at g0 g1 g2 g3 g4 g5 g6
                  go_wp2_with fail
                  clear g0 g1 g2 g3 g4 g5 g6
                  refine (rLast_any w6 b t B L.length cc L rfl (by omega) (HAT.out.ext HBK.out HKE.out).l.rds).mono ?_
                  rw [HET.out]
                  rintro e w7 ⟨rfl, hb⟩
                  replace HBK : Hid (Below K w5 w7) := Lib.hid (HBK.out.trans (hb.mono (Nat.le_trans (Nat.le_add_right K 3) HKS.out)))
                  replace HP := Lib.hid (HP.out.ext hb (Nat.le_refl _))
                  replace HQ := Lib.hid (HQ.out.ext hb (Nat.le_refl _))
                  replace HS := Lib.hid (HS.out.ext hb (Nat.le_refl _))
                  replace HKS : Hid (K + 3 ≤ w7.heap.size) := Lib.hid (Nat.le_trans HKS.out hb.size)
                  clear hb
                  obtain ⟨g0, g1, g2, g3, g4, g5, g6, _, _, _⟩ := HAT.out.ext HBK.out HKE.out
                  simp only [Nat.zero_add] at g1 g2 g3 g4 g5 g6
                  dsimp only at g0 g1 g2 g3 g4 g5 g6
                  go_wp2_with fail
                  clear g0 g1 g2 g3 g4 g5 g6
                  have HAP := Lib.hid (rAppend_any w7 b t B L.length cc L rfl (by omega) (HAT.out.ext HBK.out HKE.out).l.rds C Es.length d Es rfl (by omega) (HAT.out.ext HBK.out HKE.out).e.nil (HAT.out.ext HBK.out HKE.out).e.rds HM.out)
                  rw [← rappE_eq HM.out] at HAP
                  obtain ⟨ra, hra⟩ : ∃ ra, ra = appE b t L Es := ⟨_, rfl⟩
                  rw [← hra] at HAP
                  have HRA := Lib.hid hra
                  clear hra
                  obtain ⟨ra1, ra2, ra3, ra4⟩ := ra
                  refine HAP.out.mono ?_
                  rintro e w8 ⟨v, rfl, hown, hb⟩
                  obtain ⟨A8, c8, rfl, p1, p2, p3, p4, p5⟩ := own_rds hown
                  dsimp only at p4 p5 hown ⊢
                  have HR8 := Lib.hid p4
                  have HA8 : Hid (∀ a, A8 = some a → K + 3 ≤ a.block) := Lib.hid (fun a ha => by obtain ⟨g, rfl, h1, _⟩ := p5 a ha; exact Nat.le_trans HKS.out h1)
                  clear hown p1 p2 p3 p4 p5 HAP
                  replace HR8 := Lib.hid (HR8.out)
                  replace HBK : Hid (Below K w5 w8) := Lib.hid (HBK.out.trans (hb.mono (Nat.le_trans (Nat.le_add_right K 3) HKS.out)))
                  replace HP := Lib.hid (HP.out.ext hb (Nat.le_refl _))
                  replace HQ := Lib.hid (HQ.out.ext hb (Nat.le_refl _))
                  replace HS := Lib.hid (HS.out.ext hb (Nat.le_refl _))
                  replace HKS : Hid (K + 3 ≤ w8.heap.size) := Lib.hid (Nat.le_trans HKS.out hb.size)
                  clear hb
                  obtain ⟨Ap, cp, hlp, hlp2, hlp3⟩ := HP.out
                  obtain ⟨z0, z1, z2, y0, y1, y2, _⟩ := hlp
                  clear hlp2 hlp3
                  go_upto_region 19 with (fail)
                  clear z0 z1 z2 y0 y1 y2
                  obtain ⟨w9, hWN⟩ : ∃ x, x = ((w8.setCell ⟨K, 0, none⟩ (.int .i64 ra1)).setCell ⟨K, 1, none⟩ (.int .i64 ra2)).setCell ⟨K, 2, none⟩ (.slice A8 ra3.length c8) := ⟨_, rfl⟩
                  rw [← hWN]
                  replace HP : Hid (Slot w9 (K) K (ra1, ra2, ra3)) := Lib.hid (by rw [hWN]; exact HP.out.put (by omega) ra1 ra2 A8 c8 ra3 HR8.out HA8.out)
                  replace HQ := Lib.hid (HQ.out.far (q := K) (by omega) (by omega) ra1 ra2 (.slice A8 ra3.length c8))
                  rw [show put3 w8 (K) ra1 ra2 (.slice A8 ra3.length c8) = w9 from hWN.symm] at HQ
                  replace HS := Lib.hid (HS.out.far (q := K) (by omega) (by omega) ra1 ra2 (.slice A8 ra3.length c8))
                  rw [show put3 w8 (K) ra1 ra2 (.slice A8 ra3.length c8) = w9 from hWN.symm] at HS
                  replace HBK : Hid (Below K w5 w9) := Lib.hid (by rw [hWN]; exact below_put HBK.out (by omega) _ _ _)
                  replace HKS : Hid (K + 3 ≤ w9.heap.size) := Lib.hid (by rw [hWN]; have := HKS.out; simpa using this)
                  clear hWN
                  clear HR8 HA8
                  obtain ⟨u98, hu98⟩ : ∃ u, u = decide (b ≤ i ∧ i ≤ b + L.length) := ⟨_, rfl⟩
                  go_cut [98] from 87 to 98 (fun s98 wx => s98 = .bool u98 ∧ wx = w9)
                  case first =>
                    obtain ⟨g0, g1, g2, g3, g4, g5, g6, _, _, _⟩ := HAT.out.ext HBK.out HKE.out
                    simp only [Nat.zero_add] at g1 g2 g3 g4 g5 g6
                    dsimp only at g0 g1 g2 g3 g4 g5 g6
                    by_cases h1 : b ≤ i
                    · by_cases h2 : i ≤ b + L.length
                      · go_wp2_with fail
                        go_meet
                        exact ⟨by rw [hu98, decide_eq_true (And.intro h1 h2)], rfl⟩
                      · have h2i : b + (L.length : Int) < i := by omega
                        go_wp2_with fail
                        go_meet
                        exact ⟨by rw [hu98, decide_eq_false (fun h => absurd h.2 (by omega))], rfl⟩
                    · have h1i : i < b := by omega
                      go_wp2_with fail
                      go_meet
                      exact ⟨by rw [hu98, decide_eq_false (fun h => absurd h.1 (by omega))], rfl⟩
                  case rest =>
                    obtain ⟨rfl, rfl⟩ := hcut
                    as_aux_lemma =>
                      go_upto_if 98 with (fail)
                      go_cut [10] from 99 to 103 (fun s10 wx => s10 = .int .i64 (cutE b t L i).2.2.2 ∧ Hid (Below K w5 wx) ∧ Hid (K + 3 ≤ wx.heap.size) ∧ Hid (Slot wx K K (ra1, ra2, ra3)) ∧ Hid (Slot wx (K + 1) K ((cutE b t L i).1, (cutE b t L i).2.1, (cutE b t L i).2.2.1)) ∧ Hid (Slot wx (K + 1 + 1) K (0, 0, [])))
                      case first =>
                        cases u98 with
                        | false =>
                          have hc : cutE b t L i = (0, 0, [], 1) := by unfold cutE; rw [if_neg (fun h => absurd (decide_eq_true (And.intro h.2.1 h.2.2)) (by rw [← hu98]; decide))]
                          clear hu98
                          go_wp2_with fail
                          go_meet
                          rw [hc]
                          exact ⟨rfl, HBK, HKS, HP, HQ, HS⟩
                        | true =>
                          have hin := of_decide_eq_true hu98.symm
                          clear hu98
                          obtain ⟨q, rfl⟩ : ∃ q : Nat, i = b + q := ⟨(i - b).toNat, by omega⟩
                          have hqn : q ≤ L.length := by omega
                          have hc : cutE b t L (b + q) = (b, t, L.take q, 0) := by unfold cutE; rw [if_pos ⟨HM.out, hin.1, hin.2⟩, show (b + (q : Int) - b).toNat = q by omega]
                          have HL9 : Hid ((L.take q).length = q) := by show _ = _; rw [List.length_take]; omega
                          obtain ⟨g0, g1, g2, g3, g4, g5, g6, _, _, _⟩ := HAT.out.ext HBK.out HKE.out
                          simp only [Nat.zero_add] at g1 g2 g3 g4 g5 g6
                          dsimp only at g0 g1 g2 g3 g4 g5 g6
                          go_wp2_with fail
                          clear g0 g1 g2 g3 g4 g5 g6
                          refine (rCut_any wc b t B L.length cc L rfl (by omega) (HAT.out.ext HBK.out HKE.out).l.rds hbb q hqn).mono ?_
                          rintro e w11 ⟨A8, c8, rfl, hr8, hb, hbl⟩
                          have HR8 := Lib.hid hr8
                          have HA8 : Hid (∀ a, A8 = some a → K + 3 ≤ a.block) := Lib.hid (fun a ha => Nat.le_trans HKS.out (hbl a ha))
                          clear hr8 hbl
                          replace HBK : Hid (Below K w5 w11) := Lib.hid (HBK.out.trans (hb.mono (Nat.le_trans (Nat.le_add_right K 3) HKS.out)))
                          replace HP := Lib.hid (HP.out.ext hb (Nat.le_refl _))
                          replace HQ := Lib.hid (HQ.out.ext hb (Nat.le_refl _))
                          replace HS := Lib.hid (HS.out.ext hb (Nat.le_refl _))
                          replace HKS : Hid (K + 3 ≤ w11.heap.size) := Lib.hid (Nat.le_trans HKS.out hb.size)
                          clear hb
                          obtain ⟨Ap, cp, hlp, hlp2, hlp3⟩ := HQ.out
                          obtain ⟨z0, z1, z2, y0, y1, y2, _⟩ := hlp
                          clear hlp2 hlp3
                          go_wp2_with fail
                          go_meet
                          rw [hc]
                          clear z0 z1 z2 y0 y1 y2
                          obtain ⟨w12, hWN⟩ : ∃ x, x = ((w11.setCell ⟨K + 1, 0, none⟩ (.int .i64 b)).setCell ⟨K + 1, 1, none⟩ (.int .i64 t)).setCell ⟨K + 1, 2, none⟩ (.slice A8 q c8) := ⟨_, rfl⟩
                          rw [← hWN]
                          replace HQ : Hid (Slot w12 (K + 1) K (b, t, (L.take q))) := Lib.hid (by rw [hWN]; have h9 := HQ.out.put (by omega) b t A8 c8 (L.take q) HR8.out HA8.out; rw [HL9.out] at h9; exact h9)
                          replace HP := Lib.hid (HP.out.far (q := K + 1) (by omega) (by omega) b t (.slice A8 q c8))
                          rw [show put3 w11 (K + 1) b t (.slice A8 q c8) = w12 from hWN.symm] at HP
                          replace HS := Lib.hid (HS.out.far (q := K + 1) (by omega) (by omega) b t (.slice A8 q c8))
                          rw [show put3 w11 (K + 1) b t (.slice A8 q c8) = w12 from hWN.symm] at HS
                          replace HBK : Hid (Below K w5 w12) := Lib.hid (by rw [hWN]; exact below_put HBK.out (by omega) _ _ _)
                          replace HKS : Hid (K + 3 ≤ w12.heap.size) := Lib.hid (by rw [hWN]; have := HKS.out; simpa using this)
                          clear hWN
                          exact ⟨rfl, HBK, HKS, HP, HQ, HS⟩
                      case rest =>
                        clear hu98 HBK HKS HP HQ HS
                        obtain ⟨rfl, HBK, HKS, HP, HQ, HS⟩ := hcut
                        as_aux_lemma =>
                          go_upto_region 22 with (fail)
                          obtain ⟨w13, rfl⟩ : ∃ x, x = wc := ⟨wc, rfl⟩
                          obtain ⟨u116, hu116⟩ : ∃ u, u = decide (b < i ∧ i ≤ b + L.length + 1) := ⟨_, rfl⟩
                          go_cut [116] from 104 to 116 (fun s wx => s = .bool u116 ∧ wx = w13)
                          case first =>
                            obtain ⟨g0, g1, g2, g3, g4, g5, g6, _, _, _⟩ := HAT.out.ext HBK.out HKE.out
                            simp only [Nat.zero_add] at g1 g2 g3 g4 g5 g6
                            dsimp only at g0 g1 g2 g3 g4 g5 g6
                            by_cases h1 : b < i
                            · by_cases h2 : i ≤ b + L.length + 1
                              · go_wp2_with fail
                                go_meet
                                exact ⟨by rw [hu116, decide_eq_true (And.intro h1 h2)], rfl⟩
                              · have h2i : b + (L.length : Int) + 1 < i := by omega
                                go_wp2_with fail
                                go_meet
                                exact ⟨by rw [hu116, decide_eq_false (fun h => absurd h.2 (by omega))], rfl⟩
                            · have h1i : i ≤ b := by omega
                              go_wp2_with fail
                              go_meet
                              exact ⟨by rw [hu116, decide_eq_false (fun h => absurd h.1 (by omega))], rfl⟩
                          case rest =>
                            obtain ⟨rfl, rfl⟩ := hcut
                            as_aux_lemma =>
                              go_upto_if 116 with (fail)
                              go_cut [11, 17] from 117 to 126 (fun s11 s17 wx => s11 = .int .i64 (sliceE b t L i N).2 ∧ Hid (Part wx K s17 (sliceE b t L i N).1) ∧ Hid (Below K w5 wx) ∧ Hid (K + 3 ≤ wx.heap.size) ∧ Hid (Slot wx K K (ra1, ra2, ra3)) ∧ Hid (Slot wx (K + 1) K ((cutE b t L i).1, (cutE b t L i).2.1, (cutE b t L i).2.2.1)) ∧ Hid (Slot wx (K + 1 + 1) K (0, 0, [])))
                              case first =>
                                cases u116 with
                                | false =>
                                  have hc : sliceE b t L i N = ([], 3) := by unfold sliceE; rw [if_pos HM.out, if_neg (fun h => absurd (decide_eq_true h) (by rw [← hu116]; decide))]
                                  clear hu116
                                  go_wp2_with fail
                                  go_meet
                                  rw [hc]
                                  exact ⟨rfl, ⟨none, 0, rfl, Rds.nil _ _, fun a ha => by cases ha⟩, HBK, HKS, HP, HQ, HS⟩
                                | true =>
                                  have hin := of_decide_eq_true hu116.symm
                                  clear hu116
                                  by_cases hN : 0 ≤ N
                                  · obtain ⟨N', rfl⟩ := Int.eq_ofNat_of_zero_le hN
                                    obtain ⟨q, rfl⟩ : ∃ q : Nat, i = b + 1 + q := ⟨(i - b - 1).toNat, by omega⟩
                                    have hc : sliceE b t L (b + 1 + q) N' = ((L.drop q).take N', 0) := by unfold sliceE; rw [if_pos HM.out, if_pos hin, if_pos hN, show (b + 1 + (q : Int) - b - 1).toNat = q by omega]; rfl
                                    have hNw : (N' : Int) ≤ 9223372036854775807 := HAT.out.wf.2.2.2.2.2
                                    obtain ⟨g0, g1, g2, g3, g4, g5, g6, _, _, _⟩ := HAT.out.ext HBK.out HKE.out
                                    simp only [Nat.zero_add] at g1 g2 g3 g4 g5 g6
                                    dsimp only at g0 g1 g2 g3 g4 g5 g6
                                    go_wp2_with fail
                                    clear g0 g1 g2 g3 g4 g5 g6
                                    refine (rSlice_any wc b t B L.length cc L rfl (by omega) (HAT.out.ext HBK.out HKE.out).l.len (HAT.out.ext HBK.out HKE.out).l.nil (HAT.out.ext HBK.out HKE.out).l.rds hbb q N' (by omega) (by omega)).mono ?_
                                    rintro e w11 ⟨A8, c8, rfl, hr8, hb, hbl⟩
                                    have HR8 := Lib.hid hr8
                                    have HA8 : Hid (∀ a, A8 = some a → K + 3 ≤ a.block) := Lib.hid (fun a ha => Nat.le_trans HKS.out (hbl a ha))
                                    clear hr8 hbl
                                    replace HBK : Hid (Below K w5 w11) := Lib.hid (HBK.out.trans (hb.mono (Nat.le_trans (Nat.le_add_right K 3) HKS.out)))
                                    replace HP := Lib.hid (HP.out.ext hb (Nat.le_refl _))
                                    replace HQ := Lib.hid (HQ.out.ext hb (Nat.le_refl _))
                                    replace HS := Lib.hid (HS.out.ext hb (Nat.le_refl _))
                                    replace HKS : Hid (K + 3 ≤ w11.heap.size) := Lib.hid (Nat.le_trans HKS.out hb.size)
                                    clear hb
                                    go_wp2_with fail
                                    go_meet
                                    rw [hc]
                                    exact ⟨rfl, ⟨A8, c8, congrArg (fun n => Value.slice A8 n c8) (by simp), HR8.out, HA8.out⟩, HBK, HKS, HP, HQ, HS⟩
                                  · have hc : sliceE b t L i N = ([], 1) := by unfold sliceE; rw [if_pos HM.out, if_pos hin, if_neg hN]
                                    have hNi : N < 0 := by omega
                                    obtain ⟨g0, g1, g2, g3, g4, g5, g6, _, _, _⟩ := HAT.out.ext HBK.out HKE.out
                                    simp only [Nat.zero_add] at g1 g2 g3 g4 g5 g6
                                    dsimp only at g0 g1 g2 g3 g4 g5 g6
                                    go_wp2_with fail
                                    go_meet
                                    rw [hc]
                                    exact ⟨rfl, ⟨none, 0, rfl, Rds.nil _ _, fun a ha => by cases ha⟩, HBK, HKS, HP, HQ, HS⟩
                              case rest =>
                                clear hu116 HBK HKS HP HQ HS
                                obtain ⟨rfl, HPT, HBK, HKS, HP, HQ, HS⟩ := hcut
                                as_aux_lemma =>
                                  go_upto_region 26 with (fail)
                                  obtain ⟨w14, rfl⟩ : ∃ x, x = wc := ⟨wc, rfl⟩
                                  obtain ⟨u143, hu143⟩ : ∃ u, u = decide (b < i ∧ i ≤ b + L.length ∧ i ≤ 1099511625728) := ⟨_, rfl⟩
                                  go_cut [143] from 127 to 143 (fun s wx => s = .bool u143 ∧ wx = w14)
                                  case first =>
                                    obtain ⟨g0, g1, g2, g3, g4, g5, g6, _, _, _⟩ := HAT.out.ext HBK.out HKE.out
                                    simp only [Nat.zero_add] at g1 g2 g3 g4 g5 g6
                                    dsimp only at g0 g1 g2 g3 g4 g5 g6
                                    by_cases h1 : b < i
                                    · by_cases h2 : i ≤ b + L.length
                                      · by_cases h3 : i ≤ 1099511625728
                                        · go_wp2_with fail
                                          go_meet
                                          exact ⟨by rw [hu143, decide_eq_true (And.intro h1 (And.intro h2 h3))], rfl⟩
                                        · have h3i : 1099511625728 < i := by omega
                                          go_wp2_with fail
                                          go_meet
                                          exact ⟨by rw [hu143, decide_eq_false (fun h => absurd h.2.2 (by omega))], rfl⟩
                                      · have h2i : b + (L.length : Int) < i := by omega
                                        go_wp2_with fail
                                        go_meet
                                        exact ⟨by rw [hu143, decide_eq_false (fun h => absurd h.2.1 (by omega))], rfl⟩
                                    · have h1i : i ≤ b := by omega
                                      go_wp2_with fail
                                      go_meet
                                      exact ⟨by rw [hu143, decide_eq_false (fun h => absurd h.1 (by omega))], rfl⟩
                                  case rest =>
                                    obtain ⟨rfl, rfl⟩ := hcut
                                    as_aux_lemma =>
                                      go_upto_if 143 with (fail)
                                      go_cut [12] from 144 to 148 (fun s12 wx => s12 = .int .i64 (compE b t L i).2.2.2 ∧ Hid (Part wx K u17 (sliceE b t L i N).1) ∧ Hid (Below K w5 wx) ∧ Hid (K + 3 ≤ wx.heap.size) ∧ Hid (Slot wx K K (ra1, ra2, ra3)) ∧ Hid (Slot wx (K + 1) K ((cutE b t L i).1, (cutE b t L i).2.1, (cutE b t L i).2.2.1)) ∧ Hid (Slot wx (K + 1 + 1) K ((compE b t L i).1, (compE b t L i).2.1, (compE b t L i).2.2.1)))
                                      case first =>
                                        cases u143 with
                                        | false =>
                                          have hc : compE b t L i = (0, 0, [], 1) := by unfold compE; rw [if_neg (fun h => absurd (decide_eq_true h.2) (by rw [← hu143]; decide))]
                                          clear hu143
                                          go_wp2_with fail
                                          go_meet
                                          rw [hc]
                                          exact ⟨rfl, HPT, HBK, HKS, HP, HQ, HS⟩
                                        | true =>
                                          have hin := of_decide_eq_true hu143.symm
                                          clear hu143
                                          obtain ⟨q, rfl⟩ : ∃ q : Nat, i = b + q := ⟨(i - b).toNat, by omega⟩
                                          have hqn : q ≤ L.length := by omega
                                          have hq1 : 1 ≤ q := by omega
                                          obtain ⟨lt, hlt⟩ : ∃ lt, atE b t L (b + q) = some lt := ⟨_, by
                                            have := atE_in (b := b) (t := t) (es := L) (k := q - 1) (by omega)
                                            rwa [show b + 1 + ((q - 1 : Nat) : Int) = b + q by omega] at this⟩
                                          have hc : compE b t L (b + q) = (b + q, lt, L.drop q, 0) := by unfold compE; rw [if_pos ⟨HM.out, hin.1, hin.2.1, hin.2.2⟩, hlt, show (b + (q : Int) - b).toNat = q by omega]; rfl
                                          have HL9 : Hid ((L.drop q).length = L.length - q) := by show _ = _; rw [List.length_drop]
                                          obtain ⟨g0, g1, g2, g3, g4, g5, g6, _, _, _⟩ := HAT.out.ext HBK.out HKE.out
                                          simp only [Nat.zero_add] at g1 g2 g3 g4 g5 g6
                                          dsimp only at g0 g1 g2 g3 g4 g5 g6
                                          go_wp2_with fail
                                          clear g0 g1 g2 g3 g4 g5 g6
                                          refine (rCompact_any wc b t B L.length cc L rfl (by omega) (HAT.out.ext HBK.out HKE.out).l.len (HAT.out.ext HBK.out HKE.out).l.nil (HAT.out.ext HBK.out HKE.out).l.rds HM.out q hq1 hqn lt hlt).mono ?_
                                          rintro e w11 ⟨A8, c8, rfl, hr8, hb, hbl⟩
                                          have HR8 := Lib.hid hr8
                                          have HA8 : Hid (∀ a, A8 = some a → K + 3 ≤ a.block) := Lib.hid (fun a ha => Nat.le_trans HKS.out (hbl a ha))
                                          replace HPT := Lib.hid (HPT.out.ext hb (Nat.le_refl _))
                                          clear hr8 hbl
                                          replace HBK : Hid (Below K w5 w11) := Lib.hid (HBK.out.trans (hb.mono (Nat.le_trans (Nat.le_add_right K 3) HKS.out)))
                                          replace HP := Lib.hid (HP.out.ext hb (Nat.le_refl _))
                                          replace HQ := Lib.hid (HQ.out.ext hb (Nat.le_refl _))
                                          replace HS := Lib.hid (HS.out.ext hb (Nat.le_refl _))
                                          replace HKS : Hid (K + 3 ≤ w11.heap.size) := Lib.hid (Nat.le_trans HKS.out hb.size)
                                          clear hb
                                          obtain ⟨Ap, cp, hlp, hlp2, hlp3⟩ := HS.out
                                          obtain ⟨z0, z1, z2, y0, y1, y2, _⟩ := hlp
                                          clear hlp2 hlp3
                                          go_wp2_with fail
                                          go_meet
                                          rw [hc]
                                          clear z0 z1 z2 y0 y1 y2
                                          replace HPT := Lib.hid (HPT.out.far (q := K + 1 + 1) (by omega) (b + (q : Int)) lt (.slice A8 (L.length - q) c8))
                                          obtain ⟨w12, hWN⟩ : ∃ x, x = ((w11.setCell ⟨K + 1 + 1, 0, none⟩ (.int .i64 (b + (q : Int)))).setCell ⟨K + 1 + 1, 1, none⟩ (.int .i64 lt)).setCell ⟨K + 1 + 1, 2, none⟩ (.slice A8 (L.length - q) c8) := ⟨_, rfl⟩
                                          rw [← hWN]
                                          replace HS : Hid (Slot w12 (K + 1 + 1) K ((b + (q : Int)), lt, (L.drop q))) := Lib.hid (by rw [hWN]; have h9 := HS.out.put (by omega) (b + (q : Int)) lt A8 c8 (L.drop q) HR8.out HA8.out; rw [HL9.out] at h9; exact h9)
                                          replace HP := Lib.hid (HP.out.far (q := K + 1 + 1) (by omega) (by omega) (b + (q : Int)) lt (.slice A8 (L.length - q) c8))
                                          rw [show put3 w11 (K + 1 + 1) (b + (q : Int)) lt (.slice A8 (L.length - q) c8) = w12 from hWN.symm] at HP
                                          replace HQ := Lib.hid (HQ.out.far (q := K + 1 + 1) (by omega) (by omega) (b + (q : Int)) lt (.slice A8 (L.length - q) c8))
                                          rw [show put3 w11 (K + 1 + 1) (b + (q : Int)) lt (.slice A8 (L.length - q) c8) = w12 from hWN.symm] at HQ
                                          replace HBK : Hid (Below K w5 w12) := Lib.hid (by rw [hWN]; exact below_put HBK.out (by omega) _ _ _)
                                          replace HKS : Hid (K + 3 ≤ w12.heap.size) := Lib.hid (by rw [hWN]; have := HKS.out; simpa using this)
                                          rw [show put3 w11 (K + 1 + 1) (b + (q : Int)) lt (.slice A8 (L.length - q) c8) = w12 from hWN.symm] at HPT
                                          clear hWN
                                          exact ⟨rfl, HPT, HBK, HKS, HP, HQ, HS⟩
                                      case rest =>
                                        clear hu143 HPT HBK HKS HP HQ HS
                                        obtain ⟨rfl, HPT, HBK, HKS, HP, HQ, HS⟩ := hcut
                                        as_aux_lemma =>
                                          obtain ⟨g0, g1, g2, g3, g4, g5, g6, _, _, _⟩ := HAT.out.ext HBK.out HKE.out
                                          simp only [Nat.zero_add] at g1 g2 g3 g4 g5 g6
                                          dsimp only at g0 g1 g2 g3 g4 g5 g6
                                          go_wp2_with fail
                                          clear g0 g1 g2 g3 g4 g5 g6
                                          obtain ⟨o, ho⟩ : ∃ o, o = atE b t L i := ⟨_, rfl⟩
                                          refine (rTerm_any wc b t B L.length cc L rfl (by omega) (HAT.out.ext HBK.out HKE.out).l.rds HM.out i).mono ?_
                                          rw [← ho]
                                          have HTX : Hid (termX b t L i = termR o) := by show _ = _; unfold termX; rw [if_pos HM.out, ← ho]; rfl
                                          clear ho
                                          rintro e w15 ⟨rfl, hb⟩
                                          replace HPT := Lib.hid (HPT.out.ext hb (Nat.le_refl _))
                                          replace HBK : Hid (Below K w5 w15) := Lib.hid (HBK.out.trans (hb.mono (Nat.le_trans (Nat.le_add_right K 3) HKS.out)))
                                          replace HP := Lib.hid (HP.out.ext hb (Nat.le_refl _))
                                          replace HQ := Lib.hid (HQ.out.ext hb (Nat.le_refl _))
                                          replace HS := Lib.hid (HS.out.ext hb (Nat.le_refl _))
                                          replace HKS : Hid (K + 3 ≤ w15.heap.size) := Lib.hid (Nat.le_trans HKS.out hb.size)
                                          clear hb
                                          have HNE := Lib.hid (rNewer_any w15 b t B L.length cc L rfl (by omega) (HAT.out.ext HBK.out HKE.out).l.rds i j)
                                          have HNX : Hid (newX b t L i j = newE (endE b t L) i j) := by show _ = _; unfold newX; rw [if_pos HM.out]
                                          rw [← HNX.out] at HNE
                                          cases o with
                                          | none =>
                                            dsimp only [atR]
                                            obtain ⟨g0, g1, g2, g3, g4, g5, g6, _, _, _⟩ := HAT.out.ext HBK.out HKE.out
                                            simp only [Nat.zero_add] at g1 g2 g3 g4 g5 g6
                                            dsimp only at g0 g1 g2 g3 g4 g5 g6
                                            go_wp2_with fail
                                            clear g0 g1 g2 g3 g4 g5 g6
                                            refine HNE.out.mono ?_
                                            rintro e w16 ⟨rfl, hb⟩
                                            replace HPT := Lib.hid (HPT.out.ext hb (Nat.le_refl _))
                                            replace HBK : Hid (Below K w5 w16) := Lib.hid (HBK.out.trans (hb.mono (Nat.le_trans (Nat.le_add_right K 3) HKS.out)))
                                            replace HP := Lib.hid (HP.out.ext hb (Nat.le_refl _))
                                            replace HQ := Lib.hid (HQ.out.ext hb (Nat.le_refl _))
                                            replace HS := Lib.hid (HS.out.ext hb (Nat.le_refl _))
                                            replace HKS : Hid (K + 3 ≤ w16.heap.size) := Lib.hid (Nat.le_trans HKS.out hb.size)
                                            clear hb
                                            go_wp2_with fail
                                            go_meet
                                            rw [HFO.out, HLA.out, HTX.out, ← HRA.out]
                                            exact ⟨rfl, rfl, rfl, rfl, rfl, rfl, HPT, rfl, rfl, rfl, rfl, HBK, HKS, HP, HQ, HS⟩
                                          | some x =>
                                            dsimp only [atR]
                                            obtain ⟨g0, g1, g2, g3, g4, g5, g6, _, _, _⟩ := HAT.out.ext HBK.out HKE.out
                                            simp only [Nat.zero_add] at g1 g2 g3 g4 g5 g6
                                            dsimp only at g0 g1 g2 g3 g4 g5 g6
                                            go_wp2_with fail
                                            clear g0 g1 g2 g3 g4 g5 g6
                                            refine HNE.out.mono ?_
                                            rintro e w16 ⟨rfl, hb⟩
                                            replace HPT := Lib.hid (HPT.out.ext hb (Nat.le_refl _))
                                            replace HBK : Hid (Below K w5 w16) := Lib.hid (HBK.out.trans (hb.mono (Nat.le_trans (Nat.le_add_right K 3) HKS.out)))
                                            replace HP := Lib.hid (HP.out.ext hb (Nat.le_refl _))
                                            replace HQ := Lib.hid (HQ.out.ext hb (Nat.le_refl _))
                                            replace HS := Lib.hid (HS.out.ext hb (Nat.le_refl _))
                                            replace HKS : Hid (K + 3 ≤ w16.heap.size) := Lib.hid (Nat.le_trans HKS.out hb.size)
                                            clear hb
                                            go_wp2_with fail
                                            go_meet
                                            rw [HFO.out, HLA.out, HTX.out, ← HRA.out]
                                            exact ⟨rfl, rfl, rfl, rfl, rfl, rfl, HPT, rfl, rfl, rfl, rfl, HBK, HKS, HP, HQ, HS⟩
            case rest =>
              clear HMB
              obtain ⟨rfl, rfl, rfl, rfl, rfl, rfl, HPT, rfl, rfl, rfl, rfl, HBK, HKS, HP, HQ, HS⟩ := hcut
              have HAV : Hid (∀ wz, Below K w5 wz → AskAt wz ⟨gp, 0, none⟩ ((b, t, L), i, j, Es, N) B cc C d ∧ Lg wz gx b t (.slice A1 L.length c1) ∧ Rds wz A1 (entsC L) ∧ Rds wz A6 (entsC Es)) := Lib.hid (fun wz h => ⟨HAT.out.ext h HKE.out, HXL.out.ext h HKE.out, HXR.out.ext h HKE.out, HER.out.ext h HKE.out⟩)
              have HKK : Hid (K ≤ wc.heap.size) := Lib.hid (by have := HKS.out; omega)
              have HCHK : Hid (∀ wz, Below K w5 wz → Calls Try.prog 32 #[.agg #[.int .i64 b, .int .i64 t, .slice A1 L.length c1]] wz fun r w' => r = .returned (.int .i64 (formE b t L)) ∧ Below wz.heap.size wz w') := Lib.hid (fun wz h => Check_any wz b t A1 L.length c1 L rfl (by omega) (HXR.out.ext h HKE.out) _ rfl)
              have HLAS : Hid (∀ wz, Below K w5 wz → Calls Try.prog 21 #[.agg #[.int .i64 b, .int .i64 t, .slice A1 L.length c1]] wz fun r w' => r = .returned (.tuple #[.int .i64 (lastX b t L).1, .int .i64 (lastX b t L).2, .int .i64 (formE b t L)]) ∧ Below wz.heap.size wz w') := Lib.hid (fun wz h => Last_all wz b t A1 L.length c1 L rfl (by omega) (HXR.out.ext h HKE.out))
              have HTER : Hid (∀ wz, Below K w5 wz → Calls Try.prog 26 #[.agg #[.int .i64 b, .int .i64 t, .slice A1 L.length c1], .int .i64 i] wz fun r w' => r = .returned (.tuple #[.int .i64 (termX b t L i).1, .int .i64 (termX b t L i).2]) ∧ Below wz.heap.size wz w') := Lib.hid (fun wz h => Term_all wz b t A1 L.length c1 L rfl (by omega) (HXR.out.ext h HKE.out) i)
              have HNEW : Hid (∀ wz, Below K w5 wz → Calls Try.prog 25 #[.agg #[.int .i64 b, .int .i64 t, .slice A1 L.length c1], .int .i64 i, .int .i64 j] wz fun r w' => r = .returned (.tuple #[.bool (newX b t L i j), .int .i64 (formE b t L)]) ∧ Below wz.heap.size wz w') := Lib.hid (fun wz h => Newer_all wz b t A1 L.length c1 L rfl (by omega) (HXR.out.ext h HKE.out) i j)
              have HAPP : Hid (∀ wz, Below K w5 wz → Calls Try.prog 16 #[.agg #[.int .i64 b, .int .i64 t, .slice A1 L.length c1], .slice A6 Es.length c6] wz (LogRet wz (appE b t L Es))) := Lib.hid (fun wz h => Append_any wz b t A1 L.length c1 L rfl (by omega) HXN.out (HXR.out.ext h HKE.out) A6 Es.length c6 Es rfl (by omega) HEN.out (HER.out.ext h HKE.out))
              have HCUT : Hid (∀ wz, Below K w5 wz → Calls Try.prog 23 #[.agg #[.int .i64 b, .int .i64 t, .slice A1 L.length c1], .int .i64 i] wz (LogRet wz (cutE b t L i))) := Lib.hid (fun wz h => Cut_all wz b t A1 L.length c1 L rfl (by omega) HXC.out HXN.out (HXR.out.ext h HKE.out) i)
              have HSLI : Hid (∀ wz, Below K w5 wz → Calls Try.prog 28 #[.agg #[.int .i64 b, .int .i64 t, .slice A1 L.length c1], .int .i64 i, .int .i64 N] wz (EntRet wz (sliceE b t L i N))) := Lib.hid (fun wz h => Slice_all wz b t A1 L.length c1 L rfl (by omega) HXC.out HXN.out (HXR.out.ext h HKE.out) i N)
              have HCOM : Hid (∀ wz, Below K w5 wz → Calls Try.prog 29 #[.agg #[.int .i64 b, .int .i64 t, .slice A1 L.length c1], .int .i64 i] wz (LogRet wz (compE b t L i))) := Lib.hid (fun wz h => Compact_any wz b t A1 L.length c1 L rfl (by omega) HXC.out HXN.out (HXR.out.ext h HKE.out) i)
              have HLEN : Hid ((appE b t L Es).2.2.1.length ≤ 1200 ∧ (cutE b t L i).2.2.1.length ≤ 600 ∧ (sliceE b t L i N).1.length ≤ 600 ∧ (compE b t L i).2.2.1.length ≤ 600) := Lib.hid (exact_lens b t L Es i N hl6 he6)
              generalize formE b t L = fE at *
              obtain ⟨la, hla⟩ : ∃ x, x = lastX b t L := ⟨_, rfl⟩
              rw [← hla] at HLAS ⊢
              obtain ⟨te, hte⟩ : ∃ x, x = termX b t L i := ⟨_, rfl⟩
              rw [← hte] at HTER ⊢
              generalize newX b t L i j = nx at *
              generalize appE b t L Es = ua at *
              generalize cutE b t L i = uc at *
              generalize sliceE b t L i N = us at *
              generalize compE b t L i = uk at *
              clear hla hte
              obtain ⟨la1, la2⟩ := la
              obtain ⟨te1, te2⟩ := te
              obtain ⟨ua1, ua2, ua3, ua4⟩ := ua
              obtain ⟨uc1, uc2, uc3, uc4⟩ := uc
              obtain ⟨us1, us2⟩ := us
              obtain ⟨uk1, uk2, uk3, uk4⟩ := uk
              dsimp only at HLEN ⊢
              obtain ⟨A17, c17, rfl, hp2, hp3⟩ := HPT.out
              have HR17 := Lib.hid hp2
              clear hp2 hp3 HPT
              dsimp only
              as_aux_lemma =>
                have hff : (fE != fE) = false := by simp
                have hl1 : (la1 != la1) = false := by simp
                have hl2 : (la2 != la2) = false := by simp
                have ht1 : (te1 != te1) = false := by simp
                have ht2 : (te2 != te2) = false := by simp
                have hnx : (nx != nx) = false := by simp
                have he1 : (ua4 != ua4) = false := by simp
                have he2 : (uc4 != uc4) = false := by simp
                have he3 : (us2 != us2) = false := by simp
                have he4 : (uk4 != uk4) = false := by simp
                obtain ⟨hat, hxl, _, _⟩ := HAV.out wc HBK.out
                obtain ⟨g0, g1, g2, g3, g4, g5, g6, _, _, _⟩ := hat
                simp only [Nat.zero_add] at g1 g2 g3 g4 g5 g6
                dsimp only at g0 g1 g2 g3 g4 g5 g6
                obtain ⟨k0, k1, k2, f0, f1, f2, _⟩ := hxl
                go_wp2_with fail
                clear g0 g1 g2 g3 g4 g5 g6 k0 k1 k2 f0 f1 f2
                refine (HCHK.out wc HBK.out).mono ?_
                rintro e w20 ⟨rfl, hb⟩
                replace HR17 := Lib.hid (HR17.out.ext hb (Nat.le_refl _))
                replace HBK : Hid (Below K w5 w20) := Lib.hid (HBK.out.trans (hb.mono (Nat.le_trans (Nat.le_add_right K 3) HKS.out)))
                replace HP := Lib.hid (HP.out.ext hb (Nat.le_refl _))
                replace HQ := Lib.hid (HQ.out.ext hb (Nat.le_refl _))
                replace HS := Lib.hid (HS.out.ext hb (Nat.le_refl _))
                replace HKS : Hid (K + 3 ≤ w20.heap.size) := Lib.hid (Nat.le_trans HKS.out hb.size)
                clear hb
                obtain ⟨hat, hxl, _, _⟩ := HAV.out w20 HBK.out
                obtain ⟨g0, g1, g2, g3, g4, g5, g6, _, _, _⟩ := hat
                simp only [Nat.zero_add] at g1 g2 g3 g4 g5 g6
                dsimp only at g0 g1 g2 g3 g4 g5 g6
                obtain ⟨k0, k1, k2, f0, f1, f2, _⟩ := hxl
                go_wp2_with (go_at_call 18; refine (num23 _ _).mono ?_; rintro e wq ⟨rfl, rfl⟩)
                clear g0 g1 g2 g3 g4 g5 g6 k0 k1 k2 f0 f1 f2
                refine (HLAS.out w20 HBK.out).mono ?_
                rintro e w21 ⟨rfl, hb⟩
                replace HR17 := Lib.hid (HR17.out.ext hb (Nat.le_refl _))
                replace HBK : Hid (Below K w5 w21) := Lib.hid (HBK.out.trans (hb.mono (Nat.le_trans (Nat.le_add_right K 3) HKS.out)))
                replace HP := Lib.hid (HP.out.ext hb (Nat.le_refl _))
                replace HQ := Lib.hid (HQ.out.ext hb (Nat.le_refl _))
                replace HS := Lib.hid (HS.out.ext hb (Nat.le_refl _))
                replace HKS : Hid (K + 3 ≤ w21.heap.size) := Lib.hid (Nat.le_trans HKS.out hb.size)
                clear hb
                obtain ⟨hat, hxl, _, _⟩ := HAV.out w21 HBK.out
                obtain ⟨g0, g1, g2, g3, g4, g5, g6, _, _, _⟩ := hat
                simp only [Nat.zero_add] at g1 g2 g3 g4 g5 g6
                dsimp only at g0 g1 g2 g3 g4 g5 g6
                obtain ⟨k0, k1, k2, f0, f1, f2, _⟩ := hxl
                go_wp2_with (go_at_call 18; refine (num23 _ _).mono ?_; rintro e wq ⟨rfl, rfl⟩)
                clear g0 g1 g2 g3 g4 g5 g6 k0 k1 k2 f0 f1 f2
                refine (HTER.out w21 HBK.out).mono ?_
                rintro e w22 ⟨rfl, hb⟩
                replace HR17 := Lib.hid (HR17.out.ext hb (Nat.le_refl _))
                replace HBK : Hid (Below K w5 w22) := Lib.hid (HBK.out.trans (hb.mono (Nat.le_trans (Nat.le_add_right K 3) HKS.out)))
                replace HP := Lib.hid (HP.out.ext hb (Nat.le_refl _))
                replace HQ := Lib.hid (HQ.out.ext hb (Nat.le_refl _))
                replace HS := Lib.hid (HS.out.ext hb (Nat.le_refl _))
                replace HKS : Hid (K + 3 ≤ w22.heap.size) := Lib.hid (Nat.le_trans HKS.out hb.size)
                clear hb
                obtain ⟨hat, hxl, _, _⟩ := HAV.out w22 HBK.out
                obtain ⟨g0, g1, g2, g3, g4, g5, g6, _, _, _⟩ := hat
                simp only [Nat.zero_add] at g1 g2 g3 g4 g5 g6
                dsimp only at g0 g1 g2 g3 g4 g5 g6
                obtain ⟨k0, k1, k2, f0, f1, f2, _⟩ := hxl
                go_wp2_with (go_at_call 18; refine (num23 _ _).mono ?_; rintro e wq ⟨rfl, rfl⟩)
                clear g0 g1 g2 g3 g4 g5 g6 k0 k1 k2 f0 f1 f2
                refine (HNEW.out w22 HBK.out).mono ?_
                rintro e w23 ⟨rfl, hb⟩
                replace HR17 := Lib.hid (HR17.out.ext hb (Nat.le_refl _))
                replace HBK : Hid (Below K w5 w23) := Lib.hid (HBK.out.trans (hb.mono (Nat.le_trans (Nat.le_add_right K 3) HKS.out)))
                replace HP := Lib.hid (HP.out.ext hb (Nat.le_refl _))
                replace HQ := Lib.hid (HQ.out.ext hb (Nat.le_refl _))
                replace HS := Lib.hid (HS.out.ext hb (Nat.le_refl _))
                replace HKS : Hid (K + 3 ≤ w23.heap.size) := Lib.hid (Nat.le_trans HKS.out hb.size)
                clear hb
                clear HCHK HLAS HTER HNEW
                obtain ⟨hat, hxl, _, _⟩ := HAV.out w23 HBK.out
                obtain ⟨g0, g1, g2, g3, g4, g5, g6, _, _, _⟩ := hat
                simp only [Nat.zero_add] at g1 g2 g3 g4 g5 g6
                dsimp only at g0 g1 g2 g3 g4 g5 g6
                obtain ⟨k0, k1, k2, f0, f1, f2, _⟩ := hxl
                go_wp2_with (go_at_call 18; refine (num23 _ _).mono ?_; rintro e wq ⟨rfl, rfl⟩)
                clear g0 g1 g2 g3 g4 g5 g6 k0 k1 k2 f0 f1 f2
                refine (HAPP.out w23 HBK.out).mono ?_
                rintro e w24 ⟨v, rfl, hown, hb⟩
                obtain ⟨AU, cU, rfl, p1, p2, p3, p4, p5⟩ := own_rds hown
                dsimp only at p4 hown ⊢
                have HOU := Lib.hid hown
                have HKU : Hid (∀ g, (Value.slice AU ua3.length cU).ownBlock = some g → w23.heap.size ≤ g ∧ g < w24.heap.size) := Lib.hid (fun g hg => ownBlock_in hown hg)
                have HZw23 : Hid (w23.heap.size ≤ w24.heap.size) := Lib.hid hb.size
                have HKWU : Hid (K ≤ w23.heap.size) := Lib.hid (by have := HKS.out; omega)
                clear hown p1 p2 p3 p4 p5
                replace HR17 := Lib.hid (HR17.out.ext hb (Nat.le_refl _))
                replace HBK : Hid (Below K w5 w24) := Lib.hid (HBK.out.trans (hb.mono (Nat.le_trans (Nat.le_add_right K 3) HKS.out)))
                replace HP := Lib.hid (HP.out.ext hb (Nat.le_refl _))
                replace HQ := Lib.hid (HQ.out.ext hb (Nat.le_refl _))
                replace HS := Lib.hid (HS.out.ext hb (Nat.le_refl _))
                replace HKS : Hid (K + 3 ≤ w24.heap.size) := Lib.hid (Nat.le_trans HKS.out hb.size)
                clear hb
                go_upto_region 41 with (fail)
                obtain ⟨w25, hwa⟩ : ∃ x, x = w24.alloc (.cells #[.int .i64 ua1, .int .i64 ua2, .slice AU ua3.length cU] 26) := ⟨_, rfl⟩
                have hb : Below w24.heap.size w24 w25 := by rw [hwa]; exact (Below.refl _ _).alloc (Nat.le_refl _) _
                have HLU : Hid (Lg w25 w24.heap.size ua1 ua2 (.slice AU ua3.length cU)) := by rw [hwa]; exact Lg.new w24 _ _ _ _
                have HZw24 : Hid (w24.heap.size < w25.heap.size) := by rw [hwa]; show _ < _; simp
                rw [← hwa]
                clear hwa
                replace HR17 := Lib.hid (HR17.out.ext hb (Nat.le_refl _))
                replace HOU := Lib.hid (own_ext HOU.out hb (Nat.le_refl _))
                replace HBK : Hid (Below K w5 w25) := Lib.hid (HBK.out.trans (hb.mono (Nat.le_trans (Nat.le_add_right K 3) HKS.out)))
                replace HP := Lib.hid (HP.out.ext hb (Nat.le_refl _))
                replace HQ := Lib.hid (HQ.out.ext hb (Nat.le_refl _))
                replace HS := Lib.hid (HS.out.ext hb (Nat.le_refl _))
                replace HKS : Hid (K + 3 ≤ w25.heap.size) := Lib.hid (Nat.le_trans HKS.out hb.size)
                clear hb
                obtain ⟨hat, hxl, _, _⟩ := HAV.out w25 HBK.out
                obtain ⟨g0, g1, g2, g3, g4, g5, g6, _, _, _⟩ := hat
                simp only [Nat.zero_add] at g1 g2 g3 g4 g5 g6
                dsimp only at g0 g1 g2 g3 g4 g5 g6
                obtain ⟨k0, k1, k2, f0, f1, f2, _⟩ := hxl
                go_wp2_with (go_at_call 18; refine (num23 _ _).mono ?_; rintro e wq ⟨rfl, rfl⟩)
                clear g0 g1 g2 g3 g4 g5 g6 k0 k1 k2 f0 f1 f2
                refine (HCUT.out w25 HBK.out).mono ?_
                rintro e w26 ⟨v, rfl, hown, hb⟩
                obtain ⟨AV, cV, rfl, p1, p2, p3, p4, p5⟩ := own_rds hown
                dsimp only at p4 hown ⊢
                have HOV := Lib.hid hown
                have HKV : Hid (∀ g, (Value.slice AV uc3.length cV).ownBlock = some g → w25.heap.size ≤ g ∧ g < w26.heap.size) := Lib.hid (fun g hg => ownBlock_in hown hg)
                have HZw25 : Hid (w25.heap.size ≤ w26.heap.size) := Lib.hid hb.size
                have HKWV : Hid (K ≤ w25.heap.size) := Lib.hid (by have := HKS.out; omega)
                clear hown p1 p2 p3 p4 p5
                replace HR17 := Lib.hid (HR17.out.ext hb (Nat.le_refl _))
                replace HLU := Lib.hid (HLU.out.ext hb (Nat.le_refl _))
                replace HOU := Lib.hid (own_ext HOU.out hb (Nat.le_refl _))
                replace HBK : Hid (Below K w5 w26) := Lib.hid (HBK.out.trans (hb.mono (Nat.le_trans (Nat.le_add_right K 3) HKS.out)))
                replace HP := Lib.hid (HP.out.ext hb (Nat.le_refl _))
                replace HQ := Lib.hid (HQ.out.ext hb (Nat.le_refl _))
                replace HS := Lib.hid (HS.out.ext hb (Nat.le_refl _))
                replace HKS : Hid (K + 3 ≤ w26.heap.size) := Lib.hid (Nat.le_trans HKS.out hb.size)
                clear hb
                go_upto_region 42 with (fail)
                obtain ⟨w27, hwa⟩ : ∃ x, x = w26.alloc (.cells #[.int .i64 uc1, .int .i64 uc2, .slice AV uc3.length cV] 26) := ⟨_, rfl⟩
                have hb : Below w26.heap.size w26 w27 := by rw [hwa]; exact (Below.refl _ _).alloc (Nat.le_refl _) _
                have HLV : Hid (Lg w27 w26.heap.size uc1 uc2 (.slice AV uc3.length cV)) := by rw [hwa]; exact Lg.new w26 _ _ _ _
                have HZw26 : Hid (w26.heap.size < w27.heap.size) := by rw [hwa]; show _ < _; simp
                rw [← hwa]
                clear hwa
                replace HR17 := Lib.hid (HR17.out.ext hb (Nat.le_refl _))
                replace HLU := Lib.hid (HLU.out.ext hb (Nat.le_refl _))
                replace HOU := Lib.hid (own_ext HOU.out hb (Nat.le_refl _))
                replace HOV := Lib.hid (own_ext HOV.out hb (Nat.le_refl _))
                replace HBK : Hid (Below K w5 w27) := Lib.hid (HBK.out.trans (hb.mono (Nat.le_trans (Nat.le_add_right K 3) HKS.out)))
                replace HP := Lib.hid (HP.out.ext hb (Nat.le_refl _))
                replace HQ := Lib.hid (HQ.out.ext hb (Nat.le_refl _))
                replace HS := Lib.hid (HS.out.ext hb (Nat.le_refl _))
                replace HKS : Hid (K + 3 ≤ w27.heap.size) := Lib.hid (Nat.le_trans HKS.out hb.size)
                clear hb
                obtain ⟨hat, hxl, _, _⟩ := HAV.out w27 HBK.out
                obtain ⟨g0, g1, g2, g3, g4, g5, g6, _, _, _⟩ := hat
                simp only [Nat.zero_add] at g1 g2 g3 g4 g5 g6
                dsimp only at g0 g1 g2 g3 g4 g5 g6
                obtain ⟨k0, k1, k2, f0, f1, f2, _⟩ := hxl
                go_wp2_with (go_at_call 18; refine (num23 _ _).mono ?_; rintro e wq ⟨rfl, rfl⟩)
                clear g0 g1 g2 g3 g4 g5 g6 k0 k1 k2 f0 f1 f2
                refine (HSLI.out w27 HBK.out).mono ?_
                rintro e w28 ⟨v, rfl, hown, hb⟩
                obtain ⟨AS, cS, rfl, p1, p2, p3, p4, p5⟩ := own_rds hown
                dsimp only at p4 hown ⊢
                have HOS := Lib.hid hown
                have HKSS : Hid (∀ g, (Value.slice AS us1.length cS).ownBlock = some g → w27.heap.size ≤ g ∧ g < w28.heap.size) := Lib.hid (fun g hg => ownBlock_in hown hg)
                have HZw27 : Hid (w27.heap.size ≤ w28.heap.size) := Lib.hid hb.size
                have HKWS : Hid (K ≤ w27.heap.size) := Lib.hid (by have := HKS.out; omega)
                clear hown p1 p2 p3 p4 p5
                replace HR17 := Lib.hid (HR17.out.ext hb (Nat.le_refl _))
                replace HLU := Lib.hid (HLU.out.ext hb (Nat.le_refl _))
                replace HLV := Lib.hid (HLV.out.ext hb (Nat.le_refl _))
                replace HOU := Lib.hid (own_ext HOU.out hb (Nat.le_refl _))
                replace HOV := Lib.hid (own_ext HOV.out hb (Nat.le_refl _))
                replace HBK : Hid (Below K w5 w28) := Lib.hid (HBK.out.trans (hb.mono (Nat.le_trans (Nat.le_add_right K 3) HKS.out)))
                replace HP := Lib.hid (HP.out.ext hb (Nat.le_refl _))
                replace HQ := Lib.hid (HQ.out.ext hb (Nat.le_refl _))
                replace HS := Lib.hid (HS.out.ext hb (Nat.le_refl _))
                replace HKS : Hid (K + 3 ≤ w28.heap.size) := Lib.hid (Nat.le_trans HKS.out hb.size)
                clear hb
                obtain ⟨hat, hxl, _, _⟩ := HAV.out w28 HBK.out
                obtain ⟨g0, g1, g2, g3, g4, g5, g6, _, _, _⟩ := hat
                simp only [Nat.zero_add] at g1 g2 g3 g4 g5 g6
                dsimp only at g0 g1 g2 g3 g4 g5 g6
                obtain ⟨k0, k1, k2, f0, f1, f2, _⟩ := hxl
                go_wp2_with (go_at_call 18; refine (num23 _ _).mono ?_; rintro e wq ⟨rfl, rfl⟩)
                clear g0 g1 g2 g3 g4 g5 g6 k0 k1 k2 f0 f1 f2
                refine (HCOM.out w28 HBK.out).mono ?_
                rintro e w29 ⟨v, rfl, hown, hb⟩
                obtain ⟨AY, cY, rfl, p1, p2, p3, p4, p5⟩ := own_rds hown
                dsimp only at p4 hown ⊢
                have HOY := Lib.hid hown
                have HKY : Hid (∀ g, (Value.slice AY uk3.length cY).ownBlock = some g → w28.heap.size ≤ g ∧ g < w29.heap.size) := Lib.hid (fun g hg => ownBlock_in hown hg)
                have HZw28 : Hid (w28.heap.size ≤ w29.heap.size) := Lib.hid hb.size
                have HKWY : Hid (K ≤ w28.heap.size) := Lib.hid (by have := HKS.out; omega)
                clear hown p1 p2 p3 p4 p5
                replace HR17 := Lib.hid (HR17.out.ext hb (Nat.le_refl _))
                replace HLU := Lib.hid (HLU.out.ext hb (Nat.le_refl _))
                replace HLV := Lib.hid (HLV.out.ext hb (Nat.le_refl _))
                replace HOU := Lib.hid (own_ext HOU.out hb (Nat.le_refl _))
                replace HOV := Lib.hid (own_ext HOV.out hb (Nat.le_refl _))
                replace HOS := Lib.hid (own_ext HOS.out hb (Nat.le_refl _))
                replace HBK : Hid (Below K w5 w29) := Lib.hid (HBK.out.trans (hb.mono (Nat.le_trans (Nat.le_add_right K 3) HKS.out)))
                replace HP := Lib.hid (HP.out.ext hb (Nat.le_refl _))
                replace HQ := Lib.hid (HQ.out.ext hb (Nat.le_refl _))
                replace HS := Lib.hid (HS.out.ext hb (Nat.le_refl _))
                replace HKS : Hid (K + 3 ≤ w29.heap.size) := Lib.hid (Nat.le_trans HKS.out hb.size)
                clear hb
                go_upto_region 44 with (fail)
                obtain ⟨w30, hwa⟩ : ∃ x, x = w29.alloc (.cells #[.int .i64 uk1, .int .i64 uk2, .slice AY uk3.length cY] 26) := ⟨_, rfl⟩
                have hb : Below w29.heap.size w29 w30 := by rw [hwa]; exact (Below.refl _ _).alloc (Nat.le_refl _) _
                have HLY : Hid (Lg w30 w29.heap.size uk1 uk2 (.slice AY uk3.length cY)) := by rw [hwa]; exact Lg.new w29 _ _ _ _
                have HZw29 : Hid (w29.heap.size < w30.heap.size) := by rw [hwa]; show _ < _; simp
                rw [← hwa]
                clear hwa
                replace HR17 := Lib.hid (HR17.out.ext hb (Nat.le_refl _))
                replace HLU := Lib.hid (HLU.out.ext hb (Nat.le_refl _))
                replace HLV := Lib.hid (HLV.out.ext hb (Nat.le_refl _))
                replace HOU := Lib.hid (own_ext HOU.out hb (Nat.le_refl _))
                replace HOV := Lib.hid (own_ext HOV.out hb (Nat.le_refl _))
                replace HOS := Lib.hid (own_ext HOS.out hb (Nat.le_refl _))
                replace HOY := Lib.hid (own_ext HOY.out hb (Nat.le_refl _))
                replace HBK : Hid (Below K w5 w30) := Lib.hid (HBK.out.trans (hb.mono (Nat.le_trans (Nat.le_add_right K 3) HKS.out)))
                replace HP := Lib.hid (HP.out.ext hb (Nat.le_refl _))
                replace HQ := Lib.hid (HQ.out.ext hb (Nat.le_refl _))
                replace HS := Lib.hid (HS.out.ext hb (Nat.le_refl _))
                replace HKS : Hid (K + 3 ≤ w30.heap.size) := Lib.hid (Nat.le_trans HKS.out hb.size)
                clear hb
                clear HAPP HCUT HSLI HCOM
                as_aux_lemma =>
                  obtain ⟨Ap, cp, hlp, hlp2, _⟩ := HP.out
                  obtain ⟨z0, z1, z2, y0, y1, y2, _⟩ := hlp
                  obtain ⟨q0, q1, q2, r0, r1, r2, _⟩ := HLU.out
                  dsimp only at z0 z1 z2 hlp2
                  go_wp2_with (go_at_call 18; refine (num23 _ _).mono ?_; rintro e wq ⟨rfl, rfl⟩)
                  clear z0 z1 z2 y0 y1 y2 q0 q1 q2 r0 r1 r2
                  refine (EqLog_any w30 ua1 ua2 AU ua3.length cU ua3 rfl (by obtain ⟨_, _, e9, _, _, _, q9, _⟩ := own_rds HOU.out; cases e9; exact q9) ua1 ua2 Ap ua3.length cp ua3 rfl hlp2 (by have := HLEN.out; omega) true (by simp)).mono ?_
                  clear hlp2
                  rintro e w31 ⟨rfl, hb⟩
                  have HZw30 : Hid (w30.heap.size ≤ w31.heap.size) := Lib.hid hb.size
                  replace HR17 := Lib.hid (HR17.out.ext hb (Nat.le_refl _))
                  replace HLU := Lib.hid (HLU.out.ext hb (Nat.le_refl _))
                  replace HLV := Lib.hid (HLV.out.ext hb (Nat.le_refl _))
                  replace HLY := Lib.hid (HLY.out.ext hb (Nat.le_refl _))
                  replace HOU := Lib.hid (own_ext HOU.out hb (Nat.le_refl _))
                  replace HOV := Lib.hid (own_ext HOV.out hb (Nat.le_refl _))
                  replace HOS := Lib.hid (own_ext HOS.out hb (Nat.le_refl _))
                  replace HOY := Lib.hid (own_ext HOY.out hb (Nat.le_refl _))
                  replace HBK : Hid (Below K w5 w31) := Lib.hid (HBK.out.trans (hb.mono (Nat.le_trans (Nat.le_add_right K 3) HKS.out)))
                  replace HP := Lib.hid (HP.out.ext hb (Nat.le_refl _))
                  replace HQ := Lib.hid (HQ.out.ext hb (Nat.le_refl _))
                  replace HS := Lib.hid (HS.out.ext hb (Nat.le_refl _))
                  replace HKS : Hid (K + 3 ≤ w31.heap.size) := Lib.hid (Nat.le_trans HKS.out hb.size)
                  clear hb
                  obtain ⟨Ap, cp, hlp, hlp2, _⟩ := HQ.out
                  obtain ⟨z0, z1, z2, y0, y1, y2, _⟩ := hlp
                  obtain ⟨q0, q1, q2, r0, r1, r2, _⟩ := HLV.out
                  dsimp only at z0 z1 z2 hlp2
                  go_wp2_with (go_at_call 18; refine (num23 _ _).mono ?_; rintro e wq ⟨rfl, rfl⟩)
                  clear z0 z1 z2 y0 y1 y2 q0 q1 q2 r0 r1 r2
                  refine (EqLog_any w31 uc1 uc2 AV uc3.length cV uc3 rfl (by obtain ⟨_, _, e9, _, _, _, q9, _⟩ := own_rds HOV.out; cases e9; exact q9) uc1 uc2 Ap uc3.length cp uc3 rfl hlp2 (by have := HLEN.out; omega) true (by simp)).mono ?_
                  clear hlp2
                  rintro e w32 ⟨rfl, hb⟩
                  have HZw31 : Hid (w31.heap.size ≤ w32.heap.size) := Lib.hid hb.size
                  replace HR17 := Lib.hid (HR17.out.ext hb (Nat.le_refl _))
                  replace HLU := Lib.hid (HLU.out.ext hb (Nat.le_refl _))
                  replace HLV := Lib.hid (HLV.out.ext hb (Nat.le_refl _))
                  replace HLY := Lib.hid (HLY.out.ext hb (Nat.le_refl _))
                  replace HOU := Lib.hid (own_ext HOU.out hb (Nat.le_refl _))
                  replace HOV := Lib.hid (own_ext HOV.out hb (Nat.le_refl _))
                  replace HOS := Lib.hid (own_ext HOS.out hb (Nat.le_refl _))
                  replace HOY := Lib.hid (own_ext HOY.out hb (Nat.le_refl _))
                  replace HBK : Hid (Below K w5 w32) := Lib.hid (HBK.out.trans (hb.mono (Nat.le_trans (Nat.le_add_right K 3) HKS.out)))
                  replace HP := Lib.hid (HP.out.ext hb (Nat.le_refl _))
                  replace HQ := Lib.hid (HQ.out.ext hb (Nat.le_refl _))
                  replace HS := Lib.hid (HS.out.ext hb (Nat.le_refl _))
                  replace HKS : Hid (K + 3 ≤ w32.heap.size) := Lib.hid (Nat.le_trans HKS.out hb.size)
                  clear hb
                  go_wp2_with (go_at_call 18; refine (num23 _ _).mono ?_; rintro e wq ⟨rfl, rfl⟩)
                  refine (EqEntries_any w32 AS us1.length cS us1 rfl (by obtain ⟨_, _, e9, _, _, _, q9, _⟩ := own_rds HOS.out; cases e9; exact q9) A17 us1.length c17 us1 rfl HR17.out (by have := HLEN.out; omega)).mono ?_
                  rw [show decide (us1 = us1) = true from by simp]
                  rintro e w33' ⟨rfl, hbq⟩
                  obtain ⟨nq, rfl⟩ := hbq
                  have hb : Below w32.heap.size w32 (w32.drewN nq) := drawn_below w32 nq
                  have HZw32 : Hid (w32.heap.size ≤ (w32.drewN nq).heap.size) := Lib.hid hb.size
                  replace HR17 := Lib.hid (HR17.out.ext hb (Nat.le_refl _))
                  replace HLU := Lib.hid (HLU.out.ext hb (Nat.le_refl _))
                  replace HLV := Lib.hid (HLV.out.ext hb (Nat.le_refl _))
                  replace HLY := Lib.hid (HLY.out.ext hb (Nat.le_refl _))
                  replace HOU := Lib.hid (own_ext HOU.out hb (Nat.le_refl _))
                  replace HOV := Lib.hid (own_ext HOV.out hb (Nat.le_refl _))
                  replace HOS := Lib.hid (own_ext HOS.out hb (Nat.le_refl _))
                  replace HOY := Lib.hid (own_ext HOY.out hb (Nat.le_refl _))
                  replace HBK : Hid (Below K w5 (w32.drewN nq)) := Lib.hid (HBK.out.trans (hb.mono (Nat.le_trans (Nat.le_add_right K 3) HKS.out)))
                  replace HP := Lib.hid (HP.out.ext hb (Nat.le_refl _))
                  replace HQ := Lib.hid (HQ.out.ext hb (Nat.le_refl _))
                  replace HS := Lib.hid (HS.out.ext hb (Nat.le_refl _))
                  replace HKS : Hid (K + 3 ≤ (w32.drewN nq).heap.size) := Lib.hid (Nat.le_trans HKS.out hb.size)
                  clear hb
                  generalize w32.drewN nq = w33 at *
                  obtain ⟨Ap, cp, hlp, hlp2, _⟩ := HS.out
                  obtain ⟨z0, z1, z2, y0, y1, y2, _⟩ := hlp
                  obtain ⟨q0, q1, q2, r0, r1, r2, _⟩ := HLY.out
                  dsimp only at z0 z1 z2 hlp2
                  go_wp2_with (go_at_call 18; refine (num23 _ _).mono ?_; rintro e wq ⟨rfl, rfl⟩)
                  clear z0 z1 z2 y0 y1 y2 q0 q1 q2 r0 r1 r2
                  refine (EqLog_any w33 uk1 uk2 AY uk3.length cY uk3 rfl (by obtain ⟨_, _, e9, _, _, _, q9, _⟩ := own_rds HOY.out; cases e9; exact q9) uk1 uk2 Ap uk3.length cp uk3 rfl hlp2 (by have := HLEN.out; omega) true (by simp)).mono ?_
                  clear hlp2
                  rintro e w34 ⟨rfl, hb⟩
                  have HZw33 : Hid (w33.heap.size ≤ w34.heap.size) := Lib.hid hb.size
                  replace HR17 := Lib.hid (HR17.out.ext hb (Nat.le_refl _))
                  replace HLU := Lib.hid (HLU.out.ext hb (Nat.le_refl _))
                  replace HLV := Lib.hid (HLV.out.ext hb (Nat.le_refl _))
                  replace HLY := Lib.hid (HLY.out.ext hb (Nat.le_refl _))
                  replace HOU := Lib.hid (own_ext HOU.out hb (Nat.le_refl _))
                  replace HOV := Lib.hid (own_ext HOV.out hb (Nat.le_refl _))
                  replace HOS := Lib.hid (own_ext HOS.out hb (Nat.le_refl _))
                  replace HOY := Lib.hid (own_ext HOY.out hb (Nat.le_refl _))
                  replace HBK : Hid (Below K w5 w34) := Lib.hid (HBK.out.trans (hb.mono (Nat.le_trans (Nat.le_add_right K 3) HKS.out)))
                  replace HP := Lib.hid (HP.out.ext hb (Nat.le_refl _))
                  replace HQ := Lib.hid (HQ.out.ext hb (Nat.le_refl _))
                  replace HS := Lib.hid (HS.out.ext hb (Nat.le_refl _))
                  replace HKS : Hid (K + 3 ≤ w34.heap.size) := Lib.hid (Nat.le_trans HKS.out hb.size)
                  clear hb
                  clear HR17 HP HQ HS
                  have HZQ : Hid (w23.heap.size ≤ w24.heap.size ∧ w24.heap.size < w25.heap.size ∧ w25.heap.size ≤ w26.heap.size ∧ w26.heap.size < w27.heap.size ∧ w27.heap.size ≤ w28.heap.size ∧ w28.heap.size ≤ w29.heap.size ∧ w29.heap.size < w30.heap.size ∧ w30.heap.size ≤ w34.heap.size) := Lib.hid ⟨HZw23.out, HZw24.out, HZw25.out, HZw26.out, HZw27.out, HZw28.out, HZw29.out, Nat.le_trans HZw30.out (Nat.le_trans HZw31.out (Nat.le_trans HZw32.out HZw33.out))⟩
                  clear HZw23 HZw24 HZw25 HZw26 HZw27 HZw28 HZw29 HZw30 HZw31 HZw32 HZw33
                  as_aux_lemma =>
                    obtain ⟨q0, q1, q2, r0, r1, r2, _⟩ := HLU.out
                    go_wp2_with fail
                    clear q0 q1 q2 r0 r1 r2
                    have hkb : K ≤ w34.heap.size := by have := HKS.out; omega
                    have hsb : w23.heap.size ≤ w34.heap.size := by have := HZQ.out; omega
                    refine (spoilE_any w34 w23.heap.size (.slice AU ua3.length cU) ua3.length (entsC ua3) (entsC_len _) (by have := HLEN.out; omega) hsb HOU.out).mono ?_
                    rintro e w35 ⟨rfl, hg⟩
                    replace HBK : Hid (Below K w5 w35) := Lib.hid (HBK.out.grown hg hkb (fun g h => Nat.le_trans HKWU.out (HKU.out g h).1))
                    replace HKS : Hid (K + 3 ≤ w35.heap.size) := Lib.hid (Nat.le_trans HKS.out hg.size)
                    replace HZQ : Hid (w23.heap.size ≤ w24.heap.size ∧ w24.heap.size < w25.heap.size ∧ w25.heap.size ≤ w26.heap.size ∧ w26.heap.size < w27.heap.size ∧ w27.heap.size ≤ w28.heap.size ∧ w28.heap.size ≤ w29.heap.size ∧ w29.heap.size < w30.heap.size ∧ w30.heap.size ≤ w35.heap.size) := Lib.hid (by have := HZQ.out; have := hg.size; omega)
                    replace HOV := Lib.hid (HOV.out.kept hg (by
                      cases hx : (Value.slice AV uc3.length cV).ownBlock with
                      | none => exact .inl rfl
                      | some g =>
                        refine .inr (fun h9 => ?_)
                        have a1 := HKV.out g hx
                        have a2 := HKU.out g h9.symm
                        have := HZQ.out
                        omega))
                    replace HOS := Lib.hid (HOS.out.kept hg (by
                      cases hx : (Value.slice AS us1.length cS).ownBlock with
                      | none => exact .inl rfl
                      | some g =>
                        refine .inr (fun h9 => ?_)
                        have a1 := HKSS.out g hx
                        have a2 := HKU.out g h9.symm
                        have := HZQ.out
                        omega))
                    replace HOY := Lib.hid (HOY.out.kept hg (by
                      cases hx : (Value.slice AY uk3.length cY).ownBlock with
                      | none => exact .inl rfl
                      | some g =>
                        refine .inr (fun h9 => ?_)
                        have a1 := HKY.out g hx
                        have a2 := HKU.out g h9.symm
                        have := HZQ.out
                        omega))
                    replace HLV := Lib.hid (HLV.out.grown hg (fun h9 => by have a2 := HKU.out _ h9; have := HZQ.out; omega))
                    replace HLY := Lib.hid (HLY.out.grown hg (fun h9 => by have a2 := HKU.out _ h9; have := HZQ.out; omega))
                    clear hg hkb hsb HOU HLU
                    obtain ⟨q0, q1, q2, r0, r1, r2, _⟩ := HLV.out
                    go_wp2_with fail
                    clear q0 q1 q2 r0 r1 r2
                    have hkb : K ≤ w35.heap.size := by have := HKS.out; omega
                    have hsb : w25.heap.size ≤ w35.heap.size := by have := HZQ.out; omega
                    refine (spoilE_any w35 w25.heap.size (.slice AV uc3.length cV) uc3.length (entsC uc3) (entsC_len _) (by have := HLEN.out; omega) hsb HOV.out).mono ?_
                    rintro e w36 ⟨rfl, hg⟩
                    replace HBK : Hid (Below K w5 w36) := Lib.hid (HBK.out.grown hg hkb (fun g h => Nat.le_trans HKWV.out (HKV.out g h).1))
                    replace HKS : Hid (K + 3 ≤ w36.heap.size) := Lib.hid (Nat.le_trans HKS.out hg.size)
                    replace HZQ : Hid (w23.heap.size ≤ w24.heap.size ∧ w24.heap.size < w25.heap.size ∧ w25.heap.size ≤ w26.heap.size ∧ w26.heap.size < w27.heap.size ∧ w27.heap.size ≤ w28.heap.size ∧ w28.heap.size ≤ w29.heap.size ∧ w29.heap.size < w30.heap.size ∧ w30.heap.size ≤ w36.heap.size) := Lib.hid (by have := HZQ.out; have := hg.size; omega)
                    replace HOS := Lib.hid (HOS.out.kept hg (by
                      cases hx : (Value.slice AS us1.length cS).ownBlock with
                      | none => exact .inl rfl
                      | some g =>
                        refine .inr (fun h9 => ?_)
                        have a1 := HKSS.out g hx
                        have a2 := HKV.out g h9.symm
                        have := HZQ.out
                        omega))
                    replace HOY := Lib.hid (HOY.out.kept hg (by
                      cases hx : (Value.slice AY uk3.length cY).ownBlock with
                      | none => exact .inl rfl
                      | some g =>
                        refine .inr (fun h9 => ?_)
                        have a1 := HKY.out g hx
                        have a2 := HKV.out g h9.symm
                        have := HZQ.out
                        omega))
                    replace HLY := Lib.hid (HLY.out.grown hg (fun h9 => by have a2 := HKV.out _ h9; have := HZQ.out; omega))
                    clear hg hkb hsb HOV HLV
                    go_wp2_with fail
                    have hkb : K ≤ w36.heap.size := by have := HKS.out; omega
                    have hsb : w27.heap.size ≤ w36.heap.size := by have := HZQ.out; omega
                    refine (spoilE_any w36 w27.heap.size (.slice AS us1.length cS) us1.length (entsC us1) (entsC_len _) (by have := HLEN.out; omega) hsb HOS.out).mono ?_
                    rintro e w37 ⟨rfl, hg⟩
                    replace HBK : Hid (Below K w5 w37) := Lib.hid (HBK.out.grown hg hkb (fun g h => Nat.le_trans HKWS.out (HKSS.out g h).1))
                    replace HKS : Hid (K + 3 ≤ w37.heap.size) := Lib.hid (Nat.le_trans HKS.out hg.size)
                    replace HZQ : Hid (w23.heap.size ≤ w24.heap.size ∧ w24.heap.size < w25.heap.size ∧ w25.heap.size ≤ w26.heap.size ∧ w26.heap.size < w27.heap.size ∧ w27.heap.size ≤ w28.heap.size ∧ w28.heap.size ≤ w29.heap.size ∧ w29.heap.size < w30.heap.size ∧ w30.heap.size ≤ w37.heap.size) := Lib.hid (by have := HZQ.out; have := hg.size; omega)
                    replace HOY := Lib.hid (HOY.out.kept hg (by
                      cases hx : (Value.slice AY uk3.length cY).ownBlock with
                      | none => exact .inl rfl
                      | some g =>
                        refine .inr (fun h9 => ?_)
                        have a1 := HKY.out g hx
                        have a2 := HKSS.out g h9.symm
                        have := HZQ.out
                        omega))
                    replace HLY := Lib.hid (HLY.out.grown hg (fun h9 => by have a2 := HKSS.out _ h9; have := HZQ.out; omega))
                    clear hg hkb hsb HOS
                    obtain ⟨q0, q1, q2, r0, r1, r2, _⟩ := HLY.out
                    go_wp2_with fail
                    clear q0 q1 q2 r0 r1 r2
                    have hkb : K ≤ w37.heap.size := by have := HKS.out; omega
                    have hsb : w28.heap.size ≤ w37.heap.size := by have := HZQ.out; omega
                    refine (spoilE_any w37 w28.heap.size (.slice AY uk3.length cY) uk3.length (entsC uk3) (entsC_len _) (by have := HLEN.out; omega) hsb HOY.out).mono ?_
                    rintro e w38 ⟨rfl, hg⟩
                    replace HBK : Hid (Below K w5 w38) := Lib.hid (HBK.out.grown hg hkb (fun g h => Nat.le_trans HKWY.out (HKY.out g h).1))
                    replace HKS : Hid (K + 3 ≤ w38.heap.size) := Lib.hid (Nat.le_trans HKS.out hg.size)
                    replace HZQ : Hid (w23.heap.size ≤ w24.heap.size ∧ w24.heap.size < w25.heap.size ∧ w25.heap.size ≤ w26.heap.size ∧ w26.heap.size < w27.heap.size ∧ w27.heap.size ≤ w28.heap.size ∧ w28.heap.size ≤ w29.heap.size ∧ w29.heap.size < w30.heap.size ∧ w30.heap.size ≤ w38.heap.size) := Lib.hid (by have := HZQ.out; have := hg.size; omega)
                    clear hg hkb hsb HOY HLY
                    obtain ⟨hat, hxl, _, _⟩ := HAV.out w38 HBK.out
                    obtain ⟨g0, g1, g2, g3, g4, g5, g6, _, _, _⟩ := hat
                    simp only [Nat.zero_add] at g1 g2 g3 g4 g5 g6
                    dsimp only at g0 g1 g2 g3 g4 g5 g6
                    obtain ⟨k0, k1, k2, f0, f1, f2, _⟩ := hxl
                    go_wp2_with fail
                    clear g0 g1 g2 g3 g4 g5 g6 k0 k1 k2 f0 f1 f2
                    obtain ⟨hat8, hxl8, hxr8, her8⟩ := HAV.out w38 HBK.out
                    refine (EqLog_any w38 b t A1 L.length c1 L rfl hxr8 b t B L.length cc L rfl hat8.l.rds (by omega) true (by simp)).mono ?_
                    clear hat8 hxl8 hxr8 her8
                    rintro e w39 ⟨rfl, hb⟩
                    replace HBK : Hid (Below K w5 w39) := Lib.hid (HBK.out.trans (hb.mono (Nat.le_trans (Nat.le_add_right K 3) HKS.out)))
                    replace HKS : Hid (K + 3 ≤ w39.heap.size) := Lib.hid (Nat.le_trans HKS.out hb.size)
                    clear hb
                    obtain ⟨hat, hxl, _, _⟩ := HAV.out w39 HBK.out
                    obtain ⟨g0, g1, g2, g3, g4, g5, g6, _, _, _⟩ := hat
                    simp only [Nat.zero_add] at g1 g2 g3 g4 g5 g6
                    dsimp only at g0 g1 g2 g3 g4 g5 g6
                    obtain ⟨k0, k1, k2, f0, f1, f2, _⟩ := hxl
                    go_wp2_with fail
                    clear g0 g1 g2 g3 g4 g5 g6 k0 k1 k2 f0 f1 f2
                    obtain ⟨hat9, hxl9, hxr9, her9⟩ := HAV.out w39 HBK.out
                    refine (EqEntries_any w39 A6 Es.length c6 Es rfl her9 C Es.length d Es rfl hat9.e.rds (by omega)).mono ?_
                    clear hat9 hxl9 hxr9 her9
                    rw [show decide (Es = Es) = true from by simp]
                    rintro e w40' ⟨rfl, hbq⟩
                    obtain ⟨nq, rfl⟩ := hbq
                    have hb9 : Below w5.heap.size w5 (w39.drewN nq) := (HBK.out.trans ((drawn_below w39 nq).mono (Nat.le_trans (Nat.le_add_right K 3) HKS.out))).mono HKE.out
                    replace HX : Hid (Below W.heap.size W (w39.drewN nq)) := Lib.hid (HX.out.trans (hb9.mono HX.out.size))
                    clear hb9
                    go_wp2
                    go_roundw
                    case rel => exact ⟨k + 1, by omega, by go_num, HX⟩
                    case measure => simp [intOf]; omega
      · obtain rfl : k = 8 := by omega
        go_wp2_with fail
        refine (wakes23 _).mono ?_
        rintro e w1 ⟨rfl, hb⟩
        go_wp2
        go_ret
        exact ⟨rfl, HX.out.trans (hb.mono HX.out.size)⟩
    · have h1i : ¬ (k : Int) < (xs.length : Int) := by omega
      go_wp2_with fail
      refine (wakes23 _).mono ?_
      rintro e w1 ⟨rfl, hb⟩
      go_wp2
      go_ret
      exact ⟨rfl, HX.out.trans (hb.mono HX.out.size)⟩
end Go.Proofs.Ytpdnkhdnenibgaa
