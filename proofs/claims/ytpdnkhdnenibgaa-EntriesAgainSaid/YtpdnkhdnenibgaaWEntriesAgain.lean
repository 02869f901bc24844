/- The walk of the law EntriesAgain. -/
import Derived.Test.YtpdnkhdnenibgaaAskR23
import Derived.Test.YtpdnkhdnenibgaaEntT
import Derived.Test.YtpdnkhdnenibgaaAgainL
set_option linter.unusedVariables false
set_option linter.unusedSimpArgs false
namespace Go.Proofs.Ytpdnkhdnenibgaa
open Go.RowKit Lec
set_option maxRecDepth 100000 in
set_option maxHeartbeats 4000000 in
theorem EntriesAgain_walk (W : World) (A : Option Addr) (c : Nat) (xs : List AskT) (hrow : Row Ask23 W A xs) (hlc : xs.length ≤ c) (hcm : c ≤ maxLen) (hnone : A = none → xs.length = 0 ∧ c = 0) (hby : c * 88 ≤ reachBytes) :
    Calls Try.prog 10 #[.slice A xs.length c] W fun e w' => e = .returned (.bool true) ∧ Below W.heap.size W w' := by
  have hlen : xs.length ≤ 9223372036854775807 := by unfold maxLen at hcm; omega
  have HROW := Lib.hid hrow
  clear hrow hnone hby hcm hlc
  go_enter Try.func10, Try.ntmps10
  go_wp2
  go_loopw [3] (fun i wr => ∃ k : Nat, k ≤ 8 ∧ i = .int .i64 k ∧ Hid (Below W.heap.size W wr)) (fun i _ => 8 - (intOf i).toNat)
  case atStart => exact ⟨0, by omega, rfl, Below.refl _ _⟩
  case round =>
    obtain ⟨k, hk, rfl, HX⟩ := hrel
    by_cases h1 : k < xs.length
    · have h1i : (k : Int) < (xs.length : Int) := by omega
      by_cases h8 : k < 8
      · have h8i : (k : Int) < 8 := by omega
        obtain ⟨a, B, cc, C, d, rfl, hat⟩ := ask_at (HROW.out.ext HX.out (Nat.le_refl _)) k h1
        generalize xs[k] = x at *
        obtain ⟨⟨b, t, L⟩, i, j, Es, N⟩ := x
        have HAT := Lib.hid hat
        clear hat
        obtain ⟨g0, g1, g2, g3, g4, g5, g6, _, _, _⟩ := HAT.out
        go_upto_region 5 with (fail)
        clear g0 g1 g2 g3 g4 g5 g6
        obtain ⟨w1, hw1⟩ : ∃ w1, w1 = wr.alloc (.cells #[.int .i64 b, .int .i64 t, .slice B L.length cc, .int .i64 i, .int .i64 j, .slice C Es.length d, .int .i64 N] 28) := ⟨_, rfl⟩
        have hb1 : Below wr.heap.size wr w1 := by rw [hw1]; exact (Below.refl _ _).alloc (Nat.le_refl _) _
        have hat1 : AskAt w1 ⟨wr.heap.size, 0, none⟩ ((b, t, L), i, j, Es, N) B cc C d := by
          have hnew := heap_alloc_new wr (.cells #[.int .i64 b, .int .i64 t, .slice B L.length cc, .int .i64 i, .int .i64 j, .slice C Es.length d, .int .i64 N] 28 (0, 0))
          have h := HAT.out.ext hb1 (Nat.le_refl _)
          rw [hw1] at h ⊢
          exact ⟨by rw [cell_of_row _ _ _ _ _ _ hnew]; rfl, by rw [cell_of_row _ _ _ _ _ _ hnew]; rfl, by rw [cell_of_row _ _ _ _ _ _ hnew]; rfl, by rw [cell_of_row _ _ _ _ _ _ hnew]; rfl, by rw [cell_of_row _ _ _ _ _ _ hnew]; rfl, by rw [cell_of_row _ _ _ _ _ _ hnew]; rfl, by rw [cell_of_row _ _ _ _ _ _ hnew]; rfl, h.l, h.e, h.wf⟩
        rw [← hw1]
        clear HAT
        have HAT := Lib.hid hat1
        replace HX : Hid (Below W.heap.size W w1) := HX.out.trans (hb1.mono HX.out.size)
        generalize wr.heap.size = gp at *
        clear hw1 hb1 hat1
        generalize hok : heavy23 L Es = u
        have HOK := Lib.hid hok
        clear hok
        obtain ⟨g0, g1, g2, g3, g4, g5, g6, _, _, _⟩ := HAT.out
        simp only [Nat.zero_add] at g1 g2 g3 g4 g5 g6
        dsimp only at g0 g1 g2 g3 g4 g5 g6
        go_wp2_with fail
        clear g0 g1 g2 g3 g4 g5 g6
        refine (heavy23_any w1 b t B L.length cc L i j C Es.length d Es N rfl rfl HAT.out.l.small HAT.out.e.small HAT.out.l.str HAT.out.e.str HAT.out.l.rds HAT.out.e.rds u HOK.out).mono ?_
        rintro e w2 ⟨rfl, hb⟩
        replace HX : Hid (Below W.heap.size W w2) := HX.out.trans (hb.mono HX.out.size)
        replace HAT := Lib.hid (HAT.out.ext hb (Nat.le_refl _))
        clear hb
        cases u with
        | true =>
          go_wp2
          go_ret
          exact ⟨rfl, HX.out⟩
        | false =>
          have hlight := heavy23_light HOK.out
          by_cases h200 : 200 < L.length
          · have h2i : (200 : Int) < (L.length : Int) := by omega
            obtain ⟨g0, g1, g2, g3, g4, g5, g6, _, _, _⟩ := HAT.out
            simp only [Nat.zero_add] at g1 g2 g3 g4 g5 g6
            dsimp only at g0 g1 g2 g3 g4 g5 g6
            go_wp2
            go_ret
            exact ⟨rfl, HX.out⟩
          · have h2i : ¬ (200 : Int) < (L.length : Int) := by omega
            clear HOK
            have HLT := Lib.hid hlight
            clear hlight
            obtain ⟨rb, rt, M, rmiss, rerr, hres⟩ : ∃ rb rt M rmiss rerr, mergeE b t L i j Es = (rb, rt, M, rmiss, rerr) := ⟨_, _, _, _, _, rfl⟩
            have HRES := Lib.hid hres
            have HMG := Lib.hid (Merge_any w2 b t B L.length cc L rfl (by omega) HAT.out.l.len HAT.out.l.nil HAT.out.l.rds i j C Es.length d Es rfl (by have := HLT.out; omega) HAT.out.e.len HAT.out.e.nil HAT.out.e.rds)
            rw [hres] at HMG
            clear hres
            obtain ⟨g0, g1, g2, g3, g4, g5, g6, _, _, _⟩ := HAT.out
            simp only [Nat.zero_add] at g1 g2 g3 g4 g5 g6
            dsimp only at g0 g1 g2 g3 g4 g5 g6
            go_wp2_with fail
            clear g0 g1 g2 g3 g4 g5 g6
            refine HMG.out.mono ?_
            rintro e w3 ⟨v, rfl, hown, hb⟩
            obtain ⟨A3, c3, rfl, p1, p2, p3, p4, p5⟩ := own_rds hown
            dsimp only at p1 p2 p3 p4 p5 hown ⊢
            replace HX : Hid (Below W.heap.size W w3) := HX.out.trans (hb.mono HX.out.size)
            replace HAT := Lib.hid (HAT.out.ext hb (Nat.le_refl _))
            have HR3 := Lib.hid p4
            have HC3 := Lib.hid p1
            have HN3 := Lib.hid p3
            clear hb hown p1 p2 p3 p4 p5 HMG
            go_upto_region 8 with (fail)
            obtain ⟨w4, hw4⟩ : ∃ w4, w4 = w3.alloc (.cells #[.int .i64 rb, .int .i64 rt, .slice A3 M.length c3] 26) := ⟨_, rfl⟩
            have hb4 : Below w3.heap.size w3 w4 := by rw [hw4]; exact (Below.refl _ _).alloc (Nat.le_refl _) _
            have HP4 : Hid (Lg w4 w3.heap.size rb rt (.slice A3 M.length c3)) := by rw [hw4]; exact Lg.new w3 _ _ _ _
            rw [← hw4]
            have HR4 := Lib.hid (HR3.out.ext hb4 (Nat.le_refl _))
            have hb := hb4
            replace HX : Hid (Below W.heap.size W w4) := HX.out.trans (hb.mono HX.out.size)
            replace HAT := Lib.hid (HAT.out.ext hb (Nat.le_refl _))
            generalize w3.heap.size = gm at *
            clear hw4 hb4 hb HR3
            by_cases he0 : rerr = 0
            · cases rmiss with
              | true =>
                have hei : (rerr != 0) = false := by rw [he0]; rfl
                clear he0
                go_wp2_with (go_at_call 18; refine (num23 _ _).mono ?_; rintro e wq ⟨rfl, rfl⟩)
                go_roundw
                case rel => exact ⟨k + 1, by omega, by go_num, HX⟩
                case measure => simp [intOf]; omega
              | false =>
                subst he0
                obtain ⟨rfl, rfl, hmL, hmM, hag, hin⟩ := merge_again HRES.out
                have hmm := merge_may HRES.out
                have HML := Lib.hid hmL
                have HMM := Lib.hid hmM
                have HMY := Lib.hid hmm
                have HIN := Lib.hid hin
                have hbb : 0 ≤ rb ∧ rb ≤ 1099511625728 := ⟨hmL.1, hmL.2.1⟩
                have hm512 : M.length ≤ 512 := hmM.2.2.2.2.1
                have HMG := Lib.hid (Merge_any w4 rb rt A3 M.length c3 M rfl (by omega) HC3.out HN3.out HR4.out i j C Es.length d Es rfl (by have := HLT.out; omega) HAT.out.e.len HAT.out.e.nil HAT.out.e.rds)
                rw [hag] at HMG
                clear hmL hmM hmm hin hag HRES
                obtain ⟨p0, p1, p2, q0, q1, q2, _⟩ := HP4.out
                obtain ⟨g0, g1, g2, g3, g4, g5, g6, _, _, _⟩ := HAT.out
                simp only [Nat.zero_add] at g1 g2 g3 g4 g5 g6
                dsimp only at g0 g1 g2 g3 g4 g5 g6
                go_wp2_with (first | (go_at_call 18; refine (num23 _ _).mono ?_; rintro e wq ⟨rfl, rfl⟩))
                clear g0 g1 g2 g3 g4 g5 g6
                refine HMG.out.mono ?_
                clear p0 p1 p2 q0 q1 q2 HMG
                rintro e w5 ⟨v, rfl, hown, hb⟩
                obtain ⟨A5, c5, rfl, p1, p2, p3, p4, p5⟩ := own_rds hown
                dsimp only at p1 p2 p3 p4 p5 hown ⊢
                replace HX : Hid (Below W.heap.size W w5) := HX.out.trans (hb.mono HX.out.size)
                replace HAT := Lib.hid (HAT.out.ext hb (Nat.le_refl _))
                have HR5 := Lib.hid p4
                replace HR4 := Lib.hid (HR4.out.ext hb (Nat.le_refl _))
                replace HP4 := Lib.hid (HP4.out.ext hb (Nat.le_refl _))
                clear hb hown p1 p2 p3 p4 p5
                go_upto_region 10 with (fail)
                obtain ⟨w6, hw6⟩ : ∃ w6, w6 = w5.alloc (.cells #[.int .i64 rb, .int .i64 rt, .slice A5 M.length c5] 26) := ⟨_, rfl⟩
                have hb6 : Below w5.heap.size w5 w6 := by rw [hw6]; exact (Below.refl _ _).alloc (Nat.le_refl _) _
                have HP6 : Hid (Lg w6 w5.heap.size rb rt (.slice A5 M.length c5)) := by rw [hw6]; exact Lg.new w5 _ _ _ _
                rw [← hw6]
                replace HR5 := Lib.hid (HR5.out.ext hb6 (Nat.le_refl _))
                replace HR4 := Lib.hid (HR4.out.ext hb6 (Nat.le_refl _))
                replace HP4 := Lib.hid (HP4.out.ext hb6 (Nat.le_refl _))
                have hb := hb6
                replace HX : Hid (Below W.heap.size W w6) := HX.out.trans (hb.mono HX.out.size)
                replace HAT := Lib.hid (HAT.out.ext hb (Nat.le_refl _))
                generalize w5.heap.size = gn at *
                clear hw6 hb6 hb
                obtain ⟨p0, p1, p2, q0, q1, q2, _⟩ := HP4.out
                obtain ⟨r0, r1, r2, s0, s1, s2, _⟩ := HP6.out
                go_wp2_with (first | (go_at_call 18; refine (num23 _ _).mono ?_; rintro e wq ⟨rfl, rfl⟩))
                clear p0 p1 p2 q0 q1 q2 r0 r1 r2 s0 s1 s2
                refine (EqLog_any w6 rb rt A3 M.length c3 M rfl HR4.out rb rt A5 M.length c5 M rfl HR5.out (by omega) true (by simp)).mono ?_
                rintro e w7 ⟨rfl, hb⟩
                replace HX : Hid (Below W.heap.size W w7) := HX.out.trans (hb.mono HX.out.size)
                replace HAT := Lib.hid (HAT.out.ext hb (Nat.le_refl _))
                replace HR4 := Lib.hid (HR4.out.ext hb (Nat.le_refl _))
                replace HP4 := Lib.hid (HP4.out.ext hb (Nat.le_refl _))
                clear hb HP6 HR5
                obtain ⟨p0, p1, p2, q0, q1, q2, _⟩ := HP4.out
                go_wp2_with (first | (go_at_call 18; refine (num23 _ _).mono ?_; rintro e wq ⟨rfl, rfl⟩))
                clear p0 p1 p2 q0 q1 q2
                refine (Check_any w7 rb rt A3 M.length c3 M rfl (by omega) HR4.out 0 (by rw [if_pos HMM.out])).mono ?_
                rintro e w8 ⟨rfl, hb⟩
                replace HX : Hid (Below W.heap.size W w8) := HX.out.trans (hb.mono HX.out.size)
                replace HAT := Lib.hid (HAT.out.ext hb (Nat.le_refl _))
                replace HR4 := Lib.hid (HR4.out.ext hb (Nat.le_refl _))
                replace HP4 := Lib.hid (HP4.out.ext hb (Nat.le_refl _))
                clear hb
                obtain ⟨p0, p1, p2, q0, q1, q2, _⟩ := HP4.out
                have hbb2 : (rb != rb) = false := by simp
                obtain ⟨g0, g1, g2, g3, g4, g5, g6, _, _, _⟩ := HAT.out
                simp only [Nat.zero_add] at g1 g2 g3 g4 g5 g6
                dsimp only at g0 g1 g2 g3 g4 g5 g6
                go_wp2_with (first | (go_at_call 18; refine (num23 _ _).mono ?_; rintro e wq ⟨rfl, rfl⟩))
                clear p0 p1 p2 q0 q1 q2
                clear g0 g1 g2 g3 g4 g5 g6
                have HTM : Hid (runsE i j Es) := HMY.out.2.2.2.2
                go_loopw [11] (fun s11 wr => ∃ m : Nat, m ≤ Es.length ∧ s11 = .int .i64 (m : Int) ∧ Hid (Below w8.heap.size w8 wr)) (fun s11 _ => Es.length - (intOf s11).toNat)
                case atStart => exact ⟨0, by omega, by simp, Below.refl _ _⟩
                case round =>
                  obtain ⟨m, hm, rfl, HBO⟩ := hrel
                  have hEs : Es.length ≤ 600 := HLT.out.2
                  have hb := HBO.out
                  replace HX : Hid (Below W.heap.size W wr) := HX.out.trans (hb.mono HX.out.size)
                  replace HAT := Lib.hid (HAT.out.ext hb (Nat.le_refl _))
                  replace HR4 := Lib.hid (HR4.out.ext hb (Nat.le_refl _))
                  replace HP4 := Lib.hid (HP4.out.ext hb (Nat.le_refl _))
                  clear hb
                  obtain ⟨p0, p1, p2, q0, q1, q2, _⟩ := HP4.out
                  obtain ⟨g0, g1, g2, g3, g4, g5, g6, _, _, _⟩ := HAT.out
                  simp only [Nat.zero_add] at g1 g2 g3 g4 g5 g6
                  dsimp only at g0 g1 g2 g3 g4 g5 g6
                  by_cases hml : m < Es.length
                  · have hmi : (m : Int) < (Es.length : Int) := by omega
                    have hg := (runsE_at i j Es HTM.out m hml).2
                    have hin := HIN.out Es[m] (List.getElem_mem hml)
                    obtain ⟨ac, rfl, e0, e1, e2⟩ := ents_cells HAT.out.e.rds m hml
                    dsimp only at hg hin e0 e1 e2
                    have HQ : Hid (Es[m] = Es[m]) := rfl
                    clear HQ
                    generalize hxx : Es[m] = x at *
                    clear hxx
                    obtain ⟨ei, et, ed⟩ := x
                    have hm0 : (0 : Int) ≤ (m : Int) := by omega
                    have hg1 : 1 ≤ ei := hg.1
                    have hg2 : ei ≤ 1099511627776 := hg.2.1
                    dsimp only at hin e0 e1 e2
                    clear hg e2
                    by_cases hle : ei ≤ rb
                    · clear hin
                      go_wp2
                      go_quiet (fail)
                      go_wp2
                      go_roundw
                      case rel => exact ⟨m + 1, by omega, by go_num, HBO.out.trans ((drawn_below wr nq).mono HBO.out.size)⟩
                      case measure => simp [intOf]; omega
                    · obtain ⟨jj, hjj, hj1, hj2, hj3⟩ := hin (by omega)
                      clear hin
                      obtain ⟨am, rfl, d0, d1, d2⟩ := ents_cells HR4.out jj hjj
                      rw [hj3] at d0
                      rw [hj2] at d1
                      have hjm : (jj : Int) < (M.length : Int) := by omega
                      have hj0 : (0 : Int) ≤ (jj : Int) := by omega
                      have hjt : (jj : Int).toNat = jj := by omega
                      have hw1 : IntKind.i64.wrap (ei - rb) = ei - rb := wrap_id (by omega)
                      have hw2 : IntKind.i64.wrap (ei - rb - 1) = (jj : Int) := by rw [wrap_id (by omega)]; omega
                      have hw3 : ei - rb - 1 = (jj : Int) := by omega
                      have hjn : ¬ (M.length : Int) ≤ (jj : Int) := by omega
                      have hjN : ¬ M.length ≤ jj := by omega
                      have hjD : decide ((M.length : Int) ≤ (jj : Int)) = false := decide_eq_false hjn
                      have hee : (ei != ei) = false := by simp
                      have htt : (et != et) = false := by simp
                      have hle2 : rb < ei := by omega
                      clear hj1 hj2 hj3 d2
                      go_wp2
                      go_quiet (fail)
                      have hb : Below wr.heap.size wr (wr.drewN nq) := drawn_below wr nq
                      replace HX : Hid (Below W.heap.size W (wr.drewN nq)) := HX.out.trans (hb.mono HX.out.size)
                      replace HAT := Lib.hid (HAT.out.ext hb (Nat.le_refl _))
                      replace HR4 := Lib.hid (HR4.out.ext hb (Nat.le_refl _))
                      replace HP4 := Lib.hid (HP4.out.ext hb (Nat.le_refl _))
                      replace HBO : Hid (Below w8.heap.size w8 (wr.drewN nq)) := Lib.hid (HBO.out.trans (hb.mono HBO.out.size))
                      have E0 := cell_ext hb (Nat.le_refl _) e0
                      have E1 := cell_ext hb (Nat.le_refl _) e1
                      have D0 := cell_ext hb (Nat.le_refl _) d0
                      have D1 := cell_ext hb (Nat.le_refl _) d1
                      clear hb p0 p1 p2 q0 q1 q2 g0 g1 g2 g3 g4 g5 g6 e0 e1 d0 d1
                      generalize wr.drewN nq = wy at *
                      have e0 := E0
                      have e1 := E1
                      have d0 := D0
                      have d1 := D1
                      clear E0 E1 D0 D1
                      obtain ⟨p0, p1, p2, q0, q1, q2, _⟩ := HP4.out
                      obtain ⟨g0, g1, g2, g3, g4, g5, g6, _, _, _⟩ := HAT.out
                      simp only [Nat.zero_add] at g1 g2 g3 g4 g5 g6
                      dsimp only at g0 g1 g2 g3 g4 g5 g6
                      clear nq
                      go_wp2
                      go_quiet (fail)
                      have hb : Below wy.heap.size wy (wy.drewN nq) := drawn_below wy nq
                      replace HX : Hid (Below W.heap.size W (wy.drewN nq)) := HX.out.trans (hb.mono HX.out.size)
                      replace HAT := Lib.hid (HAT.out.ext hb (Nat.le_refl _))
                      replace HR4 := Lib.hid (HR4.out.ext hb (Nat.le_refl _))
                      replace HP4 := Lib.hid (HP4.out.ext hb (Nat.le_refl _))
                      replace HBO : Hid (Below w8.heap.size w8 (wy.drewN nq)) := Lib.hid (HBO.out.trans (hb.mono HBO.out.size))
                      have E0 := cell_ext hb (Nat.le_refl _) e0
                      have E1 := cell_ext hb (Nat.le_refl _) e1
                      have D0 := cell_ext hb (Nat.le_refl _) d0
                      have D1 := cell_ext hb (Nat.le_refl _) d1
                      clear hb p0 p1 p2 q0 q1 q2 g0 g1 g2 g3 g4 g5 g6 e0 e1 d0 d1
                      generalize wy.drewN nq = wz at *
                      have e0 := E0
                      have e1 := E1
                      have d0 := D0
                      have d1 := D1
                      clear E0 E1 D0 D1
                      obtain ⟨p0, p1, p2, q0, q1, q2, _⟩ := HP4.out
                      obtain ⟨g0, g1, g2, g3, g4, g5, g6, _, _, _⟩ := HAT.out
                      simp only [Nat.zero_add] at g1 g2 g3 g4 g5 g6
                      dsimp only at g0 g1 g2 g3 g4 g5 g6
                      clear nq
                      go_wp2
                      go_quiet (fail)
                      have hb : Below wz.heap.size wz (wz.drewN nq) := drawn_below wz nq
                      replace HX : Hid (Below W.heap.size W (wz.drewN nq)) := HX.out.trans (hb.mono HX.out.size)
                      replace HAT := Lib.hid (HAT.out.ext hb (Nat.le_refl _))
                      replace HR4 := Lib.hid (HR4.out.ext hb (Nat.le_refl _))
                      replace HP4 := Lib.hid (HP4.out.ext hb (Nat.le_refl _))
                      replace HBO : Hid (Below w8.heap.size w8 (wz.drewN nq)) := Lib.hid (HBO.out.trans (hb.mono HBO.out.size))
                      have E0 := cell_ext hb (Nat.le_refl _) e0
                      have E1 := cell_ext hb (Nat.le_refl _) e1
                      have D0 := cell_ext hb (Nat.le_refl _) d0
                      have D1 := cell_ext hb (Nat.le_refl _) d1
                      clear hb p0 p1 p2 q0 q1 q2 g0 g1 g2 g3 g4 g5 g6 e0 e1 d0 d1
                      generalize wz.drewN nq = wu at *
                      have e0 := E0
                      have e1 := E1
                      have d0 := D0
                      have d1 := D1
                      clear E0 E1 D0 D1
                      obtain ⟨p0, p1, p2, q0, q1, q2, _⟩ := HP4.out
                      obtain ⟨g0, g1, g2, g3, g4, g5, g6, _, _, _⟩ := HAT.out
                      simp only [Nat.zero_add] at g1 g2 g3 g4 g5 g6
                      dsimp only at g0 g1 g2 g3 g4 g5 g6
                      go_wp2
                      go_roundw
                      case rel => exact ⟨m + 1, by omega, by go_num, HBO⟩
                      case measure => simp [intOf]; omega
                  · obtain rfl : m = Es.length := by omega
                    have hmi : ¬ (Es.length : Int) < (Es.length : Int) := by omega
                    have HMG := Lib.hid (Merge_any wr rb rt B L.length cc L rfl (by omega) HAT.out.l.len HAT.out.l.nil HAT.out.l.rds rb rt B L.length cc L rfl (by omega) HAT.out.l.len HAT.out.l.nil HAT.out.l.rds)
                    rw [merge_own HML.out] at HMG
                    go_wp2_with fail
                    refine HMG.out.mono ?_
                    clear p0 p1 p2 q0 q1 q2 HMG
                    clear g0 g1 g2 g3 g4 g5 g6
                    rintro e w9 ⟨v, rfl, hown, hb⟩
                    obtain ⟨A9, c9, rfl, p1, p2, p3, p4, p5⟩ := own_rds hown
                    dsimp only at p1 p2 p3 p4 p5 hown ⊢
                    replace HX : Hid (Below W.heap.size W w9) := HX.out.trans (hb.mono HX.out.size)
                    replace HAT := Lib.hid (HAT.out.ext hb (Nat.le_refl _))
                    have HR9 := Lib.hid p4
                    clear hb hown p1 p2 p3 p4 p5
                    go_upto_region 20 with (fail)
                    obtain ⟨wa, hwa⟩ : ∃ wa, wa = w9.alloc (.cells #[.int .i64 rb, .int .i64 rt, .slice A9 L.length c9] 26) := ⟨_, rfl⟩
                    have hba : Below w9.heap.size w9 wa := by rw [hwa]; exact (Below.refl _ _).alloc (Nat.le_refl _) _
                    have HPa : Hid (Lg wa w9.heap.size rb rt (.slice A9 L.length c9)) := by rw [hwa]; exact Lg.new w9 _ _ _ _
                    rw [← hwa]
                    replace HR9 := Lib.hid (HR9.out.ext hba (Nat.le_refl _))
                    have hb := hba
                    replace HX : Hid (Below W.heap.size W wa) := HX.out.trans (hb.mono HX.out.size)
                    replace HAT := Lib.hid (HAT.out.ext hb (Nat.le_refl _))
                    generalize w9.heap.size = ga at *
                    clear hwa hba hb
                    obtain ⟨p0, p1, p2, q0, q1, q2, _⟩ := HPa.out
                    obtain ⟨g0, g1, g2, g3, g4, g5, g6, _, _, _⟩ := HAT.out
                    simp only [Nat.zero_add] at g1 g2 g3 g4 g5 g6
                    dsimp only at g0 g1 g2 g3 g4 g5 g6
                    go_wp2_with (first | (go_at_call 18; refine (num23 _ _).mono ?_; rintro e wq ⟨rfl, rfl⟩))
                    clear g0 g1 g2 g3 g4 g5 g6
                    clear p0 p1 p2 q0 q1 q2
                    refine (EqLog_any wa rb rt A9 L.length c9 L rfl HR9.out rb rt B L.length cc L rfl HAT.out.l.rds (by omega) true (by simp)).mono ?_
                    rintro e wb ⟨rfl, hb⟩
                    replace HX : Hid (Below W.heap.size W wb) := HX.out.trans (hb.mono HX.out.size)
                    go_wp2
                    go_roundw
                    case rel => exact ⟨k + 1, by omega, by go_num, HX⟩
                    case measure => simp [intOf]; omega
            · have hei : (rerr != 0) = true := by rw [bne_iff_ne]; exact he0
              go_wp2_with (go_at_call 18; refine (num23 _ _).mono ?_; rintro e wq ⟨rfl, rfl⟩)
              go_roundw
              case rel => exact ⟨k + 1, by omega, by go_num, HX⟩
              case measure => simp [intOf]; omega
      · obtain rfl : k = 8 := by omega
        go_wp2_with fail
        refine (wakes23 _).mono ?_
        rintro e w1 ⟨rfl, hb⟩
        go_wp2
        go_ret
        exact ⟨rfl, HX.out.trans (hb.mono HX.out.size)⟩
    · have h1i : ¬ (k : Int) < (xs.length : Int) := by omega
      go_wp2_with fail
      refine (wakes23 _).mono ?_
      rintro e w1 ⟨rfl, hb⟩
      go_wp2
      go_ret
      exact ⟨rfl, HX.out.trans (hb.mono HX.out.size)⟩
end Go.Proofs.Ytpdnkhdnenibgaa
