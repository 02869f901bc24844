/- The walk of the law SuffixCommons. -/
import Derived.Test.YtkjajdhempceaaaAskS
import Derived.Test.YtkjajdhempceaaaRefC
set_option linter.unusedVariables false
set_option linter.unusedSimpArgs false
namespace Go.Proofs.Ytkjajdhempceaaa
open Go.RowKit Lec

theorem none_rds {w : World} (v : Option Addr) : Rds w v (intsV []) := fun i x h => by simp [intsV] at h



set_option maxRecDepth 100000 in
set_option maxHeartbeats 4000000 in
theorem SuffixCommons_walk (W : World) (A : Option Addr) (c : Nat) (xs : List (List Int × List Int)) (hrow : Row AskS W A xs) (hlc : xs.length ≤ c) (hcm : c ≤ maxLen) (hnone : A = none → xs.length = 0 ∧ c = 0) (hby : c * 48 ≤ reachBytes) :
    Calls Try.prog 6 #[.slice A xs.length c] W fun e w' => e = .returned (.bool true) ∧ Below W.heap.size W w' := by
  have HR := Lib.hid hrow
  have hlen : xs.length ≤ 9223372036854775807 := by unfold maxLen at hcm; omega
  clear hrow hnone hby hcm hlc
  go_enter Try.func6, Try.ntmps6
  go_wp2
  go_loopw [3] (fun i wr => ∃ k : Nat, k ≤ xs.length ∧ i = .int .i64 (k : Int) ∧ Hid (Below W.heap.size W wr)) (fun i _ => xs.length - (intOf i).toNat)
  case atStart => exact ⟨0, by omega, rfl, Below.refl _ _⟩
  case round =>
    obtain ⟨k, hk, rfl, HX⟩ := hrel
    obtain ⟨w0, rfl⟩ : ∃ x, x = wr := ⟨wr, rfl⟩
    by_cases h1 : k < xs.length ∧ k < 6
    · obtain ⟨h1, h2⟩ := h1
      have h1i : (k : Int) < (xs.length : Int) := by omega
      have h2i : (k : Int) < 6 := by omega
      obtain ⟨a, B, cb, D, d, rfl, hc0, hc1, hb1, hb3, hb4, hd1, hd3, hd4⟩ := askS_at (HR.out.ext HX.out (Nat.le_refl _)) k h1
      generalize xs[k] = x at *
      obtain ⟨L, Is⟩ := x
      dsimp only at hc0 hc1 hb1 hb3 hb4 hd1 hd3 hd4
      generalize hu : heavyS L Is = u
      have HU := Lib.hid hu
      have HEV := Lib.hid (heavyS_any w0 B L.length cb D Is.length d L Is rfl rfl)
      clear hd3 hu
      rw [HU.out] at HEV
      go_wp2_with fail
      refine HEV.out.mono ?_
      rintro e w1 ⟨rfl, hbe1⟩
      have HX1 : Hid (Below W.heap.size W w1) := HX.out.trans (hbe1.mono HX.out.size)
      cases u with
      | true =>
        go_wp2
        go_ret
        exact ⟨rfl, HX1.out⟩
      | false =>
        obtain ⟨hl1, hl2⟩ := heavyS_light HU.out
        have HC0 := Lib.hid (cell_ext hbe1 (Nat.le_refl _) hc0)
        have HC1 := Lib.hid (cell_ext hbe1 (Nat.le_refl _) hc1)
        have HB4 := Lib.hid (hb4.ext hbe1 (Nat.le_refl _))
        have HD4 := Lib.hid (hd4.ext hbe1 (Nat.le_refl _))
        have HB3 := Lib.hid hb3
        clear HU hbe1 HEV hc0 hc1 hb4 hd4 hb3
        obtain ⟨l, hl⟩ : ∃ l, l = L.length := ⟨_, rfl⟩
        obtain ⟨m, hm⟩ : ∃ m, m = Is.length := ⟨_, rfl⟩
        have HLL : Hid (L.length = l) := Lib.hid hl.symm
        have HMM : Hid (Is.length = m) := Lib.hid hm.symm
        rw [← hl] at hb1 hl1 HC0 HB3 ⊢
        rw [← hm] at hd1 hl2 HC1 ⊢
        clear hl hm
        have hc0 := HC0.out
        cases hms : mayS 512 L with
        | false =>
          have hE : checkE L ≠ 0 := by unfold checkE; rw [hms]; simp
          have HMAY : Hid (Calls Try.prog 14 #[.int .i64 512, .slice B l cb] w1 fun e w'' => e = .returned (.bool false) ∧ w1 = w'') := Lib.hid (by have := May_any w1 B l cb L 512 HLL.out (by omega) HB4.out; rwa [hms] at this)
          have HBAD : Hid (∀ (wy : World) (A2 : Option Addr) (c2 : Nat), Rds wy A2 (intsV L) → (A2 = none → l = 0 ∧ c2 = 0) → ∀ (A3 : Option Addr) (c3 : Nat), Rds wy A3 (intsV Is) → Calls Try.prog 26 #[.slice A2 l c2, .slice A3 m c3] wy fun e wu => e = .returned (.tuple #[.slice none 0 0, .int .i64 1]) ∧ Below wy.heap.size wy wu) :=
            Lib.hid (fun wy A2 c2 h _ A3 c3 _ => (Common_bad wy A2 l c2 L HLL.out (by omega) h A3 m c3 (.inl hE)).mono (by rintro e w' ⟨rfl, rfl⟩; exact ⟨rfl, Below.refl _ _⟩))
          clear hms hE
          go_wp2_with fail
          refine HMAY.out.mono ?_
          rintro e w2 ⟨rfl, rfl⟩
          go_wp2
          go_loopw [5] (fun i wy => ∃ j : Nat, j ≤ 2 ∧ i = .int .i64 (j : Int) ∧ Hid (Below w1.heap.size w1 wy)) (fun i _ => 2 - (intOf i).toNat)
          case atStart => exact ⟨0, by omega, rfl, Below.refl _ _⟩
          case round =>
            obtain ⟨j, hj, rfl, HBZ⟩ := hrel
            obtain ⟨wz, rfl⟩ : ∃ x, x = wr := ⟨wr, rfl⟩
            clear hc0
            by_cases hj2 : j < 2
            · have hj2i : (j : Int) < 2 := by omega
              have hc1 := cell_ext HBZ.out (Nat.le_refl _) HC1.out
              have HAZ := Lib.hid (HD4.out.ext HBZ.out (Nat.le_refl _))
              obtain ⟨E, hE⟩ : ∃ E, E = D := ⟨_, rfl⟩
              rw [← hE] at HAZ hc1
              obtain ⟨Av, n, ed, hAv, hn, hed⟩ : ∃ Av n ed, Av = Is ∧ n = m ∧ ed = d := ⟨_, _, _, rfl, rfl, rfl⟩
              subst hAv hn hed hE
              have HN := HMM
              by_cases hj1 : j = 1
              · have hjt : ((j : Int) == 1) = true := by rw [beq_iff_eq]; omega
                clear hj1
                -- the world wz; E: the order's slice; HBZ: Below w1 wz; HAZ: Rds wz E (intsV Av); HBAD: what fails
                have hc0 := cell_ext HBZ.out (Nat.le_refl _) HC0.out
                go_wp2_with fail
                refine (CopyNumbers_any wz B l cb L HLL.out (by omega) (HB4.out.ext HBZ.out (Nat.le_refl _))).mono ?_
                rintro e wx ⟨v, rfl, hown, hbe2⟩
                obtain ⟨A2, c2, rfl, p1, p2, p3, p4, p5⟩ := own_rds hown
                have HIN : Hid (Rds wx A2 (intsV L)) := p4
                have HI3 : Hid (A2 = none → l = 0 ∧ c2 = 0) := p3
                have HBX : Hid (Below w1.heap.size w1 wx) := HBZ.out.trans (hbe2.mono HBZ.out.size)
                have HAX := Lib.hid (HAZ.out.ext hbe2 (Nat.le_refl _))
                clear hbe2 hown p1 p2 p3 p4 p5 hc0
                have HCP := Lib.hid (CopyNumbers_any wx E n ed Av HN.out (by omega) HAX.out)
                go_wp2_with fail
                refine HCP.out.mono ?_
                rintro e wy ⟨v, rfl, hown, hbe2⟩
                obtain ⟨A3, c3, rfl, p1, p2, p3, p4, p5⟩ := own_rds hown
                have HIN2 := Lib.hid (HIN.out.ext hbe2 (Nat.le_refl _))
                have HAY : Hid (Rds wy A3 (intsV Av)) := p4
                have HBY : Hid (Below w1.heap.size w1 wy) := HBX.out.trans (hbe2.mono HBX.out.size)
                clear hbe2 hown p1 p2 p3 p4 p5
                have HCOM := Lib.hid (HBAD.out wy A2 c2 HIN2.out HI3.out A3 c3 HAY.out)
                go_wp2_with fail
                refine HCOM.out.mono ?_
                rintro e wu ⟨rfl, hbu⟩
                have HBU : Hid (Below w1.heap.size w1 wu) := HBY.out.trans (hbu.mono HBY.out.size)
                clear hbu
                have HEQ := Lib.hid (EqNumbers_any wu none 0 0 [] rfl (none_rds _) none 0 0 [] rfl (none_rds _) (by omega))
                rw [decide_eq_true rfl] at HEQ
                go_wp2_with (go_at_call 15; refine (num4 _ _).mono ?_; rintro e wq ⟨rfl, rfl⟩)
                refine HEQ.out.mono ?_
                rintro e wv ⟨rfl, qv, rfl⟩
                go_wp2
                go_roundw
                case rel => exact ⟨j + 1, by omega, by go_num, HBU.out.trans ((drawn_below wu qv).mono HBU.out.size)⟩
                case measure => first | (simp [intOf]; done) | (simp [intOf]; omega)
              · have hjt : ((j : Int) == 1) = false := by rw [beq_eq_false_iff_ne]; omega
                clear hj1
                -- the world wz; E: the order's slice; HBZ: Below w1 wz; HAZ: Rds wz E (intsV Av); HBAD: what fails
                have hc0 := cell_ext HBZ.out (Nat.le_refl _) HC0.out
                go_wp2_with fail
                refine (CopyNumbers_any wz B l cb L HLL.out (by omega) (HB4.out.ext HBZ.out (Nat.le_refl _))).mono ?_
                rintro e wx ⟨v, rfl, hown, hbe2⟩
                obtain ⟨A2, c2, rfl, p1, p2, p3, p4, p5⟩ := own_rds hown
                have HIN : Hid (Rds wx A2 (intsV L)) := p4
                have HI3 : Hid (A2 = none → l = 0 ∧ c2 = 0) := p3
                have HBX : Hid (Below w1.heap.size w1 wx) := HBZ.out.trans (hbe2.mono HBZ.out.size)
                have HAX := Lib.hid (HAZ.out.ext hbe2 (Nat.le_refl _))
                clear hbe2 hown p1 p2 p3 p4 p5 hc0
                have HCP := Lib.hid (CopyNumbers_any wx E n ed Av HN.out (by omega) HAX.out)
                go_wp2_with fail
                refine HCP.out.mono ?_
                rintro e wy ⟨v, rfl, hown, hbe2⟩
                obtain ⟨A3, c3, rfl, p1, p2, p3, p4, p5⟩ := own_rds hown
                have HIN2 := Lib.hid (HIN.out.ext hbe2 (Nat.le_refl _))
                have HAY : Hid (Rds wy A3 (intsV Av)) := p4
                have HBY : Hid (Below w1.heap.size w1 wy) := HBX.out.trans (hbe2.mono HBX.out.size)
                clear hbe2 hown p1 p2 p3 p4 p5
                have HCOM := Lib.hid (HBAD.out wy A2 c2 HIN2.out HI3.out A3 c3 HAY.out)
                go_wp2_with fail
                refine HCOM.out.mono ?_
                rintro e wu ⟨rfl, hbu⟩
                have HBU : Hid (Below w1.heap.size w1 wu) := HBY.out.trans (hbu.mono HBY.out.size)
                clear hbu
                have HEQ := Lib.hid (EqNumbers_any wu none 0 0 [] rfl (none_rds _) none 0 0 [] rfl (none_rds _) (by omega))
                rw [decide_eq_true rfl] at HEQ
                go_wp2_with (go_at_call 15; refine (num4 _ _).mono ?_; rintro e wq ⟨rfl, rfl⟩)
                refine HEQ.out.mono ?_
                rintro e wv ⟨rfl, qv, rfl⟩
                go_wp2
                go_roundw
                case rel => exact ⟨j + 1, by omega, by go_num, HBU.out.trans ((drawn_below wu qv).mono HBU.out.size)⟩
                case measure => first | (simp [intOf]; done) | (simp [intOf]; omega)
            · obtain rfl : j = 2 := by omega
              have hj2i : ¬ ((2 : Nat) : Int) < 2 := by omega
              go_wp2
              go_roundw
              case rel => exact ⟨k + 1, by omega, by go_num, HX1.out.trans (HBZ.out.mono HX1.out.size)⟩
              case measure => first | (simp [intOf]; done) | (simp [intOf]; omega)
        | true =>
          have HLS := Lib.hid (symN_cells hms)
          have hsl := symN_len L
          have hsb := symN_lt hms
          generalize symN L = s at *
          have hls : l = s.length := by rw [hsl]; exact HLL.out.symm
          subst hls
          have HS512 : Hid (∀ x, x ∈ s → x < 512) := Lib.hid (fun x hx => by
            obtain ⟨i, hi, rfl⟩ := List.mem_iff_getElem.1 hx
            have := hsb i hi
            unfold Sa.sy at this
            rwa [List.getD_eq_getElem?_getD, List.getElem?_eq_getElem hi] at this)
          have HMAY : Hid (Calls Try.prog 14 #[.int .i64 512, .slice B s.length cb] w1 fun e w'' => e = .returned (.bool true) ∧ w1 = w'') := Lib.hid (by have := May_any w1 B s.length cb L 512 HLL.out (by omega) HB4.out; rwa [hms] at this)
          have HBS : Hid (Rds w1 B (natsC s)) := Lib.hid (by rw [← HLS.out]; exact HB4.out)
          clear hms hsl hsb
          go_wp2_with fail
          refine HMAY.out.mono ?_
          rintro e w2 ⟨rfl, rfl⟩
          go_wp2
          go_loopw [5] (fun i wy => ∃ j : Nat, j ≤ 2 ∧ i = .int .i64 (j : Int) ∧ Hid (Below w1.heap.size w1 wy)) (fun i _ => 2 - (intOf i).toNat)
          case atStart => exact ⟨0, by omega, rfl, Below.refl _ _⟩
          case round =>
            obtain ⟨j, hj, rfl, HBZ⟩ := hrel
            obtain ⟨wz, rfl⟩ : ∃ x, x = wr := ⟨wr, rfl⟩
            clear hc0
            by_cases hj2 : j < 2
            · have hj2i : (j : Int) < 2 := by omega
              have hc1 := cell_ext HBZ.out (Nat.le_refl _) HC1.out
              by_cases hj1 : j = 1
              · have hjt : ((j : Int) == 1) = true := by rw [beq_iff_eq]; omega
                clear hj1
                have hc0 := cell_ext HBZ.out (Nat.le_refl _) HC0.out
                have HRT := Lib.hid (refSort_any wz B cb s (by omega) (HBS.out.ext HBZ.out (Nat.le_refl _)))
                go_wp2_with fail
                refine HRT.out.mono ?_
                rintro e w4 ⟨E, ed, b0, he, rb0, g1, g2, hsa0, hbe4⟩
                obtain ⟨n, hn⟩ : ∃ n, n = s.length := ⟨_, rfl⟩
                rw [← hn] at g1 he
                subst he
                obtain ⟨Av, hAv⟩ : ∃ Av, Av = b0.map fun v : Nat => (v : Int) := ⟨_, rfl⟩
                have HN : Hid (Av.length = n) := Lib.hid (by rw [hAv, List.length_map, hsa0.len, hn])
                have HAZ : Hid (Rds w4 E (intsV Av)) := Lib.hid (by rw [hAv, ← natsC_ints]; exact rb0)
                have HBZ4 : Hid (Below w1.heap.size w1 w4) := Lib.hid (HBZ.out.trans (hbe4.mono HBZ.out.size))
                have hn300 : n ≤ 300 := by omega
                clear HBZ hc0 hc1 g1 g2 hn hAv rb0 hsa0 hbe4 HRT
                have HBZ := HBZ4
                clear HBZ4
                have hc0 := cell_ext HBZ.out (Nat.le_refl _) HC0.out
                have HRS := Lib.hid (refSort_any w4 B cb s (by omega) (HBS.out.ext HBZ.out (Nat.le_refl _)))
                go_wp2_with fail
                refine HRS.out.mono ?_
                rintro e w5 ⟨C, cc, b, rfl, rb, g1, g2, hsa, hbe5⟩
                have HSA := Lib.hid hsa
                have HB5 : Hid (Below w1.heap.size w1 w5) := Lib.hid (HBZ.out.trans (hbe5.mono HBZ.out.size))
                have HA5 := Lib.hid (HAZ.out.ext hbe5 (Nat.le_refl _))
                have heq := EqNumbers_any w5 E n ed Av HN.out HA5.out C s.length cc (b.map fun v : Nat => (v : Int)) (by simp [hsa.len]) (natsC_rint rb) (by omega)
                clear rb g1 g2 hsa hbe5 HAZ HBZ HRS hc0
                generalize ht : decide (Av = b.map fun v : Nat => (v : Int)) = t at heq
                have HT := Lib.hid ht
                have HEQ := Lib.hid heq
                clear ht heq
                have hc0 := cell_ext HB5.out (Nat.le_refl _) HC0.out
                go_wp2_with fail
                refine HEQ.out.mono ?_
                rintro e w6 ⟨rfl, q6, rfl⟩
                have HB6 : Hid (Below w1.heap.size w1 (w5.drewN q6)) := Lib.hid (HB5.out.trans ((drawn_below w5 q6).mono HB5.out.size))
                have HA6 : Hid (Rds (w5.drewN q6) E (intsV Av)) := Lib.hid (HA5.out.ext (drawn_below w5 q6) (Nat.le_refl _))
                generalize w5.drewN q6 = w6 at *
                clear HEQ HB5 HA5 hc0
                cases t with
                | true =>
                  have HAVB : Hid (Av = b.map fun v : Nat => (v : Int)) := Lib.hid (of_decide_eq_true HT.out)
                  have hns : n = s.length := by rw [← HN.out, HAVB.out, List.length_map, HSA.out.len]
                  subst hns
                  have hc0 := cell_ext HB6.out (Nat.le_refl _) HC0.out
                  have HAB : Hid (Rds w6 E (natsC b)) := Lib.hid (by have := HA6.out; rw [HAVB.out] at this; rwa [natsC_ints])
                  have HRC := Lib.hid (refCom_any w6 B cb s (by omega) (HBS.out.ext HB6.out (Nat.le_refl _)) E ed b HAB.out HSA.out)
                  go_wp2_with fail
                  refine HRC.out.mono ?_
                  rintro e w7 ⟨C2, cc2, rfl, r7, _, _, hbe7⟩
                  have HR7 := Lib.hid r7
                  have HB7 : Hid (Below w1.heap.size w1 w7) := Lib.hid (HB6.out.trans (hbe7.mono HB6.out.size))
                  have HA7 := Lib.hid (HA6.out.ext hbe7 (Nat.le_refl _))
                  clear r7 hbe7 HA6 HRC HAB hc0
                  have hc0 := cell_ext HB7.out (Nat.le_refl _) HC0.out
                  have HCQ := Lib.hid (CopyNumbers_any w7 B s.length cb (s.map fun v : Nat => (v : Int)) (by simp) (by omega) (natsC_rint (HBS.out.ext HB7.out (Nat.le_refl _))))
                  go_wp2_with fail
                  refine HCQ.out.mono ?_
                  rintro e w8 ⟨v, rfl, hown, hbe2⟩
                  obtain ⟨A2, c2, rfl, p1, p2, p3, p4, p5⟩ := own_rds hown
                  have HIN : Hid (Rds w8 A2 (natsC s)) := Lib.hid (by rw [natsC_ints]; exact p4)
                  have HI3 : Hid (A2 = none → s.length = 0 ∧ c2 = 0) := Lib.hid p3
                  have HB8 : Hid (Below w1.heap.size w1 w8) := Lib.hid (HB7.out.trans (hbe2.mono HB7.out.size))
                  have HA8 := Lib.hid (HA7.out.ext hbe2 (Nat.le_refl _))
                  have HR8 := Lib.hid (HR7.out.ext hbe2 (Nat.le_refl _))
                  clear hbe2 hown p1 p2 p3 p4 p5 hc0 HA7 HR7 HCQ
                  have HCP := Lib.hid (CopyNumbers_any w8 E s.length ed Av HN.out (by omega) HA8.out)
                  go_wp2_with fail
                  refine HCP.out.mono ?_
                  rintro e w9 ⟨v, rfl, hown, hbe2⟩
                  obtain ⟨A3, c3, rfl, p1, p2, p3, p4, p5⟩ := own_rds hown
                  have HIN2 := Lib.hid (HIN.out.ext hbe2 (Nat.le_refl _))
                  have HAY : Hid (Rds w9 A3 (intsV Av)) := Lib.hid p4
                  have HB9 : Hid (Below w1.heap.size w1 w9) := Lib.hid (HB8.out.trans (hbe2.mono HB8.out.size))
                  have HR9 := Lib.hid (HR8.out.ext hbe2 (Nat.le_refl _))
                  clear hbe2 hown p1 p2 p3 p4 p5 HR8 HA8 HIN HCP
                  have HCOM := Lib.hid (Common_any w9 A2 c2 s (by omega) HIN2.out HI3.out HS512.out A3 c3 Av HN.out HAY.out b HSA.out)
                  go_wp2_with fail
                  refine HCOM.out.mono ?_
                  rintro e w10 ⟨hb10, ⟨hav, C3, rfl, r10⟩ | ⟨hne, _⟩⟩
                  · have HB10 : Hid (Below w1.heap.size w1 w10) := Lib.hid (HB9.out.trans (hb10.mono HB9.out.size))
                    have HEQ := Lib.hid (EqNumbers_any w10 C3 s.length s.length ((Sa.comL s b).map fun v : Nat => (v : Int)) (by simp [Sa.comL_len, HSA.out.len]) (natsC_rint r10) C2 s.length cc2 ((Sa.comL s b).map fun v : Nat => (v : Int)) (by simp [Sa.comL_len, HSA.out.len]) (natsC_rint (HR9.out.ext hb10 (Nat.le_refl _))) (by omega))
                    rw [decide_eq_true rfl] at HEQ
                    clear hb10 r10 hav HR9
                    go_wp2_with (go_at_call 15; refine (num4 _ _).mono ?_; rintro e wq ⟨rfl, rfl⟩)
                    refine HEQ.out.mono ?_
                    rintro e wv ⟨rfl, qv, rfl⟩
                    go_wp2
                    go_roundw
                    case rel => exact ⟨j + 1, by omega, by go_num, HB10.out.trans ((drawn_below w10 qv).mono HB10.out.size)⟩
                    case measure => first | (simp [intOf]; done) | (simp [intOf]; omega)
                  · exact absurd HAVB.out hne
                | false =>
                  have HAVB : Hid (Av ≠ b.map fun v : Nat => (v : Int)) := Lib.hid (of_decide_eq_false HT.out)
                  have HBAD : Hid (∀ (wy : World) (A2 : Option Addr) (c2 : Nat), Rds wy A2 (intsV L) → (A2 = none → s.length = 0 ∧ c2 = 0) → ∀ (A3 : Option Addr) (c3 : Nat), Rds wy A3 (intsV Av) → Calls Try.prog 26 #[.slice A2 s.length c2, .slice A3 n c3] wy fun e wu => e = .returned (.tuple #[.slice none 0 0, .int .i64 1]) ∧ Below wy.heap.size wy wu) :=
                    Lib.hid (fun wy A2 c2 h hA2 A3 c3 h3 => by
                      by_cases hns : n = s.length
                      · subst hns
                        refine (Common_any wy A2 c2 s (by omega) (by rw [← HLS.out]; exact h) hA2 HS512.out A3 c3 Av HN.out h3 b HSA.out).mono ?_
                        rintro e wu ⟨hbu, ⟨hav, _⟩ | ⟨_, rfl⟩⟩
                        · exact absurd hav HAVB.out
                        · exact ⟨rfl, hbu⟩
                      · exact (Common_bad wy A2 s.length c2 L HLL.out (by omega) h A3 n c3 (.inr hns)).mono (by rintro e w' ⟨rfl, rfl⟩; exact ⟨rfl, Below.refl _ _⟩))
                  have HBZ := HB6
                  have HAZ := HA6
                  -- the world wz; E: the order's slice; HBZ: Below w1 wz; HAZ: Rds wz E (intsV Av); HBAD: what fails
                  have hc0 := cell_ext HBZ.out (Nat.le_refl _) HC0.out
                  go_wp2_with fail
                  refine (CopyNumbers_any w6 B s.length cb L HLL.out (by omega) (HB4.out.ext HBZ.out (Nat.le_refl _))).mono ?_
                  rintro e wx ⟨v, rfl, hown, hbe2⟩
                  obtain ⟨A2, c2, rfl, p1, p2, p3, p4, p5⟩ := own_rds hown
                  have HIN : Hid (Rds wx A2 (intsV L)) := p4
                  have HI3 : Hid (A2 = none → s.length = 0 ∧ c2 = 0) := p3
                  have HBX : Hid (Below w1.heap.size w1 wx) := HBZ.out.trans (hbe2.mono HBZ.out.size)
                  have HAX := Lib.hid (HAZ.out.ext hbe2 (Nat.le_refl _))
                  clear hbe2 hown p1 p2 p3 p4 p5 hc0
                  have HCP := Lib.hid (CopyNumbers_any wx E n ed Av HN.out (by omega) HAX.out)
                  go_wp2_with fail
                  refine HCP.out.mono ?_
                  rintro e wy ⟨v, rfl, hown, hbe2⟩
                  obtain ⟨A3, c3, rfl, p1, p2, p3, p4, p5⟩ := own_rds hown
                  have HIN2 := Lib.hid (HIN.out.ext hbe2 (Nat.le_refl _))
                  have HAY : Hid (Rds wy A3 (intsV Av)) := p4
                  have HBY : Hid (Below w1.heap.size w1 wy) := HBX.out.trans (hbe2.mono HBX.out.size)
                  clear hbe2 hown p1 p2 p3 p4 p5
                  have HCOM := Lib.hid (HBAD.out wy A2 c2 HIN2.out HI3.out A3 c3 HAY.out)
                  go_wp2_with fail
                  refine HCOM.out.mono ?_
                  rintro e wu ⟨rfl, hbu⟩
                  have HBU : Hid (Below w1.heap.size w1 wu) := HBY.out.trans (hbu.mono HBY.out.size)
                  clear hbu
                  have HEQ := Lib.hid (EqNumbers_any wu none 0 0 [] rfl (none_rds _) none 0 0 [] rfl (none_rds _) (by omega))
                  rw [decide_eq_true rfl] at HEQ
                  go_wp2_with (go_at_call 15; refine (num4 _ _).mono ?_; rintro e wq ⟨rfl, rfl⟩)
                  refine HEQ.out.mono ?_
                  rintro e wv ⟨rfl, qv, rfl⟩
                  go_wp2
                  go_roundw
                  case rel => exact ⟨j + 1, by omega, by go_num, HBU.out.trans ((drawn_below wu qv).mono HBU.out.size)⟩
                  case measure => first | (simp [intOf]; done) | (simp [intOf]; omega)
              · have hjt : ((j : Int) == 1) = false := by rw [beq_eq_false_iff_ne]; omega
                clear hj1
                have HAZ := Lib.hid (HD4.out.ext HBZ.out (Nat.le_refl _))
                obtain ⟨E, hE⟩ : ∃ E, E = D := ⟨_, rfl⟩
                rw [← hE] at HAZ hc1
                obtain ⟨Av, n, ed, hAv, hn, hed⟩ : ∃ Av n ed, Av = Is ∧ n = m ∧ ed = d := ⟨_, _, _, rfl, rfl, rfl⟩
                subst hAv hn hed hE
                have HN := HMM
                have hc0 := cell_ext HBZ.out (Nat.le_refl _) HC0.out
                have HRS := Lib.hid (refSort_any wz B cb s (by omega) (HBS.out.ext HBZ.out (Nat.le_refl _)))
                go_wp2_with fail
                refine HRS.out.mono ?_
                rintro e w5 ⟨C, cc, b, rfl, rb, g1, g2, hsa, hbe5⟩
                have HSA := Lib.hid hsa
                have HB5 : Hid (Below w1.heap.size w1 w5) := Lib.hid (HBZ.out.trans (hbe5.mono HBZ.out.size))
                have HA5 := Lib.hid (HAZ.out.ext hbe5 (Nat.le_refl _))
                have heq := EqNumbers_any w5 E n ed Av HN.out HA5.out C s.length cc (b.map fun v : Nat => (v : Int)) (by simp [hsa.len]) (natsC_rint rb) (by omega)
                clear rb g1 g2 hsa hbe5 HAZ HBZ HRS hc0
                generalize ht : decide (Av = b.map fun v : Nat => (v : Int)) = t at heq
                have HT := Lib.hid ht
                have HEQ := Lib.hid heq
                clear ht heq
                have hc0 := cell_ext HB5.out (Nat.le_refl _) HC0.out
                go_wp2_with fail
                refine HEQ.out.mono ?_
                rintro e w6 ⟨rfl, q6, rfl⟩
                have HB6 : Hid (Below w1.heap.size w1 (w5.drewN q6)) := Lib.hid (HB5.out.trans ((drawn_below w5 q6).mono HB5.out.size))
                have HA6 : Hid (Rds (w5.drewN q6) E (intsV Av)) := Lib.hid (HA5.out.ext (drawn_below w5 q6) (Nat.le_refl _))
                generalize w5.drewN q6 = w6 at *
                clear HEQ HB5 HA5 hc0
                cases t with
                | true =>
                  have HAVB : Hid (Av = b.map fun v : Nat => (v : Int)) := Lib.hid (of_decide_eq_true HT.out)
                  have hns : n = s.length := by rw [← HN.out, HAVB.out, List.length_map, HSA.out.len]
                  subst hns
                  have hc0 := cell_ext HB6.out (Nat.le_refl _) HC0.out
                  have HAB : Hid (Rds w6 E (natsC b)) := Lib.hid (by have := HA6.out; rw [HAVB.out] at this; rwa [natsC_ints])
                  have HRC := Lib.hid (refCom_any w6 B cb s (by omega) (HBS.out.ext HB6.out (Nat.le_refl _)) E ed b HAB.out HSA.out)
                  go_wp2_with fail
                  refine HRC.out.mono ?_
                  rintro e w7 ⟨C2, cc2, rfl, r7, _, _, hbe7⟩
                  have HR7 := Lib.hid r7
                  have HB7 : Hid (Below w1.heap.size w1 w7) := Lib.hid (HB6.out.trans (hbe7.mono HB6.out.size))
                  have HA7 := Lib.hid (HA6.out.ext hbe7 (Nat.le_refl _))
                  clear r7 hbe7 HA6 HRC HAB hc0
                  have hc0 := cell_ext HB7.out (Nat.le_refl _) HC0.out
                  have HCQ := Lib.hid (CopyNumbers_any w7 B s.length cb (s.map fun v : Nat => (v : Int)) (by simp) (by omega) (natsC_rint (HBS.out.ext HB7.out (Nat.le_refl _))))
                  go_wp2_with fail
                  refine HCQ.out.mono ?_
                  rintro e w8 ⟨v, rfl, hown, hbe2⟩
                  obtain ⟨A2, c2, rfl, p1, p2, p3, p4, p5⟩ := own_rds hown
                  have HIN : Hid (Rds w8 A2 (natsC s)) := Lib.hid (by rw [natsC_ints]; exact p4)
                  have HI3 : Hid (A2 = none → s.length = 0 ∧ c2 = 0) := Lib.hid p3
                  have HB8 : Hid (Below w1.heap.size w1 w8) := Lib.hid (HB7.out.trans (hbe2.mono HB7.out.size))
                  have HA8 := Lib.hid (HA7.out.ext hbe2 (Nat.le_refl _))
                  have HR8 := Lib.hid (HR7.out.ext hbe2 (Nat.le_refl _))
                  clear hbe2 hown p1 p2 p3 p4 p5 hc0 HA7 HR7 HCQ
                  have HCP := Lib.hid (CopyNumbers_any w8 E s.length ed Av HN.out (by omega) HA8.out)
                  go_wp2_with fail
                  refine HCP.out.mono ?_
                  rintro e w9 ⟨v, rfl, hown, hbe2⟩
                  obtain ⟨A3, c3, rfl, p1, p2, p3, p4, p5⟩ := own_rds hown
                  have HIN2 := Lib.hid (HIN.out.ext hbe2 (Nat.le_refl _))
                  have HAY : Hid (Rds w9 A3 (intsV Av)) := Lib.hid p4
                  have HB9 : Hid (Below w1.heap.size w1 w9) := Lib.hid (HB8.out.trans (hbe2.mono HB8.out.size))
                  have HR9 := Lib.hid (HR8.out.ext hbe2 (Nat.le_refl _))
                  clear hbe2 hown p1 p2 p3 p4 p5 HR8 HA8 HIN HCP
                  have HCOM := Lib.hid (Common_any w9 A2 c2 s (by omega) HIN2.out HI3.out HS512.out A3 c3 Av HN.out HAY.out b HSA.out)
                  go_wp2_with fail
                  refine HCOM.out.mono ?_
                  rintro e w10 ⟨hb10, ⟨hav, C3, rfl, r10⟩ | ⟨hne, _⟩⟩
                  · have HB10 : Hid (Below w1.heap.size w1 w10) := Lib.hid (HB9.out.trans (hb10.mono HB9.out.size))
                    have HEQ := Lib.hid (EqNumbers_any w10 C3 s.length s.length ((Sa.comL s b).map fun v : Nat => (v : Int)) (by simp [Sa.comL_len, HSA.out.len]) (natsC_rint r10) C2 s.length cc2 ((Sa.comL s b).map fun v : Nat => (v : Int)) (by simp [Sa.comL_len, HSA.out.len]) (natsC_rint (HR9.out.ext hb10 (Nat.le_refl _))) (by omega))
                    rw [decide_eq_true rfl] at HEQ
                    clear hb10 r10 hav HR9
                    go_wp2_with (go_at_call 15; refine (num4 _ _).mono ?_; rintro e wq ⟨rfl, rfl⟩)
                    refine HEQ.out.mono ?_
                    rintro e wv ⟨rfl, qv, rfl⟩
                    go_wp2
                    go_roundw
                    case rel => exact ⟨j + 1, by omega, by go_num, HB10.out.trans ((drawn_below w10 qv).mono HB10.out.size)⟩
                    case measure => first | (simp [intOf]; done) | (simp [intOf]; omega)
                  · exact absurd HAVB.out hne
                | false =>
                  have HAVB : Hid (Av ≠ b.map fun v : Nat => (v : Int)) := Lib.hid (of_decide_eq_false HT.out)
                  have HBAD : Hid (∀ (wy : World) (A2 : Option Addr) (c2 : Nat), Rds wy A2 (intsV L) → (A2 = none → s.length = 0 ∧ c2 = 0) → ∀ (A3 : Option Addr) (c3 : Nat), Rds wy A3 (intsV Av) → Calls Try.prog 26 #[.slice A2 s.length c2, .slice A3 n c3] wy fun e wu => e = .returned (.tuple #[.slice none 0 0, .int .i64 1]) ∧ Below wy.heap.size wy wu) :=
                    Lib.hid (fun wy A2 c2 h hA2 A3 c3 h3 => by
                      by_cases hns : n = s.length
                      · subst hns
                        refine (Common_any wy A2 c2 s (by omega) (by rw [← HLS.out]; exact h) hA2 HS512.out A3 c3 Av HN.out h3 b HSA.out).mono ?_
                        rintro e wu ⟨hbu, ⟨hav, _⟩ | ⟨_, rfl⟩⟩
                        · exact absurd hav HAVB.out
                        · exact ⟨rfl, hbu⟩
                      · exact (Common_bad wy A2 s.length c2 L HLL.out (by omega) h A3 n c3 (.inr hns)).mono (by rintro e w' ⟨rfl, rfl⟩; exact ⟨rfl, Below.refl _ _⟩))
                  have HBZ := HB6
                  have HAZ := HA6
                  -- the world wz; E: the order's slice; HBZ: Below w1 wz; HAZ: Rds wz E (intsV Av); HBAD: what fails
                  have hc0 := cell_ext HBZ.out (Nat.le_refl _) HC0.out
                  go_wp2_with fail
                  refine (CopyNumbers_any w6 B s.length cb L HLL.out (by omega) (HB4.out.ext HBZ.out (Nat.le_refl _))).mono ?_
                  rintro e wx ⟨v, rfl, hown, hbe2⟩
                  obtain ⟨A2, c2, rfl, p1, p2, p3, p4, p5⟩ := own_rds hown
                  have HIN : Hid (Rds wx A2 (intsV L)) := p4
                  have HI3 : Hid (A2 = none → s.length = 0 ∧ c2 = 0) := p3
                  have HBX : Hid (Below w1.heap.size w1 wx) := HBZ.out.trans (hbe2.mono HBZ.out.size)
                  have HAX := Lib.hid (HAZ.out.ext hbe2 (Nat.le_refl _))
                  clear hbe2 hown p1 p2 p3 p4 p5 hc0
                  have HCP := Lib.hid (CopyNumbers_any wx E n ed Av HN.out (by omega) HAX.out)
                  go_wp2_with fail
                  refine HCP.out.mono ?_
                  rintro e wy ⟨v, rfl, hown, hbe2⟩
                  obtain ⟨A3, c3, rfl, p1, p2, p3, p4, p5⟩ := own_rds hown
                  have HIN2 := Lib.hid (HIN.out.ext hbe2 (Nat.le_refl _))
                  have HAY : Hid (Rds wy A3 (intsV Av)) := p4
                  have HBY : Hid (Below w1.heap.size w1 wy) := HBX.out.trans (hbe2.mono HBX.out.size)
                  clear hbe2 hown p1 p2 p3 p4 p5
                  have HCOM := Lib.hid (HBAD.out wy A2 c2 HIN2.out HI3.out A3 c3 HAY.out)
                  go_wp2_with fail
                  refine HCOM.out.mono ?_
                  rintro e wu ⟨rfl, hbu⟩
                  have HBU : Hid (Below w1.heap.size w1 wu) := HBY.out.trans (hbu.mono HBY.out.size)
                  clear hbu
                  have HEQ := Lib.hid (EqNumbers_any wu none 0 0 [] rfl (none_rds _) none 0 0 [] rfl (none_rds _) (by omega))
                  rw [decide_eq_true rfl] at HEQ
                  go_wp2_with (go_at_call 15; refine (num4 _ _).mono ?_; rintro e wq ⟨rfl, rfl⟩)
                  refine HEQ.out.mono ?_
                  rintro e wv ⟨rfl, qv, rfl⟩
                  go_wp2
                  go_roundw
                  case rel => exact ⟨j + 1, by omega, by go_num, HBU.out.trans ((drawn_below wu qv).mono HBU.out.size)⟩
                  case measure => first | (simp [intOf]; done) | (simp [intOf]; omega)
            · obtain rfl : j = 2 := by omega
              have hj2i : ¬ ((2 : Nat) : Int) < 2 := by omega
              go_wp2
              go_roundw
              case rel => exact ⟨k + 1, by omega, by go_num, HX1.out.trans (HBZ.out.mono HX1.out.size)⟩
              case measure => first | (simp [intOf]; done) | (simp [intOf]; omega)
    · by_cases h2 : k < xs.length
      · have h1i : (k : Int) < (xs.length : Int) := by omega
        have h2i : ¬ (k : Int) < 6 := by omega
        go_wp2_with (go_at_call 19; refine (wakes4 _).mono ?_; rintro e w1 ⟨rfl, hb⟩)
        go_ret
        exact ⟨rfl, HX.out.trans (hb.mono HX.out.size)⟩
      · have h1i : ¬ (k : Int) < (xs.length : Int) := by omega
        go_wp2_with (go_at_call 19; refine (wakes4 _).mono ?_; rintro e w1 ⟨rfl, hb⟩)
        go_ret
        exact ⟨rfl, HX.out.trans (hb.mono HX.out.size)⟩
end Go.Proofs.Ytkjajdhempceaaa
