/- The walk of the law SuffixSorts. -/
import Derived.Test.YtkjajdhempceaaaAskS
set_option linter.unusedVariables false
set_option linter.unusedSimpArgs false
namespace Go.Proofs.Ytkjajdhempceaaa
open Go.RowKit Lec
set_option maxRecDepth 100000 in
set_option maxHeartbeats 4000000 in
theorem SuffixSorts_walk (W : World) (A : Option Addr) (c : Nat) (xs : List (List Int × List Int)) (hrow : Row AskS W A xs) (hlc : xs.length ≤ c) (hcm : c ≤ maxLen) (hnone : A = none → xs.length = 0 ∧ c = 0) (hby : c * 48 ≤ reachBytes) :
    Calls Try.prog 3 #[.slice A xs.length c] W fun e w' => e = .returned (.bool true) ∧ Below W.heap.size W w' := by
  have HR := Lib.hid hrow
  have hlen : xs.length ≤ 9223372036854775807 := by unfold maxLen at hcm; omega
  clear hrow hnone hby hcm hlc
  go_enter Try.func3, Try.ntmps3
  go_wp2
  go_loopw [3] (fun i wr => ∃ k : Nat, k ≤ xs.length ∧ i = .int .i64 (k : Int) ∧ Hid (Below W.heap.size W wr)) (fun i _ => xs.length - (intOf i).toNat)
  case atStart => exact ⟨0, by omega, rfl, Below.refl _ _⟩
  case round =>
    obtain ⟨k, hk, rfl, HX⟩ := hrel
    by_cases h1 : k < xs.length ∧ k < 6
    · obtain ⟨h1, h2⟩ := h1
      have h1i : (k : Int) < (xs.length : Int) := by omega
      have h2i : (k : Int) < 6 := by omega
      obtain ⟨a, B, cb, D, d, rfl, hc0, hc1, hb1, hb3, hb4, hd1, hd3, hd4⟩ := askS_at (HR.out.ext HX.out (Nat.le_refl _)) k h1
      generalize xs[k] = x at *
      obtain ⟨L, Is⟩ := x
      dsimp only at hc0 hc1 hb1 hb3 hb4 hd1 hd3 hd4
      have HC0 := Lib.hid hc0
      have HB3 := Lib.hid hb3
      have HB4 := Lib.hid hb4
      generalize hu : heavyS L Is = u
      have HU := Lib.hid hu
      have HEV := Lib.hid (heavyS_any wr B L.length cb D Is.length d L Is rfl rfl)
      clear hb3 hb4 hd3 hd4 hu
      rw [HU.out] at HEV
      go_wp2_with fail
      refine HEV.out.mono ?_
      rintro e w1 ⟨rfl, hbe1⟩
      have HX1 : Hid (Below wr.heap.size wr w1) := hbe1
      clear hbe1 HEV hc0 hc1
      cases u with
      | true =>
        go_wp2
        go_ret
        exact ⟨rfl, HX.out.trans (HX1.out.mono HX.out.size)⟩
      | false =>
        obtain ⟨hl1, hl2⟩ := heavyS_light HU.out
        clear HU
        have hc0 := cell_ext HX1.out (Nat.le_refl _) HC0.out
        go_wp2_with fail
        refine (CopyNumbers_any w1 B L.length cb L rfl (by omega) (HB4.out.ext HX1.out (Nat.le_refl _))).mono ?_
        rintro e w2 ⟨v, rfl, hown, hbe2⟩
        obtain ⟨A2, c2, rfl, p1, p2, p3, p4, p5⟩ := own_rds hown
        have HIN : Hid (Rds w2 A2 (intsV L)) := p4
        have HI3 : Hid (A2 = none → L.length = 0 ∧ c2 = 0) := p3
        have HX2 : Hid (Below wr.heap.size wr w2) := HX1.out.trans (hbe2.mono HX1.out.size)
        clear hbe2 hown p1 p2 p3 p4 p5 hc0 HX1
        cases hms : mayS 512 L with
        | false =>
          have HBAD := Lib.hid (Sort_bad w2 A2 L.length c2 L rfl (by omega) HIN.out hms)
          have HMAY : Hid (∀ w', Rds w' B (intsV L) → Calls Try.prog 14 #[.int .i64 512, .slice B L.length cb] w' fun e w'' => e = .returned (.bool false) ∧ w' = w'') := Lib.hid (fun w' h => by have := May_any w' B L.length cb L 512 rfl (by omega) h; rwa [hms] at this)
          clear hms
          go_wp2_with fail
          refine HBAD.out.mono ?_
          rintro e w3 ⟨rfl, rfl⟩
          have hc0 := cell_ext HX2.out (Nat.le_refl _) HC0.out
          go_wp2_with fail
          refine (HMAY.out _ (HB4.out.ext HX2.out (Nat.le_refl _))).mono ?_
          rintro e w3 ⟨rfl, rfl⟩
          go_wp2_with (go_at_call 15; refine (num4 _ _).mono ?_; rintro e wq ⟨rfl, rfl⟩)
          go_roundw
          case rel => exact ⟨k + 1, by omega, by go_num, HX.out.trans (HX2.out.mono HX.out.size)⟩
          case measure => first | (simp [intOf]; done) | (simp [intOf]; omega)
        | true =>
          have HGOOD := Lib.hid (Sort_good w2 A2 L.length c2 L rfl (by omega) HIN.out HI3.out hms)
          have HMAY : Hid (∀ w', Rds w' B (intsV L) → Calls Try.prog 14 #[.int .i64 512, .slice B L.length cb] w' fun e w'' => e = .returned (.bool true) ∧ w' = w'') := Lib.hid (fun w' h => by have := May_any w' B L.length cb L 512 rfl (by omega) h; rwa [hms] at this)
          have HSN := Lib.hid (symN_cells hms)
          have HSL := Lib.hid (symN_len L)
          clear hms
          go_wp2_with fail
          refine HGOOD.out.mono ?_
          rintro e w3 ⟨A3, b, rfl, hown, hsa, hbe3⟩
          have hbl := hsa.len
          rw [HSL.out] at hown hbl ⊢
          obtain ⟨A3', c3', he3, q1, q2, q3, q4, q5⟩ := own_rds hown
          obtain ⟨rfl, _, rfl⟩ := Value.slice.inj he3
          have HO3 := Lib.hid hown
          have HR3 := Lib.hid q4
          have HSA := Lib.hid hsa
          have HBL := Lib.hid hbl
          have HX3 : Hid (Below wr.heap.size wr w3) := HX2.out.trans (hbe3.mono HX2.out.size)
          have HIN3 := Lib.hid (HIN.out.ext hbe3 (Nat.le_refl _))
          have HB23 := Lib.hid hbe3
          have hc0 := cell_ext HX3.out (Nat.le_refl _) HC0.out
          clear hown hsa hbl hbe3 q1 q2 q3 q4 q5 he3
          go_wp2_with fail
          refine (HMAY.out _ (HB4.out.ext HX3.out (Nat.le_refl _))).mono ?_
          rintro e w4 ⟨rfl, rfl⟩
          have HRS := Lib.hid (refSort_any w3 B cb (symN L) (by rw [HSL.out]; omega) (by rw [← HSN.out]; exact HB4.out.ext HX3.out (Nat.le_refl _)))
          rw [HSL.out] at HRS
          go_wp2_with (go_at_call 15; refine (num4 _ _).mono ?_; rintro e wq ⟨rfl, rfl⟩)
          refine HRS.out.mono ?_
          rintro e w5 ⟨C, cc, b2, rfl, rb2, g1, g2, hsa2, hbe5⟩
          obtain rfl : b2 = b := hsa2.eq HSA.out
          rw [HSL.out] at g1 g2 ⊢
          have hq : Rds w5 A3 (natsC b2) := HR3.out.ext hbe5 (Nat.le_refl _)
          have HX5 : Hid (Below wr.heap.size wr w5) := HX3.out.trans (hbe5.mono HX3.out.size)
          have HEQ := Lib.hid (EqNumbers_any w5 A3 L.length L.length (b2.map fun v : Nat => (v : Int)) (by simp [HBL.out]) (natsC_rint hq) C L.length cc (b2.map fun v : Nat => (v : Int)) (by simp [HBL.out]) (natsC_rint rb2) (by omega))
          rw [decide_eq_true rfl] at HEQ
          have HB25 := Lib.hid (HB23.out.trans (hbe5.mono HB23.out.size))
          have HO5 := Lib.hid (own_ext HO3.out hbe5 (Nat.le_refl _))
          clear rb2 g1 g2 hsa2 hbe5 hq HRS
          go_wp2_with fail
          refine HEQ.out.mono ?_
          rintro e w6 ⟨rfl, q6, rfl⟩
          have HX6 : Hid (Below wr.heap.size wr (w5.drewN q6)) := HX5.out.trans ((drawn_below w5 q6).mono HX5.out.size)
          have HB26 : Hid (Below w2.heap.size w2 (w5.drewN q6)) := HB25.out.trans ((drawn_below w5 q6).mono HB25.out.size)
          have HO6 : Hid ((w5.drewN q6).ownsRow w2.heap.size 3 1 (.slice A3 L.length L.length) L.length (natsC b2)) := HO5.out
          generalize w5.drewN q6 = w6 at *
          clear hc0
          have hc0 := cell_ext HX6.out (Nat.le_refl _) HC0.out
          have HEQ2 := Lib.hid (EqNumbers_any w6 A2 L.length c2 L rfl (HIN.out.ext HB26.out (Nat.le_refl _)) B L.length cb L rfl (HB4.out.ext HX6.out (Nat.le_refl _)) (by omega))
          rw [decide_eq_true rfl] at HEQ2
          go_wp2_with fail
          refine HEQ2.out.mono ?_
          rintro e w7 ⟨rfl, q7, rfl⟩
          have HX7 : Hid (Below wr.heap.size wr (w6.drewN q7)) := HX6.out.trans ((drawn_below w6 q7).mono HX6.out.size)
          have HB27 : Hid (Below w2.heap.size w2 (w6.drewN q7)) := HB26.out.trans ((drawn_below w6 q7).mono HB26.out.size)
          have HO7 : Hid ((w6.drewN q7).ownsRow w2.heap.size 3 1 (.slice A3 L.length L.length) L.length (natsC b2)) := HO6.out
          generalize w6.drewN q7 = w7 at *
          have HSP := Lib.hid (spoilN_any w7 w2.heap.size (.slice A3 L.length L.length) L.length (b2.map fun v : Nat => (v : Int)) (by simp [HBL.out]) (by omega) HB27.out.size (by have h := HO7.out; rw [natsC_ints] at h; exact h))
          go_wp2_with fail
          refine HSP.out.mono ?_
          rintro e w8 ⟨rfl, hg8⟩
          have HB28 : Hid (Below w2.heap.size w2 w8) := HB27.out.grown hg8 HB27.out.size (fun k hk => (HO7.out.lt k hk).1)
          have HX8 : Hid (Below wr.heap.size wr w8) := HX2.out.trans (HB28.out.mono HX2.out.size)
          clear hg8 hc0
          have hc0 := cell_ext HX8.out (Nat.le_refl _) HC0.out
          have HEQ3 := Lib.hid (EqNumbers_any w8 A2 L.length c2 L rfl (HIN.out.ext HB28.out (Nat.le_refl _)) B L.length cb L rfl (HB4.out.ext HX8.out (Nat.le_refl _)) (by omega))
          rw [decide_eq_true rfl] at HEQ3
          go_wp2_with fail
          refine HEQ3.out.mono ?_
          rintro e w9 ⟨rfl, q9, rfl⟩
          go_wp2
          go_roundw
          case rel => exact ⟨k + 1, by omega, by go_num, HX.out.trans ((HX8.out.trans ((drawn_below w8 q9).mono HX8.out.size)).mono HX.out.size)⟩
          case measure => first | (simp [intOf]; done) | (simp [intOf]; omega)
    · by_cases h2 : k < xs.length
      · have h1i : (k : Int) < (xs.length : Int) := by omega
        have h2i : ¬ (k : Int) < 6 := by omega
        go_wp2_with (go_at_call 19; refine (wakes4 _).mono ?_; rintro e w1 ⟨rfl, hb⟩)
        go_ret
        exact ⟨rfl, HX.out.trans (hb.mono HX.out.size)⟩
      · have h1i : ¬ (k : Int) < (xs.length : Int) := by omega
        go_wp2_with (go_at_call 19; refine (wakes4 _).mono ?_; rintro e w1 ⟨rfl, hb⟩)
        go_ret
        exact ⟨rfl, HX.out.trans (hb.mono HX.out.size)⟩
end Go.Proofs.Ytkjajdhempceaaa
