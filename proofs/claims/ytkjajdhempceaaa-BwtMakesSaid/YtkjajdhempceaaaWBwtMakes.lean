/- The walk of the law BwtMakes. -/
import Derived.Test.YtkjajdhempceaaaAskW
import Derived.Test.YtkjajdhempceaaaHelpCN
set_option linter.unusedVariables false
set_option linter.unusedSimpArgs false
namespace Go.Proofs.Ytkjajdhempceaaa
open Go.RowKit Lec
theorem symN_512 {L : List Int} (h : mayS 512 L = true) : ∀ x, x ∈ symN L → x < 512 := fun x hx => by
  have hsb := symN_lt h
  obtain ⟨i, hi, rfl⟩ := List.mem_iff_getElem.1 hx
  have := hsb i hi
  unfold Sa.sy at this
  rwa [List.getD_eq_getElem?_getD, List.getElem?_eq_getElem hi] at this

set_option maxRecDepth 100000 in
set_option maxHeartbeats 4000000 in
theorem BwtMakes_walk (W : World) (A : Option Addr) (c : Nat) (xs : List (List Int × Int)) (hrow : Row AskW W A xs) (hlc : xs.length ≤ c) (hcm : c ≤ maxLen) (hnone : A = none → xs.length = 0 ∧ c = 0) (hby : c * 32 ≤ reachBytes) :
    Calls Try.prog 5 #[.slice A xs.length c] W fun e w' => e = .returned (.bool true) ∧ Below W.heap.size W w' := by
  have HR := Lib.hid hrow
  have hlen : xs.length ≤ 9223372036854775807 := by unfold maxLen at hcm; omega
  clear hrow hnone hby hcm hlc
  go_enter Try.func5, Try.ntmps5
  go_wp2
  go_loopw [3] (fun i wr => ∃ k : Nat, k ≤ xs.length ∧ i = .int .i64 (k : Int) ∧ Hid (Below W.heap.size W wr)) (fun i _ => xs.length - (intOf i).toNat)
  case atStart => exact ⟨0, by omega, rfl, Below.refl _ _⟩
  case round =>
    obtain ⟨k, hk, rfl, HX⟩ := hrel
    obtain ⟨w0, rfl⟩ : ∃ x, x = wr := ⟨wr, rfl⟩
    by_cases h1 : k < xs.length ∧ k < 6
    · obtain ⟨h1, h2⟩ := h1
      have h1i : (k : Int) < (xs.length : Int) := by omega
      have h2i : (k : Int) < 6 := by omega
      obtain ⟨a, B, cb, rfl, hc0, hc1, hb1, hb3, hb4, ht⟩ := askW_at (HR.out.ext HX.out (Nat.le_refl _)) k h1
      generalize xs[k] = x at *
      obtain ⟨L, t⟩ := x
      dsimp only at hc0 hc1 hb1 hb3 hb4 ht
      generalize hu : heavyW L = u
      have HU := Lib.hid hu
      have HEV := Lib.hid (heavyW_any w0 B L.length cb t L rfl)
      clear ht hu
      rw [HU.out] at HEV
      go_wp2_with fail
      refine HEV.out.mono ?_
      rintro e w1 ⟨rfl, hbe1⟩
      have HX1 : Hid (Below W.heap.size W w1) := HX.out.trans (hbe1.mono HX.out.size)
      cases u with
      | true =>
        go_wp2
        go_ret
        exact ⟨rfl, HX1.out⟩
      | false =>
        have hl1 := heavyW_light HU.out
        have HC0 := Lib.hid (cell_ext hbe1 (Nat.le_refl _) hc0)
        have HB4 := Lib.hid (hb4.ext hbe1 (Nat.le_refl _))
        clear HU hbe1 HEV hc0 hc1 hb4 hb3
        obtain ⟨l, hl⟩ : ∃ l, l = L.length := ⟨_, rfl⟩
        have HLL : Hid (L.length = l) := Lib.hid hl.symm
        rw [← hl] at hb1 hl1 HC0 ⊢
        clear hl
        have hc0 := HC0.out
        have HCP := Lib.hid (CopyNumbers_any w1 B l cb L HLL.out (by omega) HB4.out)
        go_wp2_with fail
        refine HCP.out.mono ?_
        rintro e w2 ⟨v, rfl, hown, hbe2⟩
        obtain ⟨A2, c2, rfl, p1, p2, p3, p4, p5⟩ := own_rds hown
        have HIN : Hid (Rds w2 A2 (intsV L)) := p4
        have HI3 : Hid (A2 = none → l = 0 ∧ c2 = 0) := p3
        have HB2 : Hid (Below w1.heap.size w1 w2) := Lib.hid hbe2
        clear hbe2 hown p1 p2 p3 p4 p5 hc0 HCP
        have hc0 := cell_ext HB2.out (Nat.le_refl _) HC0.out
        cases hms : mayS 512 L with
        | false =>
          have HBAD := Lib.hid (Make_bad w2 A2 l c2 L HLL.out (by omega) HIN.out hms)
          have HMAY : Hid (Calls Try.prog 14 #[.int .i64 512, .slice B l cb] w2 fun e w'' => e = .returned (.bool false) ∧ w2 = w'') := Lib.hid (by have := May_any w2 B l cb L 512 HLL.out (by omega) (HB4.out.ext HB2.out (Nat.le_refl _)); rwa [hms] at this)
          clear hms
          go_wp2_with fail
          refine HBAD.out.mono ?_
          rintro e w3 ⟨rfl, rfl⟩
          go_wp2_with fail
          refine HMAY.out.mono ?_
          rintro e w3 ⟨rfl, rfl⟩
          go_wp2_with (go_at_call 22; refine (num5 _ _).mono ?_; rintro e wq ⟨rfl, rfl⟩)
          go_roundw
          case rel => exact ⟨k + 1, by omega, by go_num, HX1.out.trans (HB2.out.mono HX1.out.size)⟩
          case measure => first | (simp [intOf]; done) | (simp [intOf]; omega)
        | true =>
          have HLS := Lib.hid (symN_cells hms)
          have hsl := symN_len L
          have HS512 := Lib.hid (symN_512 hms)
          generalize symN L = s at *
          have hls : l = s.length := by rw [hsl]; exact HLL.out.symm
          subst hls
          have HBS : Hid (Rds w1 B (natsC s)) := Lib.hid (by rw [← HLS.out]; exact HB4.out)
          have HGOOD := Lib.hid (Make_any w2 A2 c2 s (by omega) (by rw [← HLS.out]; exact HIN.out) HI3.out HS512.out)
          have HMS := Lib.hid hms
          clear hms hsl
          go_wp2_with fail
          refine HGOOD.out.mono ?_
          rintro e w3 ⟨b, v, rfl, hsa, hown, hbe3⟩
          obtain ⟨A3, c3, rfl, q1, q2, q3, q4, q5⟩ := own_rds hown
          have HO3 := Lib.hid hown
          have HR3 := Lib.hid q4
          have HSA := Lib.hid hsa
          have HB3 : Hid (Below w1.heap.size w1 w3) := Lib.hid (HB2.out.trans (hbe3.mono HB2.out.size))
          have HIN3 := Lib.hid (HIN.out.ext hbe3 (Nat.le_refl _))
          have HB23 := Lib.hid hbe3
          have HMAY : Hid (Calls Try.prog 14 #[.int .i64 512, .slice B s.length cb] w3 fun e w'' => e = .returned (.bool true) ∧ w3 = w'') := Lib.hid (by have := May_any w3 B s.length cb L 512 HLL.out (by omega) (HB4.out.ext HB3.out (Nat.le_refl _)); rwa [HMS.out] at this)
          have HRM := Lib.hid (refMake_any w3 B cb s (by omega) (HBS.out.ext HB3.out (Nat.le_refl _)))
          clear hown hsa hbe3 q1 q2 q3 q4 q5 HGOOD hc0
          have hc0 := cell_ext HB3.out (Nat.le_refl _) HC0.out
          go_wp2_with fail
          refine HMAY.out.mono ?_
          rintro e w4 ⟨rfl, rfl⟩
          go_wp2_with fail
          refine HRM.out.mono ?_
          rintro e w5 ⟨b2, v, rfl, hsa2, hown2, hbe5⟩
          obtain rfl : b2 = b := hsa2.eq HSA.out
          obtain ⟨A5, c5, rfl, r1, r2, r3, r4, r5⟩ := own_rds hown2
          have HOL := Lib.hid (Sa.outL_len HSA.out)
          generalize Sa.outL s (Sa.rowsL s b2) = o at *
          generalize hat : Sa.atK (Sa.rowsL s b2) (s.length + 1) = t2
          have hnn : ((t2 : Int) != (t2 : Int)) = false := by simp
          have HB5 : Hid (Below w1.heap.size w1 w5) := Lib.hid (HB3.out.trans (hbe5.mono HB3.out.size))
          have HB25 := Lib.hid (HB23.out.trans (hbe5.mono HB23.out.size))
          have HO5 := Lib.hid (own_ext HO3.out hbe5 (Nat.le_refl _))
          have HEQ := Lib.hid (EqNumbers_any w5 A3 s.length c3 (o.map fun v : Nat => (v : Int)) (by simp [HOL.out]) (natsC_rint (HR3.out.ext hbe5 (Nat.le_refl _))) A5 s.length c5 (o.map fun v : Nat => (v : Int)) (by simp [HOL.out]) (natsC_rint r4) (by omega))
          rw [decide_eq_true rfl] at HEQ
          clear hsa2 hown2 r1 r2 r3 r4 r5 hbe5 hat HRM HMAY HO3 HR3 hc0
          go_wp2_with (go_at_call 22; refine (num5 _ _).mono ?_; rintro e wq ⟨rfl, rfl⟩)
          refine HEQ.out.mono ?_
          rintro e w6 ⟨rfl, q6, rfl⟩
          have HB6 : Hid (Below w1.heap.size w1 (w5.drewN q6)) := Lib.hid (HB5.out.trans ((drawn_below w5 q6).mono HB5.out.size))
          have HB26 : Hid (Below w2.heap.size w2 (w5.drewN q6)) := Lib.hid (HB25.out.trans ((drawn_below w5 q6).mono HB25.out.size))
          have HO6 : Hid ((w5.drewN q6).ownsRow w2.heap.size 3 1 (.slice A3 s.length c3) s.length (natsC o)) := HO5.out
          generalize w5.drewN q6 = w6 at *
          clear HEQ HO5 HB5 HB25
          have hc0 := cell_ext HB6.out (Nat.le_refl _) HC0.out
          have HEQ2 := Lib.hid (EqNumbers_any w6 A2 s.length c2 L HLL.out (HIN.out.ext HB26.out (Nat.le_refl _)) B s.length cb L HLL.out (HB4.out.ext HB6.out (Nat.le_refl _)) (by omega))
          rw [decide_eq_true rfl] at HEQ2
          go_wp2_with fail
          refine HEQ2.out.mono ?_
          rintro e w7 ⟨rfl, q7, rfl⟩
          have HB7 : Hid (Below w1.heap.size w1 (w6.drewN q7)) := Lib.hid (HB6.out.trans ((drawn_below w6 q7).mono HB6.out.size))
          have HB27 : Hid (Below w2.heap.size w2 (w6.drewN q7)) := Lib.hid (HB26.out.trans ((drawn_below w6 q7).mono HB26.out.size))
          have HO7 : Hid ((w6.drewN q7).ownsRow w2.heap.size 3 1 (.slice A3 s.length c3) s.length (natsC o)) := HO6.out
          generalize w6.drewN q7 = w7 at *
          have HSP := Lib.hid (spoilN_any w7 w2.heap.size (.slice A3 s.length c3) s.length (o.map fun v : Nat => (v : Int)) (by simp [HOL.out]) (by omega) HB27.out.size (by have h := HO7.out; rw [natsC_ints] at h; exact h))
          go_wp2_with fail
          refine HSP.out.mono ?_
          rintro e w8 ⟨rfl, hg8⟩
          have HB28 : Hid (Below w2.heap.size w2 w8) := HB27.out.grown hg8 HB27.out.size (fun k hk => (HO7.out.lt k hk).1)
          have HX2 := Lib.hid (HX1.out.trans (HB2.out.mono HX1.out.size))
          clear hg8
          go_wp2
          go_roundw
          case rel => exact ⟨k + 1, by omega, by go_num, HX2.out.trans (HB28.out.mono HX2.out.size)⟩
          case measure => first | (simp [intOf]; done) | (simp [intOf]; omega)
    · by_cases h2 : k < xs.length
      · have h1i : (k : Int) < (xs.length : Int) := by omega
        have h2i : ¬ (k : Int) < 6 := by omega
        go_wp2_with (go_at_call 24; refine (wakes5 _).mono ?_; rintro e w1 ⟨rfl, hb⟩)
        go_ret
        exact ⟨rfl, HX.out.trans (hb.mono HX.out.size)⟩
      · have h1i : ¬ (k : Int) < (xs.length : Int) := by omega
        go_wp2_with (go_at_call 24; refine (wakes5 _).mono ?_; rintro e w1 ⟨rfl, hb⟩)
        go_ret
        exact ⟨rfl, HX.out.trans (hb.mono HX.out.size)⟩
end Go.Proofs.Ytkjajdhempceaaa
