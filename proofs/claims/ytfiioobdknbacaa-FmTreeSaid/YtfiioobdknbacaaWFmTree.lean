/- The walk of the law FmTree. -/
import Derived.Test.YtfiioobdknbacaaAskF
import Derived.Test.YtfiioobdknbacaaRefV
set_option linter.unusedVariables false
set_option linter.unusedSimpArgs false
namespace Lec.Fm
open Lec.Sa
theorem less_sy (s : List Nat) (c : Nat) : (List.range s.length).countP (fun u => decide (sy s u < c)) = Wv.less s c := by
  have h : s = (List.range s.length).map (fun u => sy s u) := by
    refine List.ext_getElem? (fun i => ?_)
    by_cases hi : i < s.length
    · rw [List.getElem?_map, List.getElem?_range hi, List.getElem?_eq_getElem hi]
      simp [sy, List.getD_eq_getElem?_getD, hi]
    · rw [List.getElem?_eq_none (by omega), List.getElem?_eq_none (by simp; omega)]
  unfold Wv.less
  rw [← List.countP_eq_length_filter]
  conv => rhs; rw [h]
  rw [List.countP_map]
  rfl
theorem less_L {s b : List Nat} (h : IsSA s b) (c : Nat) : Wv.less (L s b) c = Wv.less s c := by rw [less_cnt h, less_sy]
end Lec.Fm
namespace Go.Proofs.Ytfiioobdknbacaa
open Go.RowKit Lec Lec.Fm

set_option maxRecDepth 100000 in
set_option maxHeartbeats 4000000 in
theorem FmTree_walk (W : World) (K : Int) (A B C : Option Addr) (c d e0 : Nat) (L : List Int) (P : List (List Int)) (Is : List Int) (hL : L.length ≤ 1152921504606846976) (hPl : ∀ p ∈ P, p.length ≤ 1152921504606846976) (hPn : P.length ≤ 1152921504606846976) (hcA : L.length ≤ c) (hnA : A = none → L.length = 0 ∧ c = 0)
    (hl : Rds W A (intsV L)) (hpt : Pats W B P) (hi : Rds W C (intsV Is)) (hwf : ∀ y ∈ Is, -9223372036854775808 ≤ y ∧ y ≤ 9223372036854775807) :
    Calls Try.prog 10 #[.agg #[.int .i64 K, .slice A L.length c, .slice B P.length d, .slice C Is.length e0]] W fun e w' => e = .returned (.bool true) ∧ Below W.heap.size W w' := by
  have HL := Lib.hid hl
  have HPT := Lib.hid hpt
  have HI := Lib.hid hi
  have HW := Lib.hid hwf
  have HV : Hid (∀ w', Below W.heap.size W w' → Calls Try.prog 21 #[.agg #[.int .i64 K, .slice A L.length c, .slice B P.length d, .slice C Is.length e0]] w' (HeavyF w' L P Is)) := Lib.hid fun w' h => heavyF_any w' K A B C c d e0 L P Is hL hPl hPn (hpt.ext h (Nat.le_refl _))
  clear hl hi hwf hpt hL hPl hPn
  go_enter Try.func10, Try.ntmps10
  go_wp2_with fail
  obtain ⟨w0, hw0⟩ : ∃ w0, w0 = W.alloc (.cells #[.int .i64 K, .slice A L.length c, .slice B P.length d, .slice C Is.length e0] 48) := ⟨_, rfl⟩
  rw [← hw0]
  have HX0 : Hid (Below W.heap.size W w0) := by rw [hw0]; exact (Below.refl _ _).alloc (Nat.le_refl _) _
  have HC0 : Hid (w0.cell? ⟨W.heap.size, 0, none⟩ = some (.int .i64 K)) := by rw [hw0]; show _ = _; rw [cell_of_row _ _ _ _ _ _ (heap_alloc_new _ _)]; rfl
  have HC1 : Hid (w0.cell? ⟨W.heap.size, 1, none⟩ = some (.slice A L.length c)) := by rw [hw0]; show _ = _; rw [cell_of_row _ _ _ _ _ _ (heap_alloc_new _ _)]; rfl
  have HC2 : Hid (w0.cell? ⟨W.heap.size, 2, none⟩ = some (.slice B P.length d)) := by rw [hw0]; show _ = _; rw [cell_of_row _ _ _ _ _ _ (heap_alloc_new _ _)]; rfl
  have HC3 : Hid (w0.cell? ⟨W.heap.size, 3, none⟩ = some (.slice C Is.length e0)) := by rw [hw0]; show _ = _; rw [cell_of_row _ _ _ _ _ _ (heap_alloc_new _ _)]; rfl
  clear hw0
  refine (HV.out w0 HX0.out).mono ?_
  rintro e w1 ⟨u, rfl, hlight, hb⟩
  have HLI := Lib.hid hlight
  have HX1 : Hid (Below W.heap.size W w1) := HX0.out.trans (hb.mono HX0.out.size)
  have HC01 := Lib.hid (cell_ext hb (Nat.le_refl _) HC0.out)
  have HC11 := Lib.hid (cell_ext hb (Nat.le_refl _) HC1.out)
  have HC21 := Lib.hid (cell_ext hb (Nat.le_refl _) HC2.out)
  have HC31 := Lib.hid (cell_ext hb (Nat.le_refl _) HC3.out)
  clear hb hlight HC0 HC1 HC2 HC3 HX0 HV
  have k0 := HC01.out
  have k1 := HC11.out
  have k2 := HC21.out
  have k3 := HC31.out
  cases u with
  | true =>
    go_wp2
    go_ret
    exact ⟨rfl, HX1.out⟩
  | false =>
    obtain ⟨hl4, hp4, hpn, hin⟩ := HLI.out rfl
    clear HLI
    go_wp2_with fail
    clear k0 k1 k2 k3
    refine (madeF_any w1 K A c B P.length d C Is.length e0 L hl4 (HL.out.ext HX1.out (Nat.le_refl _))).mono ?_
    rintro e w2 ⟨hb, hpost⟩
    have HX2 : Hid (Below W.heap.size W w2) := HX1.out.trans (hb.mono HX1.out.size)
    have HK0 := Lib.hid (cell_ext hb (Nat.le_refl _) HC01.out)
    have HK1 := Lib.hid (cell_ext hb (Nat.le_refl _) HC11.out)
    have HK2 := Lib.hid (cell_ext hb (Nat.le_refl _) HC21.out)
    have HK3 := Lib.hid (cell_ext hb (Nat.le_refl _) HC31.out)
    replace HL := Lib.hid (HL.out.ext HX2.out (Nat.le_refl _))
    replace HPT := Lib.hid (HPT.out.ext HX2.out (Nat.le_refl _))
    replace HI := Lib.hid (HI.out.ext HX2.out (Nat.le_refl _))
    clear hb HX1 HC01 HC11 HC21 HC31
    rcases hpost with ⟨hno, rfl⟩ | ⟨hok, x, D, b, lo, rfl, hfc, hfm⟩
    · clear hno
      have HXF := HX2
      go_wp2_with fail
      refine (wakesF _).mono ?_
      rintro e w9 ⟨rfl, hb⟩
      go_wp2
      go_ret
      exact ⟨rfl, HXF.out.trans (hb.mono HXF.out.size)⟩
    · have hnats := okTree_nats hok
      obtain ⟨k, rfl⟩ : ∃ k : Nat, K = (k : Int) := ⟨K.toNat, by have := hok.1; omega⟩
      obtain ⟨s, hM⟩ : ∃ s, s = L.map Int.toNat := ⟨_, rfl⟩
      rw [← hM] at hfc hfm hnats
      have hml : s.length = L.length := by rw [hM, List.length_map]
      rw [Int.toNat_natCast] at hfc hfm
      have HSL := Lib.hid hml
      have HNA := Lib.hid hnats
      have HFC := Lib.hid hfc
      have HFM : Hid (∀ w', Below w2.heap.size w2 w' → FmN w' x k D s b lo) := Lib.hid fun w' h => hfm.ext h (Nat.le_refl _)
      have HLS : Hid (∀ w', Below w2.heap.size w2 w' → Rds w' A (natsC s)) := Lib.hid fun w' h => by rw [HNA.out]; exact HL.out.ext h (Nat.le_refl _)
      have HPE : Hid (∀ i (h : i < P.length), ∃ a PA pc, B = some a ∧ P[i].length ≤ pc ∧ (PA = none → P[i].length = 0 ∧ pc = 0) ∧ ∀ w', Below w2.heap.size w2 w' → w'.cell? (a.add i) = some (.slice PA P[i].length pc) ∧ Rds w' PA (intsV P[i])) := Lib.hid fun i h => by
        obtain ⟨a, PA, pc, e, h1, h2, h3, h4⟩ := HPT.out i h
        exact ⟨a, PA, pc, e, h2, h3, fun w' hb => ⟨cell_ext hb (Nat.le_refl _) h1, h4.ext hb (Nat.le_refl _)⟩⟩
      have hsl4 : s.length ≤ 400 := by rw [HSL.out]; exact hl4
      have hk5 := hfc.k5
      have hk1 : 1 ≤ k := by have := hok.1; omega
      clear hM hml hnats hfc hfm hok HPT
      rw [← HSL.out] at HK1
      have c0 := HK0.out
      have c1 := HK1.out
      have HMK := Lib.hid (refMake_any w2 A c s (by omega) (HLS.out _ (Below.refl _ _)))
      have HLL : Hid ((Fm.L s b).length = s.length) := HFC.out.llen
      go_wp2_with fail
      refine HMK.out.mono ?_
      rintro e w3 ⟨b', v3, rfl, hsa', hown3, hb3⟩
      obtain rfl : b' = b := hsa'.eq HFC.out.sa
      have HB3 : Hid (Below w2.heap.size w2 w3) := Lib.hid hb3
      obtain ⟨A3, c3, rfl, _, _, _, r3, _⟩ := own_rds hown3
      have HR3 : Hid (∀ w', Below w3.heap.size w3 w' → Rds w' A3 (natsC (Fm.L s b'))) := Lib.hid fun w' h => r3.ext h (Nat.le_refl _)
      have HFX : Hid (∀ w', Below w3.heap.size w3 w' → FmN w' x k D s b' lo) := Lib.hid fun w' h => HFM.out w' (HB3.out.trans (h.mono HB3.out.size))
      clear hsa' hown3 hb3 r3 HMK c0 c1
      have c0 := cell_ext HB3.out (Nat.le_refl _) HK0.out
      have HK03 := Lib.hid c0
      have hfx := HFX.out _ (Below.refl _ _)
      obtain ⟨p, kp, AA, cc, BB, c', X, x0, _, _, _, _, htr, _⟩ := hfx.out
      have HX0 := Lib.hid x0
      have HTR : Hid (∀ w', Below w3.heap.size w3 w' → TreeN w' p k D (Fm.L s b') lo) := Lib.hid fun w' h => htr.ext h (Nat.le_refl _)
      have HLN : Hid (∀ q, Calls Try.prog 41 #[.pointer (some ⟨p, 0, none⟩)] (w3.drewN q) fun e w' => e = .returned (.int .i64 (s.length : Int)) ∧ w3.drewN q = w') := Lib.hid fun q => by
        have h := tLen_any (HTR.out _ (drawn_below w3 q))
        rwa [HLL.out] at h
      have HKN : Hid (∀ q, Calls Try.prog 42 #[.pointer (some ⟨p, 0, none⟩)] (w3.drewN q) fun e w' => e = .returned (.int .i64 (k : Int)) ∧ w3.drewN q = w') := Lib.hid fun q => tKinds_any (HTR.out _ (drawn_below w3 q)) hk5
      have e1 : ((s.length : Int) != (s.length : Int)) = false := by simp
      have e2 : ((k : Int) != (k : Int)) = false := by simp
      clear hfx htr
      go_upto_region 7 with (fail)
      go_quiet (first
        | (go_at_call 41; first | exact Calls.q_same (HLN.out _) | exact Calls.quiet_of (HLN.out 0))
        | (go_at_call 42; first | exact Calls.q_same (HKN.out _) | exact Calls.quiet_of (HKN.out 0)))
      have HB0 : Hid (Below w3.heap.size w3 (w3.drewN nq)) := Lib.hid (drawn_below w3 nq)
      clear c0 x0 e1 e2
      go_wp2
      go_loopw [7] (fun i wr => ∃ n : Nat, n ≤ s.length ∧ i = .int .i64 (n : Int) ∧ Hid (Below w3.heap.size w3 wr)) (fun i _ => s.length - (intOf i).toNat)
      case atStart => exact ⟨0, by omega, rfl, HB0⟩
      case round =>
        clear HB0
        obtain ⟨i, hi, rfl, HB⟩ := hrel
        by_cases h1 : i < s.length
        · have h1i : (i : Int) < (s.length : Int) := by omega
          have hi0 : (0 : Int) ≤ (i : Int) := by omega
          have hlm : (Fm.L s b').length ≤ 131072 := by rw [HLL.out]; omega
          obtain ⟨z, hz⟩ : ∃ z, (Fm.L s b')[i]? = some z := ⟨_, List.getElem?_eq_getElem (by rw [HLL.out]; exact h1)⟩
          have hzk : z < k := HFC.out.lsym z (List.mem_iff_getElem?.2 ⟨i, hz⟩)
          have HAC : Hid (∀ w', Below w3.heap.size w3 w' → _) := Lib.hid fun w' h => tAccess_in (HTR.out w' h) HFC.out.d9 hk5 HFC.out.kD hlm HFC.out.lsym i z hz
          have HRK : Hid (∀ w', Below w3.heap.size w3 w' → _) := Lib.hid fun w' h => tRank_in (HTR.out w' h) HFC.out.d9 hk5 HFC.out.kD hlm HFC.out.lsym z hzk i (by rw [HLL.out]; omega)
          have hej : Wv.eqs ((Fm.L s b').take i) z < Wv.eqs (Fm.L s b') z := by
            have hil : i < (Fm.L s b').length := by rw [HLL.out]; exact h1
            have h3 : Wv.eqs ((Fm.L s b').take (i + 1)) z = Wv.eqs ((Fm.L s b').take i) z + 1 := by
              rw [List.take_succ_eq_append_getElem hil, (List.getElem?_eq_some_iff.1 hz).2, Wv.eqs_snoc, if_pos rfl]
            have h4 : Wv.eqs ((Fm.L s b').take (i + 1)) z ≤ Wv.eqs (Fm.L s b') z := ((List.take_sublist (i + 1) (Fm.L s b')).filter _).length_le
            omega
          have HSE : Hid (∀ w', Below w3.heap.size w3 w' → _) := Lib.hid fun w' h => tSelect_in (HTR.out w' h) HFC.out.d9 hk5 HFC.out.kD hlm HFC.out.lsym z i hz _ rfl hej
          have HRR : Hid (∀ w', Below w3.heap.size w3 w' → Calls Try.prog 46 #[.slice A3 s.length c3, .int .i64 (z : Int), .int .i64 (i : Int)] w' fun e w'' => e = .returned (.int .i64 (Wv.eqs ((Fm.L s b').take i) z : Int)) ∧ w' = w'') := Lib.hid fun w' h => refRankV_any w' A3 s.length c3 (Fm.L s b') HLL.out.symm (by omega) (HR3.out w' h) z i hi
          have HXC : Hid (∀ w', Below w3.heap.size w3 w' → w'.cell? ⟨x, 0, none⟩ = some (.pointer (some ⟨p, 0, none⟩))) := Lib.hid fun w' h => cell_ext h (Nat.le_refl _) HX0.out
          obtain ⟨a3, ha3, _⟩ := HR3.out wr HB.out i _ (natsC_at hz)
          subst ha3
          have HBC : Hid (∀ w', Below w3.heap.size w3 w' → w'.cell? (a3.add i) = some (.int .i64 (z : Int))) := Lib.hid fun w' h => by
            obtain ⟨a4, e4, c4⟩ := HR3.out w' h i _ (natsC_at hz)
            obtain rfl := Option.some.inj e4
            exact c4
          have hnl : Wv.eqs ((Fm.L s b').take i) z ≤ 1000 := by
            have := Wv.eqs_le ((Fm.L s b').take i) z
            rw [List.length_take] at this
            omega
          generalize Wv.eqs ((Fm.L s b').take i) z = y at *
          clear hz hej hzk
          have c0 := HXC.out _ HB.out
          go_wp2_with fail
          refine (HAC.out _ HB.out).mono ?_
          rintro e w4 ⟨rfl, hb4⟩
          have HB4 : Hid (Below w3.heap.size w3 w4) := Lib.hid (HB.out.trans (hb4.mono HB.out.size))
          clear hb4 c0
          have HBX : Hid (∀ w', Ext w4 w' → Below w3.heap.size w3 w') := Lib.hid fun w' h => HB4.out.trans (h.below.mono HB4.out.size)
          have HQ : Hid (∀ w', Ext w4 w' → w'.cell? ⟨x, 0, none⟩ = some (.pointer (some ⟨p, 0, none⟩)) ∧ w'.cell? (a3.add i) = some (.int .i64 (z : Int))) := Lib.hid fun w' h => ⟨HXC.out _ (HBX.out _ h), HBC.out _ (HBX.out _ h)⟩
          have HRK4 : Hid (∀ w', Ext w4 w' → _) := Lib.hid fun w' h => HRK.out w' (HBX.out w' h)
          have HSE4 : Hid (∀ w', Ext w4 w' → _) := Lib.hid fun w' h => HSE.out w' (HBX.out w' h)
          go_upto_region 13 with (fail)
          refine wp_region_cls (Ext w4) (by kernel_rfl) (by kernel_rfl) (Ext.drawn _) ?_
          repeat (go_big_quiet_step (first
            | (intro _; rfl)
            | (intro hC; (first | rw [(HQ.out _ hC).1] | rw [(HQ.out _ hC).2]); exact ⟨rfl, rfl⟩)
            | (intro hC; go_at_call 44; with_reducible exact Calls.cls hC (HRK4.out _ hC))))
          refine wpQuiet_nil ?_
          intro w5 hC5
          have HE5 := Lib.hid hC5
          clear hC5
          go_upto_region 14 with (fail)
          refine wp_region_cls (Ext w4) (by kernel_rfl) (by kernel_rfl) (HE5.out.trans (drawn_below w5 1)) ?_
          repeat (go_big_quiet_step (first
            | (intro _; rfl)
            | (intro hC; (first | rw [(HQ.out _ hC).1] | rw [(HQ.out _ hC).2]); exact ⟨rfl, rfl⟩)
            | (intro hC; go_at_call 45; with_reducible exact Calls.cls hC (HSE4.out _ hC))))
          refine wpQuiet_nil ?_
          intro w6 hC6
          have HB6 : Hid (Below w3.heap.size w3 w6) := Lib.hid (HBX.out _ hC6)
          clear hC6
          have d0 := HBC.out _ HB6.out
          have HRR6 := Lib.hid (HRR.out _ HB6.out)
          have f1 : ((z : Int) != (z : Int)) = false := by simp
          have f2 : ((i : Int) != (i : Int)) = false := by simp
          have f3 : ((y : Int) != (y : Int)) = false := by simp
          go_wp2_with (first
            | (go_at_call 28; refine (num6 _ _).mono ?_; rintro e wq ⟨rfl, rfl⟩)
            | (go_at_call 46; refine HRR6.out.mono ?_; rintro e wq ⟨rfl, rfl⟩))
          go_roundw
          case rel => exact ⟨i + 1, by omega, by go_num, HB6⟩
          case measure => simp [intOf]; omega
        · obtain rfl : i = s.length := by omega
          have h1i : ¬ (s.length : Int) < (s.length : Int) := by omega
          go_wp2
          go_loopw [14] (fun i wr => ∃ n : Nat, n ≤ k + 1 ∧ i = .int .i64 (n : Int) ∧ Hid (Below w3.heap.size w3 wr)) (fun i _ => k + 1 - (intOf i).toNat)
          case atStart => exact ⟨0, by omega, rfl, HB⟩
          case round =>
            clear HB
            obtain ⟨j, hj, rfl, HB⟩ := hrel
            have c0 := cell_ext HB.out (Nat.le_refl _) HK03.out
            have HXF : Hid (Below W.heap.size W wr) := HX2.out.trans ((HB3.out.trans (HB.out.mono HB3.out.size)).mono HX2.out.size)
            by_cases h2 : j ≤ k
            · have h2i : (j : Int) ≤ (k : Int) := by omega
              by_cases h3 : j < 50
              · have h3i : (j : Int) < 50 := by omega
                have x0 := cell_ext HB.out (Nat.le_refl _) HX0.out
                have HBW2 : Hid (Below w2.heap.size w2 wr) := HB3.out.trans (HB.out.mono HB3.out.size)
                have c1 := cell_ext HBW2.out (Nat.le_refl _) HK1.out
                have HLE := Lib.hid (tLess_in (HTR.out _ HB.out) hk5 j h2)
                rw [less_L HFC.out.sa] at HLE
                have HRL := Lib.hid (refLessV_any wr A s.length c s rfl (by omega) (HLS.out _ HBW2.out) j)
                generalize Wv.less s j = y at *
                have f3 : ((y : Int) != (y : Int)) = false := by simp
                go_wp2_with fail
                refine HLE.out.mono ?_
                rintro e w4 ⟨rfl, rfl⟩
                go_wp2_with (first
                  | (go_at_call 28; refine (num6 _ _).mono ?_; rintro e wq ⟨rfl, rfl⟩)
                  | (go_at_call 48; refine HRL.out.mono ?_; rintro e wq ⟨rfl, rfl⟩))
                go_roundw
                case rel => exact ⟨j + 1, by omega, by go_num, HB⟩
                case measure => simp [intOf]; omega
              · have h3i : ¬ (j : Int) < 50 := by omega
                go_wp2_with fail
                refine (wakesF _).mono ?_
                rintro e w9 ⟨rfl, hb⟩
                go_wp2
                go_ret
                exact ⟨rfl, HXF.out.trans (hb.mono HXF.out.size)⟩
            · have h2i : ¬ (j : Int) ≤ (k : Int) := by omega
              go_wp2_with fail
              refine (wakesF _).mono ?_
              rintro e w9 ⟨rfl, hb⟩
              go_wp2
              go_ret
              exact ⟨rfl, HXF.out.trans (hb.mono HXF.out.size)⟩
end Go.Proofs.Ytfiioobdknbacaa
