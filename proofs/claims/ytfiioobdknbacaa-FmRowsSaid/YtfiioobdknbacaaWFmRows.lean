/- The walk of the law FmRows. -/
import Derived.Test.YtfiioobdknbacaaAskF
set_option linter.unusedVariables false
set_option linter.unusedSimpArgs false
namespace Go.Proofs.Ytfiioobdknbacaa
open Go.RowKit Lec Lec.Fm

set_option maxRecDepth 100000 in
set_option maxHeartbeats 4000000 in
theorem FmRows_walk (W : World) (K : Int) (A B C : Option Addr) (c d e0 : Nat) (L : List Int) (P : List (List Int)) (Is : List Int) (hL : L.length ≤ 1152921504606846976) (hPl : ∀ p ∈ P, p.length ≤ 1152921504606846976) (hPn : P.length ≤ 1152921504606846976) (hcA : L.length ≤ c) (hnA : A = none → L.length = 0 ∧ c = 0)
    (hl : Rds W A (intsV L)) (hpt : Pats W B P) (hi : Rds W C (intsV Is)) (hwf : ∀ y ∈ Is, -9223372036854775808 ≤ y ∧ y ≤ 9223372036854775807) :
    Calls Try.prog 6 #[.agg #[.int .i64 K, .slice A L.length c, .slice B P.length d, .slice C Is.length e0]] W fun e w' => e = .returned (.bool true) ∧ Below W.heap.size W w' := by
  have HL := Lib.hid hl
  have HPT := Lib.hid hpt
  have HI := Lib.hid hi
  have HW := Lib.hid hwf
  have HV : Hid (∀ w', Below W.heap.size W w' → Calls Try.prog 21 #[.agg #[.int .i64 K, .slice A L.length c, .slice B P.length d, .slice C Is.length e0]] w' (HeavyF w' L P Is)) := Lib.hid fun w' h => heavyF_any w' K A B C c d e0 L P Is hL hPl hPn (hpt.ext h (Nat.le_refl _))
  clear hl hi hwf hpt hL hPl hPn
  go_enter Try.func6, Try.ntmps6
  go_wp2_with fail
  obtain ⟨w0, hw0⟩ : ∃ w0, w0 = W.alloc (.cells #[.int .i64 K, .slice A L.length c, .slice B P.length d, .slice C Is.length e0] 48) := ⟨_, rfl⟩
  rw [← hw0]
  have HX0 : Hid (Below W.heap.size W w0) := by rw [hw0]; exact (Below.refl _ _).alloc (Nat.le_refl _) _
  have HC0 : Hid (w0.cell? ⟨W.heap.size, 0, none⟩ = some (.int .i64 K)) := by rw [hw0]; show _ = _; rw [cell_of_row _ _ _ _ _ _ (heap_alloc_new _ _)]; rfl
  have HC1 : Hid (w0.cell? ⟨W.heap.size, 1, none⟩ = some (.slice A L.length c)) := by rw [hw0]; show _ = _; rw [cell_of_row _ _ _ _ _ _ (heap_alloc_new _ _)]; rfl
  have HC2 : Hid (w0.cell? ⟨W.heap.size, 2, none⟩ = some (.slice B P.length d)) := by rw [hw0]; show _ = _; rw [cell_of_row _ _ _ _ _ _ (heap_alloc_new _ _)]; rfl
  have HC3 : Hid (w0.cell? ⟨W.heap.size, 3, none⟩ = some (.slice C Is.length e0)) := by rw [hw0]; show _ = _; rw [cell_of_row _ _ _ _ _ _ (heap_alloc_new _ _)]; rfl
  clear hw0
  refine (HV.out w0 HX0.out).mono ?_
  rintro e w1 ⟨u, rfl, hlight, hb⟩
  have HLI := Lib.hid hlight
  have HX1 : Hid (Below W.heap.size W w1) := HX0.out.trans (hb.mono HX0.out.size)
  have HC01 := Lib.hid (cell_ext hb (Nat.le_refl _) HC0.out)
  have HC11 := Lib.hid (cell_ext hb (Nat.le_refl _) HC1.out)
  have HC21 := Lib.hid (cell_ext hb (Nat.le_refl _) HC2.out)
  have HC31 := Lib.hid (cell_ext hb (Nat.le_refl _) HC3.out)
  clear hb hlight HC0 HC1 HC2 HC3 HX0 HV
  have k0 := HC01.out
  have k1 := HC11.out
  have k2 := HC21.out
  have k3 := HC31.out
  cases u with
  | true =>
    go_wp2
    go_ret
    exact ⟨rfl, HX1.out⟩
  | false =>
    obtain ⟨hl4, hp4, hpn, hin⟩ := HLI.out rfl
    clear HLI
    go_wp2_with fail
    clear k0 k1 k2 k3
    refine (madeF_any w1 K A c B P.length d C Is.length e0 L hl4 (HL.out.ext HX1.out (Nat.le_refl _))).mono ?_
    rintro e w2 ⟨hb, hpost⟩
    have HX2 : Hid (Below W.heap.size W w2) := HX1.out.trans (hb.mono HX1.out.size)
    have HK0 := Lib.hid (cell_ext hb (Nat.le_refl _) HC01.out)
    have HK1 := Lib.hid (cell_ext hb (Nat.le_refl _) HC11.out)
    have HK2 := Lib.hid (cell_ext hb (Nat.le_refl _) HC21.out)
    have HK3 := Lib.hid (cell_ext hb (Nat.le_refl _) HC31.out)
    replace HL := Lib.hid (HL.out.ext HX2.out (Nat.le_refl _))
    replace HPT := Lib.hid (HPT.out.ext HX2.out (Nat.le_refl _))
    replace HI := Lib.hid (HI.out.ext HX2.out (Nat.le_refl _))
    clear hb HX1 HC01 HC11 HC21 HC31
    rcases hpost with ⟨hno, rfl⟩ | ⟨hok, x, D, b, lo, rfl, hfc, hfm⟩
    · clear hno
      have HXF := HX2
      go_wp2_with fail
      refine (wakesF _).mono ?_
      rintro e w9 ⟨rfl, hb⟩
      go_wp2
      go_ret
      exact ⟨rfl, HXF.out.trans (hb.mono HXF.out.size)⟩
    · have hnats := okTree_nats hok
      obtain ⟨k, rfl⟩ : ∃ k : Nat, K = (k : Int) := ⟨K.toNat, by have := hok.1; omega⟩
      obtain ⟨s, hM⟩ : ∃ s, s = L.map Int.toNat := ⟨_, rfl⟩
      rw [← hM] at hfc hfm hnats
      have hml : s.length = L.length := by rw [hM, List.length_map]
      rw [Int.toNat_natCast] at hfc hfm
      have HSL := Lib.hid hml
      have HNA := Lib.hid hnats
      have HFC := Lib.hid hfc
      have HFM : Hid (∀ w', Below w2.heap.size w2 w' → FmN w' x k D s b lo) := Lib.hid fun w' h => hfm.ext h (Nat.le_refl _)
      have HLS : Hid (∀ w', Below w2.heap.size w2 w' → Rds w' A (natsC s)) := Lib.hid fun w' h => by rw [HNA.out]; exact HL.out.ext h (Nat.le_refl _)
      have HPE : Hid (∀ i (h : i < P.length), ∃ a PA pc, B = some a ∧ P[i].length ≤ pc ∧ (PA = none → P[i].length = 0 ∧ pc = 0) ∧ ∀ w', Below w2.heap.size w2 w' → w'.cell? (a.add i) = some (.slice PA P[i].length pc) ∧ Rds w' PA (intsV P[i])) := Lib.hid fun i h => by
        obtain ⟨a, PA, pc, e, h1, h2, h3, h4⟩ := HPT.out i h
        exact ⟨a, PA, pc, e, h2, h3, fun w' hb => ⟨cell_ext hb (Nat.le_refl _) h1, h4.ext hb (Nat.le_refl _)⟩⟩
      have hsl4 : s.length ≤ 400 := by rw [HSL.out]; exact hl4
      have hk5 := hfc.k5
      have hk1 : 1 ≤ k := by have := hok.1; omega
      clear hM hml hnats hfc hfm hok HPT
      rw [← HSL.out] at HK1
      go_wp2
      go_loopw [5] (fun i wr => ∃ n : Nat, n ≤ P.length ∧ i = .int .i64 (n : Int) ∧ Hid (Below w2.heap.size w2 wr)) (fun i _ => P.length - (intOf i).toNat)
      case atStart => exact ⟨0, by omega, rfl, Lib.hid (Below.refl _ _)⟩
      case round =>
        obtain ⟨i, hi, rfl, HB⟩ := hrel
        have c0 := cell_ext HB.out (Nat.le_refl _) HK0.out
        have c1 := cell_ext HB.out (Nat.le_refl _) HK1.out
        have c2 := cell_ext HB.out (Nat.le_refl _) HK2.out
        by_cases h1 : i < P.length
        · have h1i : (i : Int) < (P.length : Int) := by omega
          have hi0 : (0 : Int) ≤ (i : Int) := by omega
          obtain ⟨a, PA, pc, rfl, hpc, hpn0, hcp⟩ := HPE.out i h1
          have hp4i := hp4 _ (List.getElem_mem h1)
          generalize P[i] = p at *
          have HCP := Lib.hid hcp
          have cp := (hcp _ HB.out).1
          have HAS : Hid (∀ w', Below w2.heap.size w2 w' → _) := Lib.hid fun w' h => asks_any w' k PA pc p (by omega) (hcp w' h).2
          have HRW : Hid (∀ w', Below w2.heap.size w2 w' → _) := Lib.hid fun w' h => Rows_any HFC.out (HFM.out w' h) PA pc p (by omega) (hcp w' h).2
          have HHT : Hid (∀ w', Below w2.heap.size w2 w' → _) := Lib.hid fun w' h => Hits_any HFC.out (HFM.out w' h) PA pc p (by omega) (hcp w' h).2
          have HQ : Hid (∀ w', Ext wr w' → w'.cell? ⟨W.heap.size, 0, none⟩ = some (.int .i64 (k : Int)) ∧ w'.cell? ⟨W.heap.size, 1, none⟩ = some (.slice A s.length c) ∧ w'.cell? ⟨W.heap.size, 2, none⟩ = some (.slice (some a) P.length d) ∧ w'.cell? (a.add i) = some (.slice PA p.length pc)) := Lib.hid fun w' h => ⟨h.cell c0, h.cell c1, h.cell c2, h.cell cp⟩
          have HBX : Hid (∀ w', Ext wr w' → Below w2.heap.size w2 w') := Lib.hid fun w' h => HB.out.trans (h.below.mono HB.out.size)
          have HAS2 : Hid (∀ w', Ext wr w' → _) := Lib.hid fun w' h => HAS.out w' (HBX.out w' h)
          clear hcp
          have hrle := rowsE_le (k := k) (p := p) HFC.out.sa
          by_cases hw : wrongE k p = 0
          · have HSP : Hid (∀ w', Ext wr w' → Calls Try.prog 31 #[.slice A s.length c, .slice PA p.length pc] w' fun e w'' => e = .returned (.tuple #[.int .i64 ((rowsE k s b p).1 : Int), .int .i64 ((rowsE k s b p).2 : Int)]) ∧ Below w'.heap.size w' w'') := Lib.hid fun w' h => by
              have hpq : intsV p = natsC (p.map Int.toNat) := by
                rw [natsC_ints, List.map_map]
                congr 1
                refine ((List.map_congr_left (fun y hy => ?_)).trans (List.map_id _)).symm
                have hpb : patB k p = true := by
                  unfold wrongE at hw
                  split at hw
                  · omega
                  · cases h : patB k p
                    · rw [h] at hw; simp at hw
                    · rfl
                have := (patB_iff k p).1 hpb y hy
                show ((y.toNat : Nat) : Int) = y
                omega
              have := refSpan_any w' A c s b HFC.out.sa (by omega) (HLS.out w' (HBX.out w' h)) PA pc (p.map Int.toNat) (by rw [List.length_map]; omega) (by rw [← hpq]; exact (HCP.out w' (HBX.out w' h)).2)
              rw [List.length_map] at this
              have hre : rowsE k s b p = spanS s b (p.map Int.toNat) := by unfold rowsE; rw [if_pos hw]
              rw [hre]
              exact this
            rw [hw] at HAS2 HRW HHT
            generalize rowsE k s b p = z at *
            obtain ⟨f, t⟩ := z
            dsimp only at *
            have hft : (t : Int) - (f : Int) = ((t - f : Nat) : Int) := by omega
            have htl : t ≤ 1000 := by omega
            go_upto_region 9 with (fail)
            refine wp_region_cls (Ext wr) (by kernel_rfl) (by kernel_rfl) (Ext.drawn _) ?_
            repeat (go_big_quiet_step (first
              | (intro _; rfl)
              | (intro hC; (first | rw [(HQ.out _ hC).1] | rw [(HQ.out _ hC).2.1] | rw [(HQ.out _ hC).2.2.1] | rw [(HQ.out _ hC).2.2.2]); exact ⟨rfl, rfl⟩)
              | (intro hC; go_at_call 25; with_reducible exact Calls.cls_same hC (HAS2.out _ hC))))
            refine wpQuiet_nil ?_
            intro w3 hC3
            have HE3 := Lib.hid hC3
            clear hC3
            go_upto_region 12 with (fail)
            refine wp_region_cls (Ext wr) (by kernel_rfl) (by kernel_rfl) (HE3.out.trans (drawn_below w3 1)) ?_
            repeat (go_big_quiet_step (first
              | (intro _; rfl)
              | (intro hC; (first | rw [(HQ.out _ hC).1] | rw [(HQ.out _ hC).2.1] | rw [(HQ.out _ hC).2.2.1] | rw [(HQ.out _ hC).2.2.2]); exact ⟨rfl, rfl⟩)
              | (intro hC; go_at_call 31; with_reducible exact Calls.cls hC (HSP.out _ hC))))
            refine wpQuiet_nil ?_
            intro w4 hC4
            have HB4 : Hid (Below w2.heap.size w2 w4) := Lib.hid (HBX.out _ hC4)
            clear c0 c1 c2 cp hC4
            have c0 := cell_ext HB4.out (Nat.le_refl _) HK0.out
            have c1 := cell_ext HB4.out (Nat.le_refl _) HK1.out
            have c2 := cell_ext HB4.out (Nat.le_refl _) HK2.out
            have cp := (HCP.out _ HB4.out).1
            go_wp2_with fail
            refine (HRW.out _ HB4.out).mono ?_
            rintro e w5 ⟨rfl, hb5⟩
            have HB5 : Hid (Below w2.heap.size w2 w5) := Lib.hid (HB4.out.trans (hb5.mono HB4.out.size))
            clear hb5 c0 c1 c2 cp
            have c2 := cell_ext HB5.out (Nat.le_refl _) HK2.out
            have cp := (HCP.out _ HB5.out).1
            go_wp2_with fail
            refine (HHT.out _ HB5.out).mono ?_
            rintro e w6 ⟨rfl, hb6⟩
            have HB6 : Hid (Below w2.heap.size w2 w6) := Lib.hid (HB5.out.trans (hb6.mono HB5.out.size))
            clear hb6 c2 cp
            go_wp2_with (go_at_call 28; refine (num6 _ _).mono ?_; rintro e wq ⟨rfl, rfl⟩)
            go_roundw
            case rel => exact ⟨i + 1, by omega, by go_num, HB6⟩
            case measure => simp [intOf]; omega
          · have hwi : ((wrongE k p : Int) == 0) = false := by rw [beq_eq_false_iff_ne]; omega
            have hre : rowsE k s b p = (0, 0) := by unfold rowsE; rw [if_neg hw]
            rw [hre] at HRW HHT
            clear hre
            generalize wrongE k p = e at *
            have hee : ((e : Int) != (e : Int)) = false := by simp
            dsimp only at *
            go_upto_region 9 with (fail)
            refine wp_region_cls (Ext wr) (by kernel_rfl) (by kernel_rfl) (Ext.drawn _) ?_
            repeat (go_big_quiet_step (first
              | (intro _; rfl)
              | (intro hC; (first | rw [(HQ.out _ hC).1] | rw [(HQ.out _ hC).2.1] | rw [(HQ.out _ hC).2.2.1] | rw [(HQ.out _ hC).2.2.2]); exact ⟨rfl, rfl⟩)
              | (intro hC; go_at_call 25; with_reducible exact Calls.cls_same hC (HAS2.out _ hC))))
            refine wpQuiet_nil ?_
            intro w4 hC4
            have HB4 : Hid (Below w2.heap.size w2 w4) := Lib.hid (HBX.out _ hC4)
            clear c0 c1 c2 cp hC4
            have c0 := cell_ext HB4.out (Nat.le_refl _) HK0.out
            have c1 := cell_ext HB4.out (Nat.le_refl _) HK1.out
            have c2 := cell_ext HB4.out (Nat.le_refl _) HK2.out
            have cp := (HCP.out _ HB4.out).1
            go_wp2_with fail
            refine (HRW.out _ HB4.out).mono ?_
            rintro e w5 ⟨rfl, hb5⟩
            have HB5 : Hid (Below w2.heap.size w2 w5) := Lib.hid (HB4.out.trans (hb5.mono HB4.out.size))
            clear hb5 c0 c1 c2 cp
            have c2 := cell_ext HB5.out (Nat.le_refl _) HK2.out
            have cp := (HCP.out _ HB5.out).1
            go_wp2_with fail
            refine (HHT.out _ HB5.out).mono ?_
            rintro e w6 ⟨rfl, hb6⟩
            have HB6 : Hid (Below w2.heap.size w2 w6) := Lib.hid (HB5.out.trans (hb6.mono HB5.out.size))
            clear hb6 c2 cp
            go_wp2_with (go_at_call 28; refine (num6 _ _).mono ?_; rintro e wq ⟨rfl, rfl⟩)
            go_roundw
            case rel => exact ⟨i + 1, by omega, by go_num, HB6⟩
            case measure => simp [intOf]; omega
        · have h1i : ¬ (i : Int) < (P.length : Int) := by omega
          have HXF : Hid (Below W.heap.size W wr) := HX2.out.trans (HB.out.mono HX2.out.size)
          go_wp2_with fail
          refine (wakesF _).mono ?_
          rintro e w9 ⟨rfl, hb⟩
          go_wp2
          go_ret
          exact ⟨rfl, HXF.out.trans (hb.mono HXF.out.size)⟩
end Go.Proofs.Ytfiioobdknbacaa
