/- The walk of the law WaveletSelects. -/
import Derived.Test.YtgohpblcaafliaaRefV
set_option linter.unusedVariables false
set_option linter.unusedSimpArgs false
namespace Go.Proofs.Ytgohpblcaafliaa
open Go.RowKit Lec

set_option maxRecDepth 100000 in
set_option maxHeartbeats 4000000 in
theorem WaveletSelects_walk (W : World) (K : Int) (A B : Option Addr) (c d : Nat) (L Is : List Int) (hl : Rds W A (intsV L)) (hi : Rds W B (intsV Is)) (hwf : ∀ y ∈ Is, -9223372036854775808 ≤ y ∧ y ≤ 9223372036854775807) :
    Calls Try.prog 11 #[.agg #[.int .i64 K, .slice A L.length c, .slice B Is.length d]] W fun e w' => e = .returned (.bool true) ∧ Below W.heap.size W w' := by
  have HL := Lib.hid hl
  have HI := Lib.hid hi
  have HW := Lib.hid hwf
  clear hl hi hwf
  generalize hq : heavyV L Is = u
  have HQ := Lib.hid hq
  clear hq
  go_enter Try.func11, Try.ntmps11
  go_wp2_with fail
  obtain ⟨w0, hw0⟩ : ∃ w0, w0 = W.alloc (.cells #[.int .i64 K, .slice A L.length c, .slice B Is.length d] 43) := ⟨_, rfl⟩
  rw [← hw0]
  have HX0 : Hid (Below W.heap.size W w0) := by rw [hw0]; exact (Below.refl _ _).alloc (Nat.le_refl _) _
  have HC0 : Hid (w0.cell? ⟨W.heap.size, 0, none⟩ = some (.int .i64 K)) := by rw [hw0]; show _ = _; rw [cell_of_row _ _ _ _ _ _ (heap_alloc_new _ _)]; rfl
  have HC1 : Hid (w0.cell? ⟨W.heap.size, 1, none⟩ = some (.slice A L.length c)) := by rw [hw0]; show _ = _; rw [cell_of_row _ _ _ _ _ _ (heap_alloc_new _ _)]; rfl
  have HC2 : Hid (w0.cell? ⟨W.heap.size, 2, none⟩ = some (.slice B Is.length d)) := by rw [hw0]; show _ = _; rw [cell_of_row _ _ _ _ _ _ (heap_alloc_new _ _)]; rfl
  clear hw0
  refine (heavyV_any w0 K A c B d L Is).mono ?_
  rintro e w1 ⟨rfl, hb⟩
  rw [HQ.out]
  have HX1 : Hid (Below W.heap.size W w1) := HX0.out.trans (hb.mono HX0.out.size)
  have HC01 := Lib.hid (cell_ext hb (Nat.le_refl _) HC0.out)
  have HC11 := Lib.hid (cell_ext hb (Nat.le_refl _) HC1.out)
  have HC21 := Lib.hid (cell_ext hb (Nat.le_refl _) HC2.out)
  clear hb HC0 HC1 HC2 HX0
  have k0 := HC01.out
  have k1 := HC11.out
  have k2 := HC21.out
  cases u with
  | true =>
    go_wp2
    go_ret
    exact ⟨rfl, HX1.out⟩
  | false =>
    obtain ⟨hn6, hm6⟩ := heavyV_light HQ.out
    go_wp2_with fail
    clear k0 k1 k2
    refine (madeV_any w1 K A c B Is.length d L hn6 (HL.out.ext HX1.out (Nat.le_refl _))).mono ?_
    rintro e w2 ⟨hb, hpost⟩
    have HX2 : Hid (Below W.heap.size W w2) := HX1.out.trans (hb.mono HX1.out.size)
    have HK0 := Lib.hid (cell_ext hb (Nat.le_refl _) HC01.out)
    have HK1 := Lib.hid (cell_ext hb (Nat.le_refl _) HC11.out)
    have HK2 := Lib.hid (cell_ext hb (Nat.le_refl _) HC21.out)
    replace HL := Lib.hid (HL.out.ext HX2.out (Nat.le_refl _))
    replace HI := Lib.hid (HI.out.ext HX2.out (Nat.le_refl _))
    clear hb HX1 HC01 HC11 HC21 HQ
    rcases hpost with ⟨hno, rfl⟩ | ⟨hok, p, D, lo, rfl, hkD, hD9, ht⟩
    · clear hno
      have HXF := HX2
      go_wp2_with fail
      refine (wakesV _).mono ?_
      rintro e w9 ⟨rfl, hb⟩
      go_wp2
      go_ret
      exact ⟨rfl, HXF.out.trans (hb.mono HXF.out.size)⟩
    · have hlt := okTree_lt hok
      have hnats := okTree_nats hok
      obtain ⟨k, rfl⟩ : ∃ k : Nat, K = (k : Int) := ⟨K.toNat, by have := hok.1; omega⟩
      obtain ⟨M, hM⟩ : ∃ M, M = L.map Int.toNat := ⟨_, rfl⟩
      rw [← hM] at ht hlt hnats
      have hml : M.length = L.length := by rw [hM, List.length_map]
      rw [Int.toNat_natCast] at ht hkD hlt
      have hk1 : 1 ≤ k := by have := hok.1; omega
      have hk2 : k ≤ 512 := by have := hok.2.1; omega
      have HMM := Lib.hid hM
      have HML := Lib.hid hml
      have HLT := Lib.hid hlt
      have HNA := Lib.hid hnats
      have HT := Lib.hid ht
      have HKD := Lib.hid hkD
      have HD9 := Lib.hid hD9
      clear hM hml hlt hnats ht hok hkD hD9
      go_wp2
      go_loopw [5] (fun i wr => ∃ n : Nat, n ≤ Is.length ∧ i = .int .i64 (n : Int) ∧ Hid (Below w2.heap.size w2 wr)) (fun i _ => Is.length - (intOf i).toNat)
      case atStart => exact ⟨0, by omega, rfl, Lib.hid (Below.refl _ _)⟩
      case round =>
        obtain ⟨i, hi, rfl, HB⟩ := hrel
        have c2 := cell_ext HB.out (Nat.le_refl _) HK2.out
        by_cases h1 : i < Is.length
        · have h1i : (i : Int) < (Is.length : Int) := by omega
          go_wp2
          clear c2
          obtain ⟨wo, rfl⟩ : ∃ x, x = wr := ⟨wr, rfl⟩
          go_loopw [6] (fun jj wr => ∃ n : Nat, n ≤ Is.length ∧ jj = .int .i64 (n : Int) ∧ Hid (Below w2.heap.size w2 wr)) (fun jj _ => Is.length - (intOf jj).toNat)
          case atStart => exact ⟨0, by omega, rfl, HB⟩
          case round =>
            clear HB
            obtain ⟨j, hj, rfl, HB⟩ := hrel
            have c0 := cell_ext HB.out (Nat.le_refl _) HK0.out
            have c1 := cell_ext HB.out (Nat.le_refl _) HK1.out
            have c2 := cell_ext HB.out (Nat.le_refl _) HK2.out
            by_cases h2 : j < Is.length
            · have h2i : (j : Int) < (Is.length : Int) := by omega
              obtain ⟨a, rfl, hc0⟩ := HI.out.map i h1
              obtain ⟨a', e', hc0'⟩ := HI.out.map j h2
              obtain rfl := Option.some.inj e'
              have hxw := HW.out _ (List.getElem_mem h1)
              have hyw := HW.out _ (List.getElem_mem h2)
              generalize Is[i] = x at *
              generalize Is[j] = y at *
              have HCY : Hid (∀ w', Below w2.heap.size w2 w' → w'.cell? (a.add j) = some (.int .i64 y)) := Lib.hid fun w' h => cell_ext h (Nat.le_refl _) hc0'
              have hc := cell_ext HB.out (Nat.le_refl _) hc0
              have hc' := HCY.out _ HB.out
              have g0 : (0 : Int) ≤ (i : Int) := by omega
              have g1 : (0 : Int) ≤ (j : Int) := by omega
              clear hc0 hc0' e'
              have HTA : Hid (∀ w', Below w2.heap.size w2 w' → TreeN w' p k D M lo) := Lib.hid fun w' h => HT.out.ext h (Nat.le_refl _)
              by_cases hx0 : x < 0
              · have HBQ := HB
                have HF := Lib.hid (tSelect_form (HTA.out _ HB.out) hk2 x y (.inl hx0))
                go_wp2_with fail
                refine (HF.out).mono ?_
                rintro e w4 ⟨rfl, hb4⟩
                have HB4 : Hid (Below w2.heap.size w2 w4) := Lib.hid (HBQ.out.trans (hb4.mono HBQ.out.size))
                clear hb4
                go_wp2_with (go_at_call 31; refine (toldV_bad _ _ 1 (by decide)).mono ?_; rintro e wq ⟨rfl, rfl⟩)
                go_roundw
                case rel => exact ⟨j + 1, by omega, by go_num, HB4⟩
                case measure => simp [intOf]; omega
              · by_cases hx1 : (k : Int) ≤ x
                · have HBQ := HB
                  have HF := Lib.hid (tSelect_form (HTA.out _ HB.out) hk2 x y (.inr hx1))
                  go_wp2_with fail
                  refine (HF.out).mono ?_
                  rintro e w4 ⟨rfl, hb4⟩
                  have HB4 : Hid (Below w2.heap.size w2 w4) := Lib.hid (HBQ.out.trans (hb4.mono HBQ.out.size))
                  clear hb4
                  go_wp2_with (go_at_call 31; refine (toldV_bad _ _ 1 (by decide)).mono ?_; rintro e wq ⟨rfl, rfl⟩)
                  go_roundw
                  case rel => exact ⟨j + 1, by omega, by go_num, HB4⟩
                  case measure => simp [intOf]; omega
                · obtain ⟨x, rfl⟩ : ∃ z : Nat, x = (z : Int) := ⟨x.toNat, by omega⟩
                  by_cases hy : y < 0 ∨ (Wv.eqs M x : Int) ≤ y
                  · have HS : Hid (∀ q, Calls Try.prog 37 #[.slice A L.length c, .int .i64 (x : Int), .int .i64 y] (wr.drewN q) fun e w' => e = .returned (.int .i64 (-1)) ∧ wr.drewN q = w') := Lib.hid fun q => refSelectV_out _ A L.length c M HML.out.symm (by omega) (by rw [HNA.out]; exact HL.out.ext (HB.out.trans ((drawn_below wr q).mono HB.out.size)) (Nat.le_refl _)) x y hy hyw.2
                    have HY := Lib.hid hy
                    clear hy
                    go_upto_region 16 with (fail)
                    go_quiet ((go_at_call 37; first | exact Calls.q_same (HS.out _) | exact Calls.quiet_of (HS.out 0)))
                    have HBQ : Hid (Below w2.heap.size w2 (wr.drewN nq)) := Lib.hid (HB.out.trans ((drawn_below wr nq).mono HB.out.size))
                    replace c0 := cell_ext HBQ.out (Nat.le_refl _) HK0.out
                    replace c1 := cell_ext HBQ.out (Nat.le_refl _) HK1.out
                    replace c2 := cell_ext HBQ.out (Nat.le_refl _) HK2.out
                    replace hc' := HCY.out _ HBQ.out
                    clear hc
                    have HF := Lib.hid (tSelect_none (HTA.out _ HBQ.out) hk2 (by rw [HML.out]; omega) x y (by omega) HY.out)
                    go_wp2_with fail
                    refine (HF.out).mono ?_
                    rintro e w4 ⟨rfl, hb4⟩
                    have HB4 : Hid (Below w2.heap.size w2 w4) := Lib.hid (HBQ.out.trans (hb4.mono HBQ.out.size))
                    clear hb4
                    go_wp2_with (go_at_call 31; refine (toldV_bad _ _ 3 (by decide)).mono ?_; rintro e wq ⟨rfl, rfl⟩)
                    go_roundw
                    case rel => exact ⟨j + 1, by omega, by go_num, HB4⟩
                    case measure => simp [intOf]; omega
                  · obtain ⟨y, rfl⟩ : ∃ z : Nat, y = (z : Int) := ⟨y.toNat, by omega⟩
                    obtain ⟨r, hr, hre⟩ := nth_sym M x y (by omega)
                    have HS : Hid (∀ q, Calls Try.prog 37 #[.slice A L.length c, .int .i64 (x : Int), .int .i64 (y : Int)] (wr.drewN q) fun e w' => e = .returned (.int .i64 (r : Int)) ∧ wr.drewN q = w') := Lib.hid fun q => refSelectV_in _ A L.length c M HML.out.symm (by omega) (by rw [HNA.out]; exact HL.out.ext (HB.out.trans ((drawn_below wr q).mono HB.out.size)) (Nat.le_refl _)) x r y hr hre
                    have HF0 : Hid (∀ w', Below w2.heap.size w2 w' → _) := Lib.hid fun w' h => tSelect_in (HTA.out w' h) HD9.out hk2 HKD.out (by rw [HML.out]; omega) HLT.out x r hr y hre (by omega)
                    have hr0 : ¬ (r : Int) < 0 := by omega
                    clear hy hr hre
                    go_upto_region 16 with (fail)
                    go_quiet ((go_at_call 37; first | exact Calls.q_same (HS.out _) | exact Calls.quiet_of (HS.out 0)))
                    have HBQ : Hid (Below w2.heap.size w2 (wr.drewN nq)) := Lib.hid (HB.out.trans ((drawn_below wr nq).mono HB.out.size))
                    replace c0 := cell_ext HBQ.out (Nat.le_refl _) HK0.out
                    replace c1 := cell_ext HBQ.out (Nat.le_refl _) HK1.out
                    replace c2 := cell_ext HBQ.out (Nat.le_refl _) HK2.out
                    replace hc' := HCY.out _ HBQ.out
                    clear hc
                    have HF := Lib.hid (HF0.out _ HBQ.out)
                    go_wp2_with fail
                    refine (HF.out).mono ?_
                    rintro e w4 ⟨rfl, hb4⟩
                    have HB4 : Hid (Below w2.heap.size w2 w4) := Lib.hid (HBQ.out.trans (hb4.mono HBQ.out.size))
                    clear hb4
                    go_wp2_with (go_at_call 31; refine (toldV_ok _ _).mono ?_; rintro e wq ⟨rfl, rfl⟩)
                    go_roundw
                    case rel => exact ⟨j + 1, by omega, by go_num, HB4⟩
                    case measure => simp [intOf]; omega
            · have h2i : ¬ (j : Int) < (Is.length : Int) := by omega
              go_wp2
              go_roundw
              case rel => exact ⟨i + 1, by omega, by go_num, HB⟩
              case measure => simp [intOf]; omega
        · have h1i : ¬ (i : Int) < (Is.length : Int) := by omega
          have HXF : Hid (Below W.heap.size W wr) := HX2.out.trans (HB.out.mono HX2.out.size)
          go_wp2_with fail
          refine (wakesV _).mono ?_
          rintro e w9 ⟨rfl, hb⟩
          go_wp2
          go_ret
          exact ⟨rfl, HXF.out.trans (hb.mono HXF.out.size)⟩
end Go.Proofs.Ytgohpblcaafliaa
