/- The walk of the law WaveletAccess. -/
import Derived.Test.YtgohpblcaafliaaRefV
set_option linter.unusedVariables false
set_option linter.unusedSimpArgs false
namespace Go.Proofs.Ytgohpblcaafliaa
open Go.RowKit Lec

set_option maxRecDepth 100000 in
set_option maxHeartbeats 4000000 in
theorem WaveletAccess_walk (W : World) (K : Int) (A B : Option Addr) (c d : Nat) (L Is : List Int) (hl : Rds W A (intsV L)) (hi : Rds W B (intsV Is)) (hwf : ∀ y ∈ Is, -9223372036854775808 ≤ y ∧ y ≤ 9223372036854775807) :
    Calls Try.prog 10 #[.agg #[.int .i64 K, .slice A L.length c, .slice B Is.length d]] W fun e w' => e = .returned (.bool true) ∧ Below W.heap.size W w' := by
  have HL := Lib.hid hl
  have HI := Lib.hid hi
  have HW := Lib.hid hwf
  clear hl hi hwf
  generalize hq : heavyV L Is = u
  have HQ := Lib.hid hq
  clear hq
  go_enter Try.func10, Try.ntmps10
  go_wp2_with fail
  obtain ⟨w0, hw0⟩ : ∃ w0, w0 = W.alloc (.cells #[.int .i64 K, .slice A L.length c, .slice B Is.length d] 43) := ⟨_, rfl⟩
  rw [← hw0]
  have HX0 : Hid (Below W.heap.size W w0) := by rw [hw0]; exact (Below.refl _ _).alloc (Nat.le_refl _) _
  have HC0 : Hid (w0.cell? ⟨W.heap.size, 0, none⟩ = some (.int .i64 K)) := by rw [hw0]; show _ = _; rw [cell_of_row _ _ _ _ _ _ (heap_alloc_new _ _)]; rfl
  have HC1 : Hid (w0.cell? ⟨W.heap.size, 1, none⟩ = some (.slice A L.length c)) := by rw [hw0]; show _ = _; rw [cell_of_row _ _ _ _ _ _ (heap_alloc_new _ _)]; rfl
  have HC2 : Hid (w0.cell? ⟨W.heap.size, 2, none⟩ = some (.slice B Is.length d)) := by rw [hw0]; show _ = _; rw [cell_of_row _ _ _ _ _ _ (heap_alloc_new _ _)]; rfl
  clear hw0
  refine (heavyV_any w0 K A c B d L Is).mono ?_
  rintro e w1 ⟨rfl, hb⟩
  rw [HQ.out]
  have HX1 : Hid (Below W.heap.size W w1) := HX0.out.trans (hb.mono HX0.out.size)
  have HC01 := Lib.hid (cell_ext hb (Nat.le_refl _) HC0.out)
  have HC11 := Lib.hid (cell_ext hb (Nat.le_refl _) HC1.out)
  have HC21 := Lib.hid (cell_ext hb (Nat.le_refl _) HC2.out)
  clear hb HC0 HC1 HC2 HX0
  have k0 := HC01.out
  have k1 := HC11.out
  have k2 := HC21.out
  cases u with
  | true =>
    go_wp2
    go_ret
    exact ⟨rfl, HX1.out⟩
  | false =>
    obtain ⟨hn6, hm6⟩ := heavyV_light HQ.out
    go_wp2_with fail
    clear k0 k1 k2
    refine (madeV_any w1 K A c B Is.length d L hn6 (HL.out.ext HX1.out (Nat.le_refl _))).mono ?_
    rintro e w2 ⟨hb, hpost⟩
    have HX2 : Hid (Below W.heap.size W w2) := HX1.out.trans (hb.mono HX1.out.size)
    have HK0 := Lib.hid (cell_ext hb (Nat.le_refl _) HC01.out)
    have HK1 := Lib.hid (cell_ext hb (Nat.le_refl _) HC11.out)
    have HK2 := Lib.hid (cell_ext hb (Nat.le_refl _) HC21.out)
    replace HL := Lib.hid (HL.out.ext HX2.out (Nat.le_refl _))
    replace HI := Lib.hid (HI.out.ext HX2.out (Nat.le_refl _))
    clear hb HX1 HC01 HC11 HC21 HQ
    rcases hpost with ⟨hno, rfl⟩ | ⟨hok, p, D, lo, rfl, hkD, hD9, ht⟩
    · clear hno
      have HXF := HX2
      go_wp2_with fail
      refine (wakesV _).mono ?_
      rintro e w9 ⟨rfl, hb⟩
      go_wp2
      go_ret
      exact ⟨rfl, HXF.out.trans (hb.mono HXF.out.size)⟩
    · have hlt := okTree_lt hok
      have hnats := okTree_nats hok
      obtain ⟨k, rfl⟩ : ∃ k : Nat, K = (k : Int) := ⟨K.toNat, by have := hok.1; omega⟩
      obtain ⟨M, hM⟩ : ∃ M, M = L.map Int.toNat := ⟨_, rfl⟩
      rw [← hM] at ht hlt hnats
      have hml : M.length = L.length := by rw [hM, List.length_map]
      rw [Int.toNat_natCast] at ht hkD hlt
      have hk1 : 1 ≤ k := by have := hok.1; omega
      have hk2 : k ≤ 512 := by have := hok.2.1; omega
      have HMM := Lib.hid hM
      have HML := Lib.hid hml
      have HLT := Lib.hid hlt
      have HNA := Lib.hid hnats
      have HT := Lib.hid ht
      have HKD := Lib.hid hkD
      have HD9 := Lib.hid hD9
      clear hM hml hlt hnats ht hok hkD hD9
      have HLN : Hid (∀ q, Calls Try.prog 34 #[.pointer (some ⟨p, 0, none⟩)] (w2.drewN q) fun e w' => e = .returned (.int .i64 (L.length : Int)) ∧ w2.drewN q = w') := Lib.hid fun q => by
        have h := tLen_any (HT.out.ext (drawn_below w2 q) (Nat.le_refl _))
        rwa [HML.out] at h
      have HKN : Hid (∀ q, Calls Try.prog 35 #[.pointer (some ⟨p, 0, none⟩)] (w2.drewN q) fun e w' => e = .returned (.int .i64 (k : Int)) ∧ w2.drewN q = w') := Lib.hid fun q => tKinds_any (HT.out.ext (drawn_below w2 q) (Nat.le_refl _)) hk2
      have c0 := HK0.out
      have c1 := HK1.out
      have e1 : ((L.length : Int) != (L.length : Int)) = false := by simp
      have e2 : ((k : Int) != (k : Int)) = false := by simp
      go_upto_region 6 with (fail)
      go_quiet (first
        | (go_at_call 34; first | exact Calls.q_same (HLN.out _) | exact Calls.quiet_of (HLN.out 0))
        | (go_at_call 35; first | exact Calls.q_same (HKN.out _) | exact Calls.quiet_of (HKN.out 0)))
      have HB0 : Hid (Below w2.heap.size w2 (w2.drewN nq)) := Lib.hid (drawn_below w2 nq)
      clear c0 c1 e1 e2
      go_wp2
      go_loopw [5] (fun i wr => ∃ n : Int, -2 ≤ n ∧ n ≤ (L.length : Int) + 2 ∧ i = .int .i64 n ∧ Hid (Below w2.heap.size w2 wr)) (fun i _ => ((L.length : Int) + 2 - intOf i).toNat)
      case atStart => exact ⟨-2, by omega, by omega, rfl, HB0⟩
      case round =>
        clear HB0
        obtain ⟨i, hi0, hi, rfl, HB⟩ := hrel
        have c1 := cell_ext HB.out (Nat.le_refl _) HK1.out
        have HTQ := Lib.hid (HT.out.ext HB.out (Nat.le_refl _))
        have HC1 : Hid (∀ w', Below w2.heap.size w2 w' → w'.cell? ⟨W.heap.size, 1, none⟩ = some (.slice A L.length c)) := Lib.hid fun w' h => cell_ext h (Nat.le_refl _) HK1.out
        by_cases h1 : i ≤ (L.length : Int) + 1
        · by_cases hi1 : i < 0
          · have HF := Lib.hid (tAccess_out HTQ.out i (.inl hi1))
            go_wp2_with fail
            refine HF.out.mono ?_
            rintro e w4 ⟨rfl, hb4⟩
            have HB4 : Hid (Below w2.heap.size w2 w4) := Lib.hid (HB.out.trans (hb4.mono HB.out.size))
            clear hb4 c1
            go_wp2_with (go_at_call 31; refine (toldV_bad _ _ 3 (by decide)).mono ?_; rintro e wq ⟨rfl, rfl⟩)
            go_roundw
            case rel => exact ⟨i + 1, by omega, by omega, by go_num, HB4⟩
            case measure => simp [intOf]; omega
          · by_cases hi2 : (L.length : Int) ≤ i
            · have HF := Lib.hid (tAccess_out HTQ.out i (.inr (by rw [HML.out]; exact hi2)))
              go_wp2_with fail
              refine HF.out.mono ?_
              rintro e w4 ⟨rfl, hb4⟩
              have HB4 : Hid (Below w2.heap.size w2 w4) := Lib.hid (HB.out.trans (hb4.mono HB.out.size))
              clear hb4 c1
              have c1 := HC1.out _ HB4.out
              go_wp2_with (go_at_call 31; refine (toldV_bad _ _ 3 (by decide)).mono ?_; rintro e wq ⟨rfl, rfl⟩)
              go_roundw
              case rel => exact ⟨i + 1, by omega, by omega, by go_num, HB4⟩
              case measure => simp [intOf]; omega
            · obtain ⟨i, rfl⟩ : ∃ z : Nat, i = (z : Int) := ⟨i.toNat, by omega⟩
              have hil : i < L.length := by omega
              obtain ⟨x, hx⟩ : ∃ x, M[i]? = some x := ⟨_, List.getElem?_eq_getElem (by rw [HML.out]; exact hil)⟩
              have HF := Lib.hid (tAccess_in HTQ.out HD9.out hk2 HKD.out (by rw [HML.out]; omega) HLT.out i x hx)
              have HLX : Hid (∀ w', Below w2.heap.size w2 w' → ∃ a, A = some a ∧ w'.cell? (a.add i) = some (.int .i64 (x : Int))) := Lib.hid fun w' h => (HL.out.ext h (Nat.le_refl _)) i _ (by rw [← HNA.out]; exact natsC_at hx)
              clear hx
              go_wp2_with fail
              refine HF.out.mono ?_
              rintro e w4 ⟨rfl, hb4⟩
              have HB4 : Hid (Below w2.heap.size w2 w4) := Lib.hid (HB.out.trans (hb4.mono HB.out.size))
              clear hb4 c1
              have c1 := HC1.out _ HB4.out
              obtain ⟨a, rfl, hc⟩ := HLX.out _ HB4.out
              have hili : (i : Int) < (L.length : Int) := by omega
              go_wp2_with (go_at_call 31; refine (toldV_ok _ _).mono ?_; rintro e wq ⟨rfl, rfl⟩)
              go_roundw
              case rel => exact ⟨(i : Int) + 1, by omega, by omega, by go_num, HB4⟩
              case measure => simp [intOf]; omega
        · have HXF : Hid (Below W.heap.size W wr) := HX2.out.trans (HB.out.mono HX2.out.size)
          go_wp2_with fail
          refine (wakesV _).mono ?_
          rintro e w9 ⟨rfl, hb⟩
          go_wp2
          go_ret
          exact ⟨rfl, HXF.out.trans (hb.mono HXF.out.size)⟩
end Go.Proofs.Ytgohpblcaafliaa
