/- The walk of the law WaveletBack. -/
import Derived.Test.YtgohpblcaafliaaRefV
set_option linter.unusedVariables false
set_option linter.unusedSimpArgs false
namespace Go.Proofs.Ytgohpblcaafliaa
open Go.RowKit Lec

set_option maxRecDepth 100000 in
set_option maxHeartbeats 4000000 in
theorem WaveletBack_walk (W : World) (K : Int) (A B : Option Addr) (c d : Nat) (L Is : List Int) (hl : Rds W A (intsV L)) (hi : Rds W B (intsV Is)) (hwf : ∀ y ∈ Is, -9223372036854775808 ≤ y ∧ y ≤ 9223372036854775807) :
    Calls Try.prog 13 #[.agg #[.int .i64 K, .slice A L.length c, .slice B Is.length d]] W fun e w' => e = .returned (.bool true) ∧ Below W.heap.size W w' := by
  have HL := Lib.hid hl
  clear hl hi hwf
  generalize hq : heavyV L Is = u
  have HQ := Lib.hid hq
  clear hq
  go_enter Try.func13, Try.ntmps13
  go_wp2_with fail
  obtain ⟨w0, hw0⟩ : ∃ w0, w0 = W.alloc (.cells #[.int .i64 K, .slice A L.length c, .slice B Is.length d] 43) := ⟨_, rfl⟩
  rw [← hw0]
  have HX0 : Hid (Below W.heap.size W w0) := by rw [hw0]; exact (Below.refl _ _).alloc (Nat.le_refl _) _
  have HC0 : Hid (w0.cell? ⟨W.heap.size, 0, none⟩ = some (.int .i64 K)) := by rw [hw0]; show _ = _; rw [cell_of_row _ _ _ _ _ _ (heap_alloc_new _ _)]; rfl
  have HC1 : Hid (w0.cell? ⟨W.heap.size, 1, none⟩ = some (.slice A L.length c)) := by rw [hw0]; show _ = _; rw [cell_of_row _ _ _ _ _ _ (heap_alloc_new _ _)]; rfl
  clear hw0
  refine (heavyV_any w0 K A c B d L Is).mono ?_
  rintro e w1 ⟨rfl, hb⟩
  rw [HQ.out]
  have HX1 : Hid (Below W.heap.size W w1) := HX0.out.trans (hb.mono HX0.out.size)
  have HC01 := Lib.hid (cell_ext hb (Nat.le_refl _) HC0.out)
  have HC11 := Lib.hid (cell_ext hb (Nat.le_refl _) HC1.out)
  clear hb HC0 HC1 HX0
  have k0 := HC01.out
  have k1 := HC11.out
  cases u with
  | true =>
    go_wp2
    go_ret
    exact ⟨rfl, HX1.out⟩
  | false =>
    obtain ⟨hn6, hm6⟩ := heavyV_light HQ.out
    by_cases h40 : 40 < K
    · go_wp2
      go_ret
      exact ⟨rfl, HX1.out⟩
    go_wp2_with fail
    clear k0 k1
    refine (NewW_any w1 A c K L (by omega) (HL.out.ext HX1.out (Nat.le_refl _))).mono ?_
    rintro e w2 ⟨hb, ⟨hno, rfl⟩ | ⟨hok, p, D, rfl, hkD, hD9, ht⟩⟩
    · have HX2 : Hid (Below W.heap.size W w2) := HX1.out.trans (hb.mono HX1.out.size)
      clear hb hno HX1 HC01 HC11 HQ
      have HXF := HX2
      go_wp2_with (go_at_call 40; refine (num3 _ _).mono ?_; rintro e wq ⟨rfl, rfl⟩)
      refine (wakesV _).mono ?_
      rintro e w9 ⟨rfl, hb⟩
      go_wp2
      go_ret
      exact ⟨rfl, HXF.out.trans (hb.mono HXF.out.size)⟩
    · have HX2 : Hid (Below W.heap.size W w2) := HX1.out.trans (hb.mono HX1.out.size)
      have HK0 := Lib.hid (cell_ext hb (Nat.le_refl _) HC01.out)
      have HK1 := Lib.hid (cell_ext hb (Nat.le_refl _) HC11.out)
      clear hb HX1 HC01 HC11 HQ
      have hlt := okTree_lt hok
      obtain ⟨k, rfl⟩ : ∃ k : Nat, K = (k : Int) := ⟨K.toNat, by have := hok.1; omega⟩
      obtain ⟨M, hM⟩ : ∃ M, M = L.map Int.toNat := ⟨_, rfl⟩
      rw [← hM] at ht hlt
      have hml : M.length = L.length := by rw [hM, List.length_map]
      rw [Int.toNat_natCast] at ht hkD hlt
      have hk1 : 1 ≤ k := by have := hok.1; omega
      have hk2 : k ≤ 512 := by have := hok.2.1; omega
      have HML := Lib.hid hml
      have HLT := Lib.hid hlt
      have HKD := Lib.hid hkD
      have HD9 := Lib.hid hD9
      have HTA : Hid (∀ w', Below w2.heap.size w2 w' → TreeN w' p k D M w1.heap.size) := Lib.hid fun w' h => ht.ext h (Nat.le_refl _)
      clear hM hml hlt ht hok hkD hD9 HL
      go_wp2_with (go_at_call 40; refine (num3 _ _).mono ?_; rintro e wq ⟨rfl, rfl⟩)
      go_loopw [5, 6] (fun all i wr => ∃ x : Nat, x ≤ k ∧ i = .int .i64 (x : Int) ∧ all = .int .i64 (Wv.less M x : Int) ∧ Hid (Below w2.heap.size w2 wr)) (fun _ i _ => k - (intOf i).toNat)
      case atStart => exact ⟨0, by omega, rfl, by rw [Wv.less_zero]; rfl, Lib.hid (Below.refl _ _)⟩
      case round =>
        obtain ⟨x, hx, rfl, rfl, HB⟩ := hrel
        have c0 := cell_ext HB.out (Nat.le_refl _) HK0.out
        have c1 := cell_ext HB.out (Nat.le_refl _) HK1.out
        have hml : Wv.less M x ≤ L.length := by rw [← HML.out]; exact Wv.less_le _ _
        by_cases h8 : x < k
        · have h8i : (x : Int) < (k : Int) := by omega
          have HF1 := Lib.hid (tLess_in (HTA.out _ HB.out) hk2 x (by omega))
          have HF2 := Lib.hid (tRank_in (HTA.out _ HB.out) HD9.out hk2 HKD.out (by rw [HML.out]; omega) HLT.out x h8 L.length (by rw [HML.out]; exact Nat.le_refl _))
          rw [show M.take L.length = M by rw [← HML.out, List.take_length]] at HF2
          have HLS : Hid (Wv.less M (x + 1) = Wv.less M x + Wv.eqs M x) := Wv.less_succ x M
          have hel : Wv.eqs M x ≤ L.length := by rw [← HML.out]; exact Wv.eqs_le _ _
          have HSEL : Hid (∀ w', Below w2.heap.size w2 w' → ∀ j, j < Wv.eqs M x → ∃ r, M[r]? = some x ∧ r ≤ L.length ∧ Calls Try.prog 38 #[.pointer (some ⟨p, 0, none⟩), .int .i64 (x : Int), .int .i64 (j : Int)] w' (fun e w'' => e = .returned (.tuple #[.int .i64 (r : Int), .int .i64 0]) ∧ Below w'.heap.size w' w'') ∧
              (∀ w', Below w2.heap.size w2 w' → Calls Try.prog 30 #[.pointer (some ⟨p, 0, none⟩), .int .i64 (x : Int), .int .i64 (r : Int)] w' (fun e w'' => e = .returned (.tuple #[.int .i64 (j : Int), .int .i64 0]) ∧ Below w'.heap.size w' w'')) ∧
              (∀ w', Below w2.heap.size w2 w' → Calls Try.prog 36 #[.pointer (some ⟨p, 0, none⟩), .int .i64 (r : Int)] w' (fun e w'' => e = .returned (.tuple #[.int .i64 (x : Int), .int .i64 0]) ∧ Below w'.heap.size w' w''))) := Lib.hid fun w' h j hj => by
            obtain ⟨r, hr, hre⟩ := nth_sym M x j hj
            have hrl : r ≤ M.length := Nat.le_of_lt (List.getElem?_eq_some_iff.1 hr).1
            refine ⟨r, hr, by rw [← HML.out]; exact hrl, tSelect_in (HTA.out w' h) HD9.out hk2 HKD.out (by rw [HML.out]; omega) HLT.out x r hr j hre hj, fun w' h => ?_, fun w' h => tAccess_in (HTA.out w' h) HD9.out hk2 HKD.out (by rw [HML.out]; omega) HLT.out r x hr⟩
            have := tRank_in (HTA.out w' h) HD9.out hk2 HKD.out (by rw [HML.out]; omega) HLT.out x h8 r hrl
            rwa [hre] at this
          have HEND : Hid (∀ w', Below w2.heap.size w2 w' → Calls Try.prog 38 #[.pointer (some ⟨p, 0, none⟩), .int .i64 (x : Int), .int .i64 (Wv.eqs M x : Int)] w' (fun e w'' => e = .returned (.tuple #[.int .i64 0, .int .i64 3]) ∧ Below w'.heap.size w' w'')) := Lib.hid fun w' h => tSelect_none (HTA.out w' h) hk2 (by rw [HML.out]; omega) x _ h8 (.inr (Int.le_refl _))
          generalize Wv.less M x = s at *
          generalize Wv.eqs M x = n at *
          have hn0 : ¬ (n : Int) < 0 := by omega
          have hn1 : ¬ (L.length : Int) < (n : Int) := by omega
          have hn2 : ¬ L.length < n := by omega
          go_wp2_with fail
          refine HF1.out.mono ?_
          rintro e w3 ⟨rfl, rfl⟩
          go_wp2_with fail
          refine HF2.out.mono ?_
          rintro e w3 ⟨rfl, hb3⟩
          have HB3 : Hid (Below w2.heap.size w2 w3) := Lib.hid (HB.out.trans (hb3.mono HB.out.size))
          clear hb3
          replace c0 := cell_ext HB3.out (Nat.le_refl _) HK0.out
          replace c1 := cell_ext HB3.out (Nat.le_refl _) HK1.out
          go_wp2_with (go_at_call 40; refine (num3 _ _).mono ?_; rintro e wq ⟨rfl, rfl⟩)
          clear c0 c1 hn0 hn1 hn2
          go_loopw [11] (fun i wr => ∃ j : Nat, j ≤ n ∧ i = .int .i64 (j : Int) ∧ Hid (Below w2.heap.size w2 wr)) (fun i _ => n - (intOf i).toNat)
          case atStart => exact ⟨0, by omega, rfl, HB3⟩
          case round =>
            clear HB3 HB HF1 HF2
            obtain ⟨j, hj, rfl, HB⟩ := hrel
            by_cases h9 : j < n
            · have h9i : (j : Int) < (n : Int) := by omega
              obtain ⟨r, hr, hrl, S1, S2, S3⟩ := HSEL.out _ HB.out j h9
              have G1 := Lib.hid S1
              have G2 := Lib.hid S2
              have G3 := Lib.hid S3
              clear hr S1 S2 S3
              go_wp2_with fail
              refine G1.out.mono ?_
              rintro e w4 ⟨rfl, hb4⟩
              have HB4 : Hid (Below w2.heap.size w2 w4) := Lib.hid (HB.out.trans (hb4.mono HB.out.size))
              clear hb4
              go_wp2_with fail
              refine (G2.out _ HB4.out).mono ?_
              rintro e w5 ⟨rfl, hb5⟩
              have HB5 : Hid (Below w2.heap.size w2 w5) := Lib.hid (HB4.out.trans (hb5.mono HB4.out.size))
              clear hb5
              go_wp2_with fail
              refine (G3.out _ HB5.out).mono ?_
              rintro e w6 ⟨rfl, hb6⟩
              have HB6 : Hid (Below w2.heap.size w2 w6) := Lib.hid (HB5.out.trans (hb6.mono HB5.out.size))
              clear hb6
              go_wp2_with (go_at_call 40; refine (num3 _ _).mono ?_; rintro e wq ⟨rfl, rfl⟩)
              go_roundw
              case rel => exact ⟨j + 1, by omega, by go_num, HB6⟩
              case measure => simp [intOf]; omega
            · obtain rfl : j = n := by omega
              have h9i : ¬ (j : Int) < (j : Int) := by omega
              go_wp2_with fail
              refine (HEND.out _ HB.out).mono ?_
              rintro e w4 ⟨rfl, hb4⟩
              have HB4 : Hid (Below w2.heap.size w2 w4) := Lib.hid (HB.out.trans (hb4.mono HB.out.size))
              clear hb4
              go_wp2_with (go_at_call 40; refine (num3 _ _).mono ?_; rintro e wq ⟨rfl, rfl⟩)
              go_roundw
              case rel => exact ⟨x + 1, by omega, by go_num, by rw [HLS.out]; go_num, HB4⟩
              case measure => simp [intOf]; omega
        · obtain rfl : x = k := by omega
          have h8i : ¬ (x : Int) < (x : Int) := by omega
          have HF1 := Lib.hid (tLess_in (HTA.out _ HB.out) hk2 x (Nat.le_refl _))
          have HALL : Wv.less M x = L.length := by rw [← HML.out]; exact Wv.less_all HLT.out
          rw [HALL] at HF1 ⊢
          have HXF : Hid (Below W.heap.size W wr) := HX2.out.trans (HB.out.mono HX2.out.size)
          clear HALL
          go_wp2_with fail
          refine HF1.out.mono ?_
          rintro e w3 ⟨rfl, rfl⟩
          go_wp2_with (go_at_call 40; refine (num3 _ _).mono ?_; rintro e wq ⟨rfl, rfl⟩)
          refine (wakesV _).mono ?_
          rintro e w9 ⟨rfl, hb⟩
          go_wp2
          go_ret
          exact ⟨rfl, HXF.out.trans (hb.mono HXF.out.size)⟩
end Go.Proofs.Ytgohpblcaafliaa
