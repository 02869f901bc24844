/- The walk of the law BitsBack. -/
import Derived.Test.YtgohpblcaafliaaSel
set_option linter.unusedVariables false
set_option linter.unusedSimpArgs false
namespace Go.Proofs.Ytgohpblcaafliaa
open Go.RowKit Lec


set_option maxRecDepth 100000 in
set_option maxHeartbeats 4000000 in
theorem BitsBack_walk (W : World) (A B : Option Addr) (c d : Nat) (L : List Bool) (Is : List Int) (hl : Rds W A (boolsV L)) (hi : Rds W B (intsV Is)) (hwf : ∀ y ∈ Is, -9223372036854775808 ≤ y ∧ y ≤ 9223372036854775807) :
    Calls Try.prog 7 #[.agg #[.slice A L.length c, .slice B Is.length d]] W fun e w' => e = .returned (.bool true) ∧ Below W.heap.size W w' := by
  have HL := Lib.hid hl
  have HI := Lib.hid hi
  have HW := Lib.hid hwf
  clear hl hi hwf
  generalize hq : heavyB L Is = u
  have HQ := Lib.hid hq
  clear hq
  go_enter Try.func7, Try.ntmps7
  go_wp2_with fail
  obtain ⟨w0, hw0⟩ : ∃ w0, w0 = W.alloc (.cells #[.slice A L.length c, .slice B Is.length d] 25) := ⟨_, rfl⟩
  rw [← hw0]
  have HX0 : Hid (Below W.heap.size W w0) := by rw [hw0]; exact (Below.refl _ _).alloc (Nat.le_refl _) _
  have HC0 : Hid (w0.cell? ⟨W.heap.size, 0, none⟩ = some (.slice A L.length c)) := by rw [hw0]; show _ = _; rw [cell_of_row _ _ _ _ _ _ (heap_alloc_new _ _)]; rfl
  have HC1 : Hid (w0.cell? ⟨W.heap.size, 1, none⟩ = some (.slice B Is.length d)) := by rw [hw0]; show _ = _; rw [cell_of_row _ _ _ _ _ _ (heap_alloc_new _ _)]; rfl
  clear hw0
  refine (heavyB_any w0 A L.length c B Is.length d L Is rfl rfl).mono ?_
  rintro e w1 ⟨rfl, hb⟩
  rw [HQ.out]
  have HX1 : Hid (Below W.heap.size W w1) := HX0.out.trans (hb.mono HX0.out.size)
  have HC01 := Lib.hid (cell_ext hb (Nat.le_refl _) HC0.out)
  have HC11 := Lib.hid (cell_ext hb (Nat.le_refl _) HC1.out)
  clear hb HC0 HC1 HX0
  have k0 := HC01.out
  have k1 := HC11.out
  cases u with
  | true =>
    go_wp2
    go_ret
    exact ⟨rfl, HX1.out⟩
  | false =>
    obtain ⟨hn6, hm6⟩ := heavyB_light HQ.out
    go_wp2_with fail
    clear k0 k1
    refine (madeB_any w1 A L.length c B Is.length d L rfl hn6 (HL.out.ext HX1.out (Nat.le_refl _))).mono ?_
    rintro e w2 ⟨p, rfl, hv, hb⟩
    have HX2 : Hid (Below W.heap.size W w2) := HX1.out.trans (hb.mono HX1.out.size)
    have k0 := cell_ext hb (Nat.le_refl _) HC01.out
    have k1 := cell_ext hb (Nat.le_refl _) HC11.out
    have HK0 := Lib.hid k0
    have HK1 := Lib.hid k1
    have HV := Lib.hid hv
    replace HL := Lib.hid (HL.out.ext HX2.out (Nat.le_refl _))
    replace HI := Lib.hid (HI.out.ext HX2.out (Nat.le_refl _))
    have hn1 : L.length ≤ 1048576 := by omega
    clear hb hv HX1 HC01 HC11 HQ
    have HR := Lib.hid (Rank_in w2 p L HV.out hn1 L.length (Nat.le_refl _))
    have hcl := rank_le L L.length
    have HN0 := Lib.hid (cntB_false L L.length (Nat.le_refl _))
    have HN1 := Lib.hid (cntB_true L L.length)
    generalize rankB L L.length = all at *
    have hall0 : ¬ (all : Int) < 0 := by omega
    have hall1 : ¬ (L.length : Int) < (all : Int) := by omega
    go_wp2_with fail
    refine HR.out.mono ?_
    rintro e wq ⟨rfl, q, rfl⟩
    go_wp2_with (go_at_call 17; refine (num1 _ _).mono ?_; rintro e wq ⟨rfl, rfl⟩)
    have hfl : (L.length < all) = False := eq_false (by omega)
    have hf0 : ((all : Int) < 0) = False := eq_false (by omega)
    simp only [hfl, hf0, decide_false, Bool.or_false, Bool.or_self]
    clear hfl hf0
    go_loopw [6] (fun i wr => ∃ k : Nat, k ≤ all ∧ i = .int .i64 (k : Int) ∧ Hid (Below w2.heap.size w2 wr)) (fun i _ => all - (intOf i).toNat)
    case atStart => exact ⟨0, by omega, rfl, Lib.hid (drawn_below w2 q)⟩
    case round =>
      obtain ⟨k, hk, rfl, HB⟩ := hrel
      clear k0 k1
      by_cases hka : k < all
      · have hki : (k : Int) < (all : Int) := by omega
        have hkk : ((k : Int) != (k : Int)) = false := by simp
        obtain ⟨r, hr, g1, g2, g3⟩ := nth_place true L k (by have := HN1.out; omega)
        have hvr := HV.out.ext HB.out (Nat.le_refl _)
        have HS := Lib.hid (Select_in wr p L hvr hn1 r k hr g1 g2)
        have HRK : Hid (∀ w', Below wr.heap.size wr w' → Calls Try.prog 16 #[.pointer (some ⟨p, 0, none⟩), .int .i64 (r : Int)] w' fun e w'' => e = .returned (.tuple #[.int .i64 (k : Int), .int .i64 0]) ∧ ∃ q, w'.drewN q = w'') := fun w' h => by have h9 := Rank_in w' p L (hvr.ext h (Nat.le_refl _)) hn1 r (by omega); rw [← cntB_true, g1] at h9; exact h9
        have HGT : Hid (∀ w', Below wr.heap.size wr w' → Calls Try.prog 21 #[.pointer (some ⟨p, 0, none⟩), .int .i64 (r : Int)] w' fun e w'' => e = .returned (.tuple #[.bool true, .int .i64 0]) ∧ w' = w'') := fun w' h => by have h9 := Get_in w' p L (hvr.ext h (Nat.le_refl _)) hn1 r hr; rw [(List.getElem?_eq_some_iff.1 g3).2] at h9; exact h9
        clear g1 g2 g3 hvr hr
        go_wp2_with fail
        refine HS.out.mono ?_
        rintro e w3 ⟨rfl, hb3⟩
        have HB3 := Lib.hid hb3
        clear hb3
        go_wp2_with fail
        refine (HRK.out _ HB3.out).mono ?_
        rintro e w4 ⟨rfl, q4, rfl⟩
        go_wp2_with fail
        refine (HGT.out _ (HB3.out.trans ((drawn_below w3 q4).mono HB3.out.size))).mono ?_
        rintro e w5 ⟨rfl, rfl⟩
        go_wp2_with (go_at_call 17; refine (num1 _ _).mono ?_; rintro e wq ⟨rfl, rfl⟩)
        go_roundw
        case rel => exact ⟨k + 1, by omega, by go_num, Lib.hid (HB.out.trans ((HB3.out.trans ((drawn_below w3 q4).mono HB3.out.size)).mono HB.out.size))⟩
        case measure => simp [intOf]; omega
      · obtain rfl : k = all := by omega
        have hki : ¬ (k : Int) < (k : Int) := by omega
        go_wp2
        go_loopw [13] (fun i wr => ∃ m : Nat, m ≤ L.length - k ∧ i = .int .i64 (m : Int) ∧ Hid (Below w2.heap.size w2 wr)) (fun i _ => L.length - k - (intOf i).toNat)
        case atStart => exact ⟨0, by omega, rfl, HB⟩
        case round =>
          obtain ⟨m, hm, rfl, HB⟩ := hrel
          have k0 := cell_ext HB.out (Nat.le_refl _) HK0.out
          by_cases hma : m < L.length - k
          · have hmi : (m : Int) < (L.length : Int) - (k : Int) := by omega
            obtain ⟨r, hr, g1, g2, g3⟩ := nth_place false L m (by have := HN0.out; omega)
            have hvr := HV.out.ext HB.out (Nat.le_refl _)
            have HS := Lib.hid (Select0_in wr p L hvr hn1 r m hr g1 g2)
            have hrl := rank_le L r
            have hre := cntB_false L r (by omega)
            have HRK : Hid (∀ w', Below wr.heap.size wr w' → Calls Try.prog 16 #[.pointer (some ⟨p, 0, none⟩), .int .i64 (r : Int)] w' fun e w'' => e = .returned (.tuple #[.int .i64 (rankB L r : Int), .int .i64 0]) ∧ ∃ q, w'.drewN q = w'') := fun w' h => Rank_in w' p L (hvr.ext h (Nat.le_refl _)) hn1 r (by omega)
            have HGT : Hid (∀ w', Below wr.heap.size wr w' → Calls Try.prog 21 #[.pointer (some ⟨p, 0, none⟩), .int .i64 (r : Int)] w' fun e w'' => e = .returned (.tuple #[.bool false, .int .i64 0]) ∧ w' = w'') := fun w' h => by have h9 := Get_in w' p L (hvr.ext h (Nat.le_refl _)) hn1 r hr; rw [(List.getElem?_eq_some_iff.1 g3).2] at h9; exact h9
            generalize rankB L r = x at *
            have hrm : ((r : Int) - (x : Int) != (m : Int)) = false := by rw [bne_eq_false_iff_eq]; omega
            have hr6 : r ≤ 600 := by omega
            clear g1 g2 g3 hvr hr hre
            go_wp2_with fail
            refine HS.out.mono ?_
            rintro e w3 ⟨rfl, hb3⟩
            have HB3 := Lib.hid hb3
            clear hb3
            go_wp2_with fail
            refine (HRK.out _ HB3.out).mono ?_
            rintro e w4 ⟨rfl, q4, rfl⟩
            go_wp2_with fail
            refine (HGT.out _ (HB3.out.trans ((drawn_below w3 q4).mono HB3.out.size))).mono ?_
            rintro e w5 ⟨rfl, rfl⟩
            go_wp2_with (go_at_call 17; refine (num1 _ _).mono ?_; rintro e wq ⟨rfl, rfl⟩)
            go_roundw
            case rel => exact ⟨m + 1, by omega, by go_num, Lib.hid (HB.out.trans ((HB3.out.trans ((drawn_below w3 q4).mono HB3.out.size)).mono HB.out.size))⟩
            case measure => simp [intOf]; omega
          · obtain rfl : m = L.length - k := by omega
            have hmi : ¬ ((L.length - k : Nat) : Int) < (L.length : Int) - (k : Int) := by omega
            have hvr := HV.out.ext HB.out (Nat.le_refl _)
            have HS := Lib.hid (Select_out wr p L hvr hn1 (k : Int) (Or.inr (by have := HN1.out; omega)))
            have HS0 : Hid (∀ w', Below wr.heap.size wr w' → Calls Try.prog 24 #[.pointer (some ⟨p, 0, none⟩), .int .i64 ((L.length : Int) - (k : Int))] w' fun e w'' => e = .returned (.tuple #[.int .i64 0, .int .i64 3]) ∧ Below w'.heap.size w' w'') := fun w' h => Select0_out w' p L (hvr.ext h (Nat.le_refl _)) hn1 _ (Or.inr (by have := HN0.out; omega))
            have HX3 : Hid (Below W.heap.size W wr) := HX2.out.trans (HB.out.mono HX2.out.size)
            clear hvr
            go_wp2_with fail
            refine HS.out.mono ?_
            rintro e w3 ⟨rfl, hb3⟩
            have HB3 := Lib.hid hb3
            have k0 := cell_ext hb3 (Nat.le_refl _) k0
            clear hb3
            go_wp2_with fail
            refine (HS0.out _ HB3.out).mono ?_
            rintro e w4 ⟨rfl, hb4⟩
            have HX4 : Hid (Below W.heap.size W w4) := HX3.out.trans ((HB3.out.trans (hb4.mono HB3.out.size)).mono HX3.out.size)
            clear hb4 HB3 HX3 k0
            go_wp2_with (first | (go_at_call 17; refine (num1 _ _).mono ?_; rintro e wq ⟨rfl, rfl⟩) | (go_at_call 20; refine (wakesB _).mono ?_; rintro e w9 ⟨rfl, hb⟩))
            go_ret
            exact ⟨rfl, HX4.out.trans (hb.mono HX4.out.size)⟩
end Go.Proofs.Ytgohpblcaafliaa
