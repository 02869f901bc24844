/- The walk of the law BitsRanks. -/
import Derived.Test.YtgohpblcaafliaaRefB
set_option linter.unusedVariables false
set_option linter.unusedSimpArgs false
namespace Go.Proofs.Ytgohpblcaafliaa
open Go.RowKit Lec


set_option maxRecDepth 100000 in
set_option maxHeartbeats 4000000 in
theorem BitsRanks_walk (W : World) (A B : Option Addr) (c d : Nat) (L : List Bool) (Is : List Int) (hl : Rds W A (boolsV L)) (hi : Rds W B (intsV Is)) (hwf : ∀ y ∈ Is, -9223372036854775808 ≤ y ∧ y ≤ 9223372036854775807) :
    Calls Try.prog 3 #[.agg #[.slice A L.length c, .slice B Is.length d]] W fun e w' => e = .returned (.bool true) ∧ Below W.heap.size W w' := by
  have HL := Lib.hid hl
  have HI := Lib.hid hi
  have HW := Lib.hid hwf
  clear hl hi hwf
  generalize hq : heavyB L Is = u
  have HQ := Lib.hid hq
  clear hq
  go_enter Try.func3, Try.ntmps3
  go_wp2_with fail
  obtain ⟨w0, hw0⟩ : ∃ w0, w0 = W.alloc (.cells #[.slice A L.length c, .slice B Is.length d] 25) := ⟨_, rfl⟩
  rw [← hw0]
  have HX0 : Hid (Below W.heap.size W w0) := by rw [hw0]; exact (Below.refl _ _).alloc (Nat.le_refl _) _
  have HC0 : Hid (w0.cell? ⟨W.heap.size, 0, none⟩ = some (.slice A L.length c)) := by rw [hw0]; show _ = _; rw [cell_of_row _ _ _ _ _ _ (heap_alloc_new _ _)]; rfl
  have HC1 : Hid (w0.cell? ⟨W.heap.size, 1, none⟩ = some (.slice B Is.length d)) := by rw [hw0]; show _ = _; rw [cell_of_row _ _ _ _ _ _ (heap_alloc_new _ _)]; rfl
  clear hw0
  refine (heavyB_any w0 A L.length c B Is.length d L Is rfl rfl).mono ?_
  rintro e w1 ⟨rfl, hb⟩
  rw [HQ.out]
  have HX1 : Hid (Below W.heap.size W w1) := HX0.out.trans (hb.mono HX0.out.size)
  have HC01 := Lib.hid (cell_ext hb (Nat.le_refl _) HC0.out)
  have HC11 := Lib.hid (cell_ext hb (Nat.le_refl _) HC1.out)
  clear hb HC0 HC1 HX0
  have k0 := HC01.out
  have k1 := HC11.out
  cases u with
  | true =>
    go_wp2
    go_ret
    exact ⟨rfl, HX1.out⟩
  | false =>
    obtain ⟨hn6, hm6⟩ := heavyB_light HQ.out
    go_wp2_with fail
    clear k0 k1
    refine (madeB_any w1 A L.length c B Is.length d L rfl hn6 (HL.out.ext HX1.out (Nat.le_refl _))).mono ?_
    rintro e w2 ⟨p, rfl, hv, hb⟩
    have HX2 : Hid (Below W.heap.size W w2) := HX1.out.trans (hb.mono HX1.out.size)
    have k0 := cell_ext hb (Nat.le_refl _) HC01.out
    have k1 := cell_ext hb (Nat.le_refl _) HC11.out
    have HK0 := Lib.hid k0
    have HK1 := Lib.hid k1
    have HV := Lib.hid hv
    replace HL := Lib.hid (HL.out.ext HX2.out (Nat.le_refl _))
    replace HI := Lib.hid (HI.out.ext HX2.out (Nat.le_refl _))
    have hn1 : L.length ≤ 1048576 := by omega
    clear hb hv HX1 HC01 HC11 HQ
    go_wp2
    go_loopw [4, 5] (fun s i wr => ∃ k q : Nat, k ≤ L.length + 1 ∧ i = .int .i64 (k : Int) ∧ s = .int .i64 (rankB L k : Int) ∧ wr = w2.drewN q) (fun _ i _ => L.length + 1 - (intOf i).toNat)
    case atStart => exact ⟨0, 0, by omega, rfl, by simp [rankB], rfl⟩
    case round =>
      obtain ⟨k, q, hk, rfl, rfl, rfl⟩ := hrel
      have hrl := rank_le L k
      by_cases hkl : k ≤ L.length
      · have hkli : (k : Int) ≤ (L.length : Int) := by omega
        have HG := Lib.hid (Rank_in (w2.drewN q) p L (HV.out.drew q) hn1 k hkl)
        by_cases hkn : k < L.length
        · have hkni : (k : Int) < (L.length : Int) := by omega
          obtain ⟨a, rfl, hc⟩ := HL.out.map k hkn
          have HS := Lib.hid (rank_succ L k hkn)
          generalize L[k] = b at *
          generalize rankB L k = r at *
          have hrr : ((r : Int) != (r : Int)) = false := by simp
          go_wp2_with fail
          refine HG.out.mono ?_
          rintro e wq ⟨rfl, q', rfl⟩
          cases b with
          | true =>
            go_wp2_with (go_at_call 17; refine (num1 _ _).mono ?_; rintro e wq ⟨rfl, rfl⟩)
            go_roundw
            case rel => exact ⟨k + 1, q + q', by omega, by go_num, by rw [HS.out]; go_num, by first | rfl | rw [World.drewN_drewN]⟩
            case measure => simp [intOf]; omega
          | false =>
            go_wp2_with (go_at_call 17; refine (num1 _ _).mono ?_; rintro e wq ⟨rfl, rfl⟩)
            go_roundw
            case rel => exact ⟨k + 1, q + q', by omega, by go_num, by rw [HS.out]; go_num, by first | rfl | rw [World.drewN_drewN]⟩
            case measure => simp [intOf]; omega
        · have hkni : ¬ (k : Int) < (L.length : Int) := by omega
          have HS : Hid (rankB L (k + 1) = rankB L k) := by show _ = _; rw [rank_all L k (by omega), rank_all L (k + 1) (by omega)]
          generalize rankB L k = r at *
          have hrr : ((r : Int) != (r : Int)) = false := by simp
          go_wp2_with fail
          refine HG.out.mono ?_
          rintro e wq ⟨rfl, q', rfl⟩
          go_wp2_with (go_at_call 17; refine (num1 _ _).mono ?_; rintro e wq ⟨rfl, rfl⟩)
          go_roundw
          case rel => exact ⟨k + 1, q + q', by omega, by go_num, by rw [HS.out], by first | rfl | rw [World.drewN_drewN]⟩
          case measure => simp [intOf]; omega
      · have hkli : ¬ (k : Int) ≤ (L.length : Int) := by omega
        have HXG : Hid (Below W.heap.size W (w2.drewN q)) := HX2.out.trans ((drawn_below w2 q).mono HX2.out.size)
        have HVG := Lib.hid (HV.out.drew q)
        have HLG : Hid (Rds (w2.drewN q) A (boolsV L)) := HL.out
        have HIG : Hid (Rds (w2.drewN q) B (intsV Is)) := HI.out
        have k0' : (w2.drewN q).cell? ⟨W.heap.size, 0, none⟩ = some (.slice A L.length c) := k0
        have k1' : (w2.drewN q).cell? ⟨W.heap.size, 1, none⟩ = some (.slice B Is.length d) := k1
        clear HX2 HV HL HI k0 k1 HK0 HK1
        generalize w2.drewN q = w3 at *
        go_wp2
        go_loopw [8] (fun i wr => ∃ k q : Nat, k ≤ Is.length ∧ i = .int .i64 k ∧ wr = w3.drewN q) (fun i _ => Is.length - (intOf i).toNat)
        case atStart => exact ⟨0, 0, by omega, rfl, rfl⟩
        case round =>
          obtain ⟨k, q, hk, rfl, rfl⟩ := hrel
          by_cases h1 : k < Is.length
          · have h1i : (k : Int) < (Is.length : Int) := by omega
            have hk0i : (0 : Int) ≤ (k : Int) := by omega
            obtain ⟨a, rfl, hc⟩ := HIG.out.map k h1
            generalize Is[k] = x at *
            by_cases hin : 0 ≤ x ∧ x ≤ L.length
            · obtain ⟨kk, rfl⟩ : ∃ kk : Nat, x = kk := ⟨x.toNat, by omega⟩
              have hkk : kk ≤ L.length := by omega
              have hki0 : (0 : Int) ≤ (kk : Int) := by omega
              have hki2 : (kk : Int) ≤ (L.length : Int) := by omega
              have HR : Hid (∀ w', w'.cell? = w3.cell? → Calls Try.prog 18 #[.slice A L.length c, .bool true, .int .i64 (kk : Int)] w' fun e w'' => e = .returned (.int .i64 (rankB L kk : Int)) ∧ w' = w'') := fun w' hw' => refRank_any w' A L.length c L rfl (by omega) (fun i v hv => by rw [hw']; exact HLG.out i v hv) true kk hkk
              have HG : Hid (∀ n, Calls Try.prog 16 #[.pointer (some ⟨p, 0, none⟩), .int .i64 (kk : Int)] (w3.drewN n) fun e w' => e = .returned (.tuple #[.int .i64 (rankB L kk : Int), .int .i64 0]) ∧ ∃ q, (w3.drewN n).drewN q = w') := fun n => Rank_in (w3.drewN n) p L (HVG.out.drew n) hn1 kk hkk
              generalize rankB L kk = r at *
              go_wp2
              go_quiet (fail)
              go_wp2
              go_quiet ((go_at_call 18; first | exact Calls.q_sum (HR.out _ (by rfl)) | exact Calls.q_same (HR.out _ (by rfl))))
              go_wp2_with fail
              refine (HG.out _).mono ?_
              rintro e wq ⟨rfl, q', rfl⟩
              go_wp2_with (go_at_call 19; refine (told_yes _ _).mono ?_; rintro e wq ⟨rfl, rfl⟩)
              go_roundw
              case rel => exact ⟨k + 1, _, by omega, by go_num, rfl⟩
              case measure => simp [intOf]; omega
            · have HG : Hid (∀ n, Calls Try.prog 16 #[.pointer (some ⟨p, 0, none⟩), .int .i64 x] (w3.drewN n) fun e w' => e = .returned (.tuple #[.int .i64 0, .int .i64 3]) ∧ w3.drewN n = w') := fun n => Rank_out (w3.drewN n) p L (HVG.out.drew n) x (by omega)
              have hout : x < 0 ∨ (0 ≤ x ∧ ¬ x ≤ L.length) := by omega
              rcases hout with ho | ⟨ho, ho2⟩
              · have hd1 : decide (0 ≤ x) = false := decide_eq_false (by omega)
                go_wp2
                go_quiet (fail)
                go_wp2_with fail
                refine (HG.out _).mono ?_
                rintro e wq ⟨rfl, rfl⟩
                go_wp2_with (go_at_call 19; refine (told_no _ _).mono ?_; rintro e wq ⟨rfl, rfl⟩)
                go_roundw
                case rel => exact ⟨k + 1, _, by omega, by go_num, rfl⟩
                case measure => simp [intOf]; omega
              · have hd1 : decide (0 ≤ x) = true := decide_eq_true ho
                have hd2 : decide (x ≤ (L.length : Int)) = false := decide_eq_false ho2
                go_wp2
                go_quiet (fail)
                go_wp2_with fail
                refine (HG.out _).mono ?_
                rintro e wq ⟨rfl, rfl⟩
                go_wp2_with (go_at_call 19; refine (told_no _ _).mono ?_; rintro e wq ⟨rfl, rfl⟩)
                go_roundw
                case rel => exact ⟨k + 1, _, by omega, by go_num, rfl⟩
                case measure => simp [intOf]; omega
          · have h1i : ¬ (k : Int) < (Is.length : Int) := by omega
            have HXF : Hid (Below W.heap.size W (w3.drewN q)) := HXG.out.trans ((drawn_below w3 q).mono HXG.out.size)
            go_wp2_with fail
            refine (wakesB _).mono ?_
            rintro e w9 ⟨rfl, hb⟩
            go_wp2
            go_ret
            exact ⟨rfl, HXF.out.trans (hb.mono HXF.out.size)⟩
end Go.Proofs.Ytgohpblcaafliaa
