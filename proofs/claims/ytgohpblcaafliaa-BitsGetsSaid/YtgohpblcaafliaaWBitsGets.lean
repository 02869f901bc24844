/- The walk of the law BitsGets. -/
import Derived.Test.YtgohpblcaafliaaAskB
set_option linter.unusedVariables false
set_option linter.unusedSimpArgs false
namespace Go.Proofs.Ytgohpblcaafliaa
open Go.RowKit Lec


set_option maxRecDepth 100000 in
set_option maxHeartbeats 4000000 in
theorem BitsGets_walk (W : World) (A B : Option Addr) (c d : Nat) (L : List Bool) (Is : List Int) (hl : Rds W A (boolsV L)) (hi : Rds W B (intsV Is)) (hwf : ∀ y ∈ Is, -9223372036854775808 ≤ y ∧ y ≤ 9223372036854775807) :
    Calls Try.prog 4 #[.agg #[.slice A L.length c, .slice B Is.length d]] W fun e w' => e = .returned (.bool true) ∧ Below W.heap.size W w' := by
  have HL := Lib.hid hl
  have HI := Lib.hid hi
  have HW := Lib.hid hwf
  clear hl hi hwf
  generalize hq : heavyB L Is = u
  have HQ := Lib.hid hq
  clear hq
  go_enter Try.func4, Try.ntmps4
  go_wp2_with fail
  obtain ⟨w0, hw0⟩ : ∃ w0, w0 = W.alloc (.cells #[.slice A L.length c, .slice B Is.length d] 25) := ⟨_, rfl⟩
  rw [← hw0]
  have HX0 : Hid (Below W.heap.size W w0) := by rw [hw0]; exact (Below.refl _ _).alloc (Nat.le_refl _) _
  have HC0 : Hid (w0.cell? ⟨W.heap.size, 0, none⟩ = some (.slice A L.length c)) := by rw [hw0]; show _ = _; rw [cell_of_row _ _ _ _ _ _ (heap_alloc_new _ _)]; rfl
  have HC1 : Hid (w0.cell? ⟨W.heap.size, 1, none⟩ = some (.slice B Is.length d)) := by rw [hw0]; show _ = _; rw [cell_of_row _ _ _ _ _ _ (heap_alloc_new _ _)]; rfl
  clear hw0
  refine (heavyB_any w0 A L.length c B Is.length d L Is rfl rfl).mono ?_
  rintro e w1 ⟨rfl, hb⟩
  rw [HQ.out]
  have HX1 : Hid (Below W.heap.size W w1) := HX0.out.trans (hb.mono HX0.out.size)
  have HC01 := Lib.hid (cell_ext hb (Nat.le_refl _) HC0.out)
  have HC11 := Lib.hid (cell_ext hb (Nat.le_refl _) HC1.out)
  clear hb HC0 HC1 HX0
  have k0 := HC01.out
  have k1 := HC11.out
  cases u with
  | true =>
    go_wp2
    go_ret
    exact ⟨rfl, HX1.out⟩
  | false =>
    obtain ⟨hn6, hm6⟩ := heavyB_light HQ.out
    go_wp2_with fail
    clear k0 k1
    refine (madeB_any w1 A L.length c B Is.length d L rfl hn6 (HL.out.ext HX1.out (Nat.le_refl _))).mono ?_
    rintro e w2 ⟨p, rfl, hv, hb⟩
    have HX2 : Hid (Below W.heap.size W w2) := HX1.out.trans (hb.mono HX1.out.size)
    have k0 := cell_ext hb (Nat.le_refl _) HC01.out
    have k1 := cell_ext hb (Nat.le_refl _) HC11.out
    have HK0 := Lib.hid k0
    have HK1 := Lib.hid k1
    have HV := Lib.hid hv
    replace HL := Lib.hid (HL.out.ext HX2.out (Nat.le_refl _))
    replace HI := Lib.hid (HI.out.ext HX2.out (Nat.le_refl _))
    have hn1 : L.length ≤ 1048576 := by omega
    clear hb hv HX1 HC01 HC11 HQ
    go_wp2
    go_loop [4] (fun i => ∃ m : Nat, m ≤ L.length + 2 ∧ i = .int .i64 (-1 + (m : Int))) (fun i => L.length + 2 - (intOf i + 1).toNat)
    case atStart => exact ⟨0, by omega, rfl⟩
    case round =>
      obtain ⟨m, hm, rfl⟩ := hrel
      obtain ⟨z, hz⟩ : ∃ z : Int, z = -1 + (m : Int) := ⟨_, rfl⟩
      rw [← hz]
      have hz1 : -1 ≤ z := by omega
      have hz2 : z ≤ L.length + 1 := by omega
      have HZ := Lib.hid hz
      by_cases hml : z ≤ L.length
      · have hmm : m < L.length + 2 := by omega
        clear hz
        by_cases hin : 0 ≤ z ∧ z < L.length
        · obtain ⟨kk, rfl⟩ : ∃ kk : Nat, z = kk := ⟨z.toNat, by omega⟩
          have hkk : kk < L.length := by omega
          have hki0 : ¬ (kk : Int) < 0 := by omega
          have hki1 : ((kk : Int) == (L.length : Int)) = false := by rw [beq_eq_false_iff_ne]; omega
          have hki2 : (kk : Int) < (L.length : Int) := by omega
          have HG := Lib.hid (Get_in w2 p L HV.out hn1 kk hkk)
          obtain ⟨a, rfl, hc⟩ := HL.out.map kk hkk
          generalize L[kk] = b at *
          have hbb : (b != b) = false := by simp
          go_wp2_with fail
          refine HG.out.mono ?_
          rintro e wq ⟨rfl, rfl⟩
          go_wp2_with (go_at_call 17; refine (num1 _ _).mono ?_; rintro e wq ⟨rfl, rfl⟩)
          go_round
          case rel => exact ⟨m + 1, by omega, by have := HZ.out; exact congrArg (Value.int .i64) (by omega)⟩
          case measure => have := HZ.out; (simp [intOf]) <;> omega
        · have HG := Lib.hid (Get_out w2 p L HV.out z (by omega))
          have hout : z < 0 ∨ z = L.length := by omega
          rcases hout with ho | ho
          · go_wp2_with fail
            refine HG.out.mono ?_
            rintro e wq ⟨rfl, rfl⟩
            go_wp2_with (go_at_call 17; refine (num1 _ _).mono ?_; rintro e wq ⟨rfl, rfl⟩)
            go_round
            case rel => exact ⟨m + 1, by omega, by have := HZ.out; exact congrArg (Value.int .i64) (by omega)⟩
            case measure => have := HZ.out; (simp [intOf]) <;> omega
          · have ho1 : ¬ z < 0 := by omega
            have ho2 : (z == (L.length : Int)) = true := by rw [beq_iff_eq]; exact ho
            have HOZ := Lib.hid ho
            clear ho
            go_wp2_with fail
            refine HG.out.mono ?_
            rintro e wq ⟨rfl, rfl⟩
            go_wp2_with (go_at_call 17; refine (num1 _ _).mono ?_; rintro e wq ⟨rfl, rfl⟩)
            go_round
            case rel => exact ⟨m + 1, by omega, by have := HZ.out; exact congrArg (Value.int .i64) (by omega)⟩
            case measure => have := HZ.out; (simp [intOf]) <;> omega
      · clear hz
        go_wp2
        go_loopw [7] (fun i wr => ∃ k q : Nat, k ≤ Is.length ∧ i = .int .i64 k ∧ wr = w2.drewN q) (fun i _ => Is.length - (intOf i).toNat)
        case atStart => exact ⟨0, 0, by omega, rfl, rfl⟩
        case round =>
          obtain ⟨k, q, hk, rfl, rfl⟩ := hrel
          by_cases h1 : k < Is.length
          · have h1i : (k : Int) < (Is.length : Int) := by omega
            have hk0i : (0 : Int) ≤ (k : Int) := by omega
            obtain ⟨a, rfl, hc⟩ := HI.out.map k h1
            generalize Is[k] = x at *
            by_cases hin : 0 ≤ x ∧ x < L.length
            · obtain ⟨kk, rfl⟩ : ∃ kk : Nat, x = kk := ⟨x.toNat, by omega⟩
              have hkk : kk < L.length := by omega
              have hki0 : (0 : Int) ≤ (kk : Int) := by omega
              have hki2 : (kk : Int) < (L.length : Int) := by omega
              have HG := Lib.hid (Get_in (w2.drewN q) p L (HV.out.drew q) hn1 kk hkk)
              generalize L[kk] = b at *
              go_wp2_with fail
              refine HG.out.mono ?_
              rintro e wq ⟨rfl, rfl⟩
              go_wp2
              go_quiet (fail)
              go_wp2
              go_roundw
              case rel => exact ⟨k + 1, q + nq, by omega, by go_num, by first | rfl | rw [World.drewN_drewN]⟩
              case measure => simp [intOf]; omega
            · have HG := Lib.hid (Get_out (w2.drewN q) p L (HV.out.drew q) x (by omega))
              have hout : x < 0 ∨ (0 ≤ x ∧ ¬ x < L.length) := by omega
              rcases hout with ho | ⟨ho, ho2⟩
              · have hd1 : decide (0 ≤ x) = false := decide_eq_false (by omega)
                go_wp2_with fail
                refine HG.out.mono ?_
                rintro e wq ⟨rfl, rfl⟩
                go_wp2
                go_quiet (fail)
                go_wp2_with (go_at_call 17; refine (num1 _ _).mono ?_; rintro e wq ⟨rfl, rfl⟩)
                go_roundw
                case rel => exact ⟨k + 1, q + nq, by omega, by go_num, by first | rfl | rw [World.drewN_drewN]⟩
                case measure => simp [intOf]; omega
              · have hd1 : decide (0 ≤ x) = true := decide_eq_true ho
                have hd2 : decide (x < (L.length : Int)) = false := decide_eq_false ho2
                go_wp2_with fail
                refine HG.out.mono ?_
                rintro e wq ⟨rfl, rfl⟩
                go_wp2
                go_quiet (fail)
                go_wp2_with (go_at_call 17; refine (num1 _ _).mono ?_; rintro e wq ⟨rfl, rfl⟩)
                go_roundw
                case rel => exact ⟨k + 1, q + nq, by omega, by go_num, by first | rfl | rw [World.drewN_drewN]⟩
                case measure => simp [intOf]; omega
          · have h1i : ¬ (k : Int) < (Is.length : Int) := by omega
            have HXF : Hid (Below W.heap.size W (w2.drewN q)) := HX2.out.trans ((drawn_below w2 q).mono HX2.out.size)
            go_wp2_with fail
            refine (wakesB _).mono ?_
            rintro e w9 ⟨rfl, hb⟩
            go_wp2
            go_ret
            exact ⟨rfl, HXF.out.trans (hb.mono HXF.out.size)⟩
end Go.Proofs.Ytgohpblcaafliaa
