/- The walk of the law BoundsBack. -/
import Derived.Test.YthibhndeejichaaAsk7
set_option linter.unusedVariables false
set_option linter.unusedSimpArgs false
namespace Go.Proofs.Ythibhndeejichaa
open Go.RowKit Lec

set_option maxRecDepth 100000 in
set_option maxHeartbeats 1000000 in
theorem BoundsBack_walk (W : World) (A B : Option Addr) (c d : Nat) (L Is : List Int) (hr : Rds W A (intsI L)) (hw : ∀ x ∈ L, -9223372036854775808 ≤ x ∧ x ≤ 9223372036854775807) (hri : Rds W B (intsI Is)) (hwi : ∀ x ∈ Is, -9223372036854775808 ≤ x ∧ x ≤ 9223372036854775807) :
    Calls Try.prog 10 #[.agg #[.slice A L.length c, .slice B Is.length d]] W fun e w' => e = .returned (.bool true) ∧ Below W.heap.size W w' := by
  have HW := Lib.hid hw
  have HRL := Lib.hid hr
  have HRI := Lib.hid hri
  have HWI := Lib.hid hwi
  clear hr hw hri hwi
  go_enter Try.func10, Try.ntmps10
  go_wp2_with fail
  have hb0 : Below W.heap.size W (W.alloc (.cells #[.slice A L.length c, .slice B Is.length d] 53)) := (Below.refl _ _).alloc (Nat.le_refl _) _
  have hc0 : (W.alloc (.cells #[.slice A L.length c, .slice B Is.length d] 53)).cell? ⟨W.heap.size, 0, none⟩ = some (.slice A L.length c) := by rw [cell_of_row _ _ _ _ _ _ (heap_alloc_new _ _)]; rfl
  have hc1 : (W.alloc (.cells #[.slice A L.length c, .slice B Is.length d] 53)).cell? ⟨W.heap.size, 1, none⟩ = some (.slice B Is.length d) := by rw [cell_of_row _ _ _ _ _ _ (heap_alloc_new _ _)]; rfl
  have HX0 := Lib.hid hb0
  have HC0 := Lib.hid hc0
  have HC1 := Lib.hid hc1
  clear hb0 hc0 hc1
  generalize W.alloc (.cells #[.slice A L.length c, .slice B Is.length d] 53) = w0 at *
  refine (heavy7_any w0 A _ c B _ d L Is rfl rfl).mono ?_
  rintro e w1 ⟨rfl, hb1⟩
  have HX1 := Lib.hid hb1
  clear hb1
  by_cases hh : heavy7 L Is = true
  · rw [hh]
    go_wp2
    go_ret
    exact ⟨rfl, HX0.out.trans (HX1.out.mono HX0.out.size)⟩
  · have hh' : heavy7 L Is = false := by simpa using hh
    have hlt := (heavy7_light hh').1
    have hlt2 := (heavy7_light hh').2
    rw [hh']
    clear hh hh'
    have hc0 := cell_ext HX1.out (Nat.le_refl _) HC0.out
    have hc1 := cell_ext HX1.out (Nat.le_refl _) HC1.out
    go_wp2_with fail
    refine (New_any w1 A _ c L rfl (by omega) HW.out ((HRL.out.ext HX0.out (Nat.le_refl _)).ext HX1.out (Nat.le_refl _))).mono ?_
    rintro e w2 ⟨hb2, hpost⟩
    have HX2 := Lib.hid (HX1.out.trans (hb2.mono HX1.out.size))
    clear hb2 hc0 hc1 HX1
    rcases hpost with ⟨hok, p, rfl, hbn⟩ | ⟨hok, rfl⟩
    · have HOK := Lib.hid hok
      have HB := Lib.hid hbn.bnd
      have h64 := hok.2.1
      have h131 := hok.2.2
      clear hok hbn
      go_wp2_with (go_at_call 34; refine (num7 _ _).mono ?_; rintro e wq ⟨rfl, rfl⟩)
      go_loopw [5, 6] (fun a i wr => ∃ k : Nat, i = .int .i64 (k : Int) ∧ a = .int .i64 (startI L k) ∧ k ≤ L.length ∧ Hid (Below w0.heap.size w0 wr) ∧ Hid (Bnd wr p (startsI L (L.length + 1)))) (fun _ i _ => L.length - (intOf i).toNat)
      case atStart => exact ⟨0, rfl, by rw [startI_zero], by omega, HX2, HB⟩
      case round =>
        clear HX2 HB
        obtain ⟨i, rfl, rfl, hi0, HX, HB⟩ := hrel
        have hc0 := cell_ext HX.out (Nat.le_refl _) HC0.out
        by_cases hil : i < L.length
        · have hii : (i : Int) < (L.length : Int) := by omega
          have HST := Lib.hid (startI_step hil)
          have hx0 := nonneg_at HOK.out.1 hil
          have hlo := startI_nonneg HOK.out.1 (show i ≤ L.length by omega)
          have hhi := startI_le HOK.out.1 (show i + 1 ≤ L.length by omega) (Nat.le_refl _)
          have hst := startI_step hil
          have hxb : L[i] ≤ 131072 := by omega
          have hsb : startI L i + L[i] < 131072 := by omega
          have HWH : Hid (∀ w' kk, 0 ≤ kk → kk ≤ L[i] → Bnd w' p (startsI L (L.length + 1)) → Calls Try.prog 33 #[.pointer (some ⟨p, 0, none⟩), .int .i64 (startI L i + kk)] w' fun e w'' => e = .returned (.tuple #[.int .i64 (i : Int), .int .i64 kk, .int .i64 0]) ∧ Below w'.heap.size w' w'') := by
            intro w' kk h0 h1 hb
            have := bWhere_any w' p L HOK.out (startI L i + kk) i hil (by omega) (by rw [hst]; omega) hb
            rwa [show startI L i + kk - startI L i = kk by omega] at this
          clear hhi hst
          obtain ⟨a, rfl, hcell⟩ := ((HRL.out.ext HX0.out (Nat.le_refl _)).ext HX.out (Nat.le_refl _)).map i hil
          have HCL : Hid (w0.cell? (a.add i) = some (.int .i64 L[i])) := by
            obtain ⟨a', e, h⟩ := (HRL.out.ext HX0.out (Nat.le_refl _)).map i hil
            rw [Option.some.inj e]; exact h
          have t0 : (startI L i != startI L i) = false := by simp
          go_wp2_with fail
          refine (bStartS _ p L i hil HB.out).mono ?_
          rintro e wq ⟨rfl, rfl⟩
          generalize hsi : startI L i = si at *
          generalize hLi : L[i] = li at *
          have t0 : (si != si) = false := by simp
          go_wp2_with (go_at_call 34; refine (num7 _ _).mono ?_; rintro e wq ⟨rfl, rfl⟩)
          go_loopw [9] (fun j wr => ∃ kk : Int, j = .int .i64 kk ∧ 0 ≤ kk ∧ kk ≤ 1000000 ∧ Hid (Below w0.heap.size w0 wr) ∧ Hid (Bnd wr p (startsI L (L.length + 1)))) (fun j _ => (li + 1 - intOf j).toNat)
          case atStart => exact ⟨0, rfl, by omega, by omega, HX, HB⟩
          case round =>
            clear HX HB hc0 hcell
            obtain ⟨kk, rfl, hk0, hk1, HX, HB⟩ := hrel
            have hc0 := cell_ext HX.out (Nat.le_refl _) HC0.out
            have hcell := cell_ext HX.out (Nat.le_refl _) HCL.out
            by_cases hkl : kk ≤ li
            · go_wp2_with fail
              refine (HWH.out _ kk hk0 hkl HB.out).mono ?_
              rintro e w4 ⟨rfl, hb4⟩
              have HX4 := Lib.hid (HX.out.trans (hb4.mono HX.out.size))
              have HB4 := Lib.hid (HB.out.ext hb4 (Nat.le_refl _))
              have hc4 := cell_ext hb4 (Nat.le_refl _) hc0
              have hcell4 := cell_ext hb4 (Nat.le_refl _) hcell
              clear hb4 HX HB hc0 hcell
              have t1 : ((i : Int) != (i : Int)) = false := by simp
              have t2 : (kk != kk) = false := by simp
              go_wp2_with (go_at_call 34; refine (num7 _ _).mono ?_; rintro e wq ⟨rfl, rfl⟩)
              exact ⟨⟨kk + 1 + li / 20, rfl, by omega, by omega, HX4, HB4⟩, by simp [intOf]; omega⟩
            · go_wp2_with fail
              refine (HWH.out _ li (by omega) (by omega) HB.out).mono ?_
              rintro e w4 ⟨rfl, hb4⟩
              have HX4 := Lib.hid (HX.out.trans (hb4.mono HX.out.size))
              have HB4 := Lib.hid (HB.out.ext hb4 (Nat.le_refl _))
              have hc4 := cell_ext hb4 (Nat.le_refl _) hc0
              have hcell4 := cell_ext hb4 (Nat.le_refl _) hcell
              clear hb4 HX HB hc0 hcell
              have t1 : ((i : Int) != (i : Int)) = false := by simp
              have t2 : (li != li) = false := by simp
              go_wp2_with (go_at_call 34; refine (num7 _ _).mono ?_; rintro e wq ⟨rfl, rfl⟩)
              exact ⟨⟨i + 1, by go_num, by rw [HST.out, Int.add_assoc], by omega, HX4, HB4⟩, by simp [intOf]; omega⟩
        · obtain rfl : i = L.length := by omega
          have hii : ¬ (L.length : Int) < (L.length : Int) := by omega
          go_wp2_with fail
          refine (bWhere_none _ p L HOK.out (startI L L.length) (.inr (by omega)) HB.out).mono ?_
          rintro e w4 ⟨rfl, hb4⟩
          have HX4 := Lib.hid (HX.out.trans (hb4.mono HX.out.size))
          have HB4 := Lib.hid (HB.out.ext hb4 (Nat.le_refl _))
          clear hb4 HX HB hc0
          go_wp2_with fail
          refine (bAllS w4 p L HB4.out).mono ?_
          rintro e w5 ⟨rfl, q, rfl⟩
          have HX5 : Hid (Below w0.heap.size w0 (w4.drewN q)) := HX4.out.trans ((drawn_below w4 q).mono HX4.out.size)
          clear HX4 HB4
          generalize w4.drewN q = w5 at *
          have t1 : (startI L L.length == startI L L.length) = true := by simp
          go_wp2_with (first
            | (go_at_call 34; refine (num7 _ _).mono ?_; rintro e wq ⟨rfl, rfl⟩)
            | (go_at_call 31; refine (wakes7 _).mono ?_; rintro e w6 ⟨rfl, hb6⟩))
          go_ret
          have h3 := HX5.out.trans (hb6.mono HX5.out.size)
          exact ⟨rfl, HX0.out.trans (h3.mono HX0.out.size)⟩
    · have hl : lensI L ≠ 0 := by rcases lensI_cases L with h | h | h <;> first | exact absurd h.2 hok | (rw [h.1]; decide)
      have hl1 : (lensI L != 0) = true := by rw [bne_iff_ne]; exact hl
      clear hl hok
      go_wp2_with (first
        | (go_at_call 34; refine (num7 _ _).mono ?_; rintro e wq ⟨rfl, rfl⟩)
        | (go_at_call 31; refine (wakes7 _).mono ?_; rintro e w3 ⟨rfl, hb3⟩))
      go_ret
      have h3 := HX2.out.trans (hb3.mono HX2.out.size)
      exact ⟨rfl, HX0.out.trans (h3.mono HX0.out.size)⟩
end Go.Proofs.Ythibhndeejichaa
