/- The walk of the law BoundsTexts. -/
import Derived.Test.YthibhndeejichaaAsk7
set_option linter.unusedVariables false
set_option linter.unusedSimpArgs false
namespace Go.Proofs.Ythibhndeejichaa
open Go.RowKit Lec

set_option maxRecDepth 100000 in
set_option maxHeartbeats 1000000 in
theorem BoundsTexts_walk (W : World) (A B : Option Addr) (c d : Nat) (L Is : List Int) (hr : Rds W A (intsI L)) (hw : ∀ x ∈ L, -9223372036854775808 ≤ x ∧ x ≤ 9223372036854775807) (hri : Rds W B (intsI Is)) (hwi : ∀ x ∈ Is, -9223372036854775808 ≤ x ∧ x ≤ 9223372036854775807) :
    Calls Try.prog 11 #[.agg #[.slice A L.length c, .slice B Is.length d]] W fun e w' => e = .returned (.bool true) ∧ Below W.heap.size W w' := by
  have HW := Lib.hid hw
  have HRL := Lib.hid hr
  have HRI := Lib.hid hri
  have HWI := Lib.hid hwi
  clear hr hw hri hwi
  go_enter Try.func11, Try.ntmps11
  go_wp2_with fail
  have hb0 : Below W.heap.size W (W.alloc (.cells #[.slice A L.length c, .slice B Is.length d] 53)) := (Below.refl _ _).alloc (Nat.le_refl _) _
  have hc0 : (W.alloc (.cells #[.slice A L.length c, .slice B Is.length d] 53)).cell? ⟨W.heap.size, 0, none⟩ = some (.slice A L.length c) := by rw [cell_of_row _ _ _ _ _ _ (heap_alloc_new _ _)]; rfl
  have hc1 : (W.alloc (.cells #[.slice A L.length c, .slice B Is.length d] 53)).cell? ⟨W.heap.size, 1, none⟩ = some (.slice B Is.length d) := by rw [cell_of_row _ _ _ _ _ _ (heap_alloc_new _ _)]; rfl
  have HX0 := Lib.hid hb0
  have HC0 := Lib.hid hc0
  have HC1 := Lib.hid hc1
  clear hb0 hc0 hc1
  generalize W.alloc (.cells #[.slice A L.length c, .slice B Is.length d] 53) = w0 at *
  refine (heavy7_any w0 A _ c B _ d L Is rfl rfl).mono ?_
  rintro e w1 ⟨rfl, hb1⟩
  have HX1 := Lib.hid hb1
  clear hb1
  by_cases hh : heavy7 L Is = true
  · rw [hh]
    go_wp2
    go_ret
    exact ⟨rfl, HX0.out.trans (HX1.out.mono HX0.out.size)⟩
  · have hh' : heavy7 L Is = false := by simpa using hh
    have hlt := (heavy7_light hh').1
    rw [hh']
    clear hh hh'
    have hc0 := cell_ext HX1.out (Nat.le_refl _) HC0.out
    have hc1 := cell_ext HX1.out (Nat.le_refl _) HC1.out
    go_wp2_with fail
    refine (made_any w1 A _ c B _ d L rfl hlt HW.out ((HRL.out.ext HX0.out (Nat.le_refl _)).ext HX1.out (Nat.le_refl _))).mono ?_
    rintro e w2 ⟨hb2, hpost⟩
    have HX2 := Lib.hid (HX1.out.trans (hb2.mono HX1.out.size))
    clear hb2 hc0 hc1 HX1
    rcases hpost with ⟨hok, p, rfl, hbn⟩ | ⟨hok, hl, rfl⟩
    · have HOK := Lib.hid hok
      have HB := Lib.hid hbn
      have h64 := hok.2.1
      clear hok hbn
      have hc0 := cell_ext HX2.out (Nat.le_refl _) HC0.out
      have HR2 := Lib.hid ((HRL.out.ext HX0.out (Nat.le_refl _)).ext HX2.out (Nat.le_refl _))
      have hll : (((L.length : Nat) : Int) != ((L.length : Nat) : Int)) = false := by simp
      have hss : (startI L L.length != startI L L.length) = false := by simp
      go_wp2
      go_quiet ((first
        | (go_at_call 38; exact Calls.q_same (bCountS _ p L (Bnd.drew HB.out _)))
        | (go_at_call 37; exact Calls.q_drawn (bAllS _ p L (Bnd.drew HB.out _)))
        | (go_at_call 32; exact Calls.q_same (refStart_any _ A _ c L rfl HOK.out L.length (Nat.le_refl _) HR2.out))))
      have HX3 : Hid (Below w0.heap.size w0 (w2.drewN nq)) := HX2.out.trans ((drawn_below w2 nq).mono HX2.out.size)
      have HB3 : Hid (Bnd (w2.drewN nq) p (startsI L (L.length + 1))) := HB.out
      clear HX2 HB hc0 HR2
      generalize w2.drewN nq = w3 at *
      go_wp2
      go_loopw [5] (fun i wr => ∃ k : Nat, i = .int .i64 ((k : Int) - 1) ∧ k ≤ L.length + 2 ∧ Hid (Below w0.heap.size w0 wr) ∧ Hid (Bnd wr p (startsI L (L.length + 1)))) (fun i _ => (L.length + 1 - intOf i).toNat)
      case atStart => exact ⟨0, rfl, by omega, HX3, HB3⟩
      case round =>
        clear HX3 HB3
        obtain ⟨k, rfl, hk, HX, HB⟩ := hrel
        have hc0 := cell_ext HX.out (Nat.le_refl _) HC0.out
        have HR2 := Lib.hid ((HRL.out.ext HX0.out (Nat.le_refl _)).ext HX.out (Nat.le_refl _))
        by_cases hkl : k ≤ L.length + 1
        · have hki : (k : Int) - 1 ≤ (L.length : Int) := by omega
          by_cases hz : k = 0 ∨ k = L.length + 1
          · have hzi : (k : Int) - 1 < 0 ∨ (L.length : Int) ≤ (k : Int) - 1 := by omega
            have hze : ((k : Int) - 1 < 0) ∨ (((k : Int) - 1 == (L.length : Int)) = true) := by
              rcases hz with h | h
              · left; omega
              · right; rw [beq_iff_eq]; omega
            go_wp2_with fail
            refine (bStartN _ p L _ hzi HB.out).mono ?_
            rintro e wq ⟨rfl, rfl⟩
            go_wp2_with fail
            refine (bSizeN _ p L _ hzi HB.out).mono ?_
            rintro e wq ⟨rfl, rfl⟩
            rcases hze with hze | hze
            · go_wp2_with (go_at_call 34; refine (num7 _ _).mono ?_; rintro e wq ⟨rfl, rfl⟩)
              all_goals exact ⟨⟨k + 1, by refine congrArg _ ?_; omega, by omega, HX, HB⟩, by simp [intOf]; omega⟩
            · go_wp2_with (go_at_call 34; refine (num7 _ _).mono ?_; rintro e wq ⟨rfl, rfl⟩)
              all_goals exact ⟨⟨k + 1, by refine congrArg _ ?_; omega, by omega, HX, HB⟩, by simp [intOf]; omega⟩
          · obtain ⟨i, rfl⟩ : ∃ i, k = i + 1 := ⟨k - 1, by omega⟩
            have hi : i < L.length := by omega
            have hii : ((i + 1 : Nat) : Int) - 1 = (i : Int) := by omega
            rw [hii]
            have hzi : ¬ (i : Int) < 0 := by omega
            have hze : ((i : Int) == (L.length : Int)) = false := by rw [beq_eq_false_iff_ne]; omega
            obtain ⟨a, rfl, hcell⟩ := HR2.out.map i hi
            have hil : (i : Int) < (L.length : Int) := by omega
            have hx1 : (startI L i != startI L i) = false := by simp
            have hx2 : (L[i] != L[i]) = false := by simp
            go_wp2_with fail
            refine (bStartS _ p L i hi HB.out).mono ?_
            rintro e wq ⟨rfl, rfl⟩
            go_wp2_with fail
            refine (bSizeS _ p L HOK.out i hi HB.out).mono ?_
            rintro e wq ⟨rfl, q, rfl⟩
            have HX4 : Hid (Below w0.heap.size w0 (_root_.Go.World.drewN _ q)) := HX.out.trans ((drawn_below _ q).mono HX.out.size)
            have HB4 : Hid (Bnd (_root_.Go.World.drewN _ q) p (startsI L (L.length + 1))) := HB.out
            have HR4 : Hid (Rds (_root_.Go.World.drewN _ q) (some a) (intsI L)) := HR2.out
            have hc4 : (_root_.Go.World.drewN _ q).cell? ⟨W.heap.size, 0, none⟩ = some (.slice (some a) L.length c) := hc0
            have hcell4 : (_root_.Go.World.drewN _ q).cell? (a.add i) = some (.int .i64 L[i]) := hcell
            clear hc0 hcell HR2 HB HX
            generalize _root_.Go.World.drewN _ q = w4 at *
            generalize hLi : L[i] = li at *
            generalize hsi : startI L i = si at *
            go_wp2_with (first
              | (go_at_call 34; refine (num7 _ _).mono ?_; rintro e wq ⟨rfl, rfl⟩)
              | (go_at_call 32; refine (refStart_any w4 (some a) _ c L rfl HOK.out i (by omega) HR4.out).mono ?_; rintro e wq ⟨rfl, rfl⟩; rw [hsi]))
            all_goals exact ⟨⟨i + 2, by refine congrArg _ ?_; omega, by omega, HX4, HB4⟩, by simp [intOf]; omega⟩
        · have hki : ¬ (k : Int) - 1 ≤ (L.length : Int) := by omega
          go_wp2_with (go_at_call 31; refine (wakes7 _).mono ?_; rintro e w4 ⟨rfl, hb4⟩)
          go_ret
          have h3 := HX.out.trans (hb4.mono HX.out.size)
          exact ⟨rfl, HX0.out.trans (h3.mono HX0.out.size)⟩
    · have hl1 : (lensI L != 0) = true := by rw [bne_iff_ne]; exact hl
      go_wp2_with (go_at_call 31; refine (wakes7 _).mono ?_; rintro e w3 ⟨rfl, hb3⟩)
      go_ret
      have h3 := HX2.out.trans (hb3.mono HX2.out.size)
      exact ⟨rfl, HX0.out.trans (h3.mono HX0.out.size)⟩
end Go.Proofs.Ythibhndeejichaa
