/- The walk of the law BoundsWhere. -/
import Derived.Test.YthibhndeejichaaAsk7
set_option linter.unusedVariables false
set_option linter.unusedSimpArgs false
namespace Lec
theorem where_some {L : List Int} {p : Int} : nonneg L → 0 ≤ p → p < startI L L.length → ∃ i, i < L.length ∧ startI L i ≤ p ∧ p < startI L (i + 1) := by
  intro h h0 h1
  have : ∀ n, n ≤ L.length → p < startI L n → ∃ i, i < n ∧ startI L i ≤ p ∧ p < startI L (i + 1) := by
    intro n
    induction n with
    | zero => intro _ h; rw [startI_zero] at h; omega
    | succ n ih =>
      intro hn h
      by_cases hp : startI L n ≤ p
      · exact ⟨n, by omega, hp, h⟩
      · obtain ⟨i, hi, h1, h2⟩ := ih (by omega) (by omega)
        exact ⟨i, by omega, h1, h2⟩
  exact this _ (Nat.le_refl _) h1
end Lec
namespace Go.Proofs.Ythibhndeejichaa
open Go.RowKit Lec

set_option maxRecDepth 100000 in
set_option maxHeartbeats 1000000 in
theorem BoundsWhere_walk (W : World) (A B : Option Addr) (c d : Nat) (L Is : List Int) (hr : Rds W A (intsI L)) (hw : ∀ x ∈ L, -9223372036854775808 ≤ x ∧ x ≤ 9223372036854775807) (hri : Rds W B (intsI Is)) (hwi : ∀ x ∈ Is, -9223372036854775808 ≤ x ∧ x ≤ 9223372036854775807) :
    Calls Try.prog 8 #[.agg #[.slice A L.length c, .slice B Is.length d]] W fun e w' => e = .returned (.bool true) ∧ Below W.heap.size W w' := by
  have HW := Lib.hid hw
  have HRL := Lib.hid hr
  have HRI := Lib.hid hri
  have HWI := Lib.hid hwi
  clear hr hw hri hwi
  go_enter Try.func8, Try.ntmps8
  go_wp2_with fail
  have hb0 : Below W.heap.size W (W.alloc (.cells #[.slice A L.length c, .slice B Is.length d] 53)) := (Below.refl _ _).alloc (Nat.le_refl _) _
  have hc0 : (W.alloc (.cells #[.slice A L.length c, .slice B Is.length d] 53)).cell? ⟨W.heap.size, 0, none⟩ = some (.slice A L.length c) := by rw [cell_of_row _ _ _ _ _ _ (heap_alloc_new _ _)]; rfl
  have hc1 : (W.alloc (.cells #[.slice A L.length c, .slice B Is.length d] 53)).cell? ⟨W.heap.size, 1, none⟩ = some (.slice B Is.length d) := by rw [cell_of_row _ _ _ _ _ _ (heap_alloc_new _ _)]; rfl
  have HX0 := Lib.hid hb0
  have HC0 := Lib.hid hc0
  have HC1 := Lib.hid hc1
  clear hb0 hc0 hc1
  generalize W.alloc (.cells #[.slice A L.length c, .slice B Is.length d] 53) = w0 at *
  refine (heavy7_any w0 A _ c B _ d L Is rfl rfl).mono ?_
  rintro e w1 ⟨rfl, hb1⟩
  have HX1 := Lib.hid hb1
  clear hb1
  by_cases hh : heavy7 L Is = true
  · rw [hh]
    go_wp2
    go_ret
    exact ⟨rfl, HX0.out.trans (HX1.out.mono HX0.out.size)⟩
  · have hh' : heavy7 L Is = false := by simpa using hh
    have hlt := (heavy7_light hh').1
    have hlt2 := (heavy7_light hh').2
    rw [hh']
    clear hh hh'
    have hc0 := cell_ext HX1.out (Nat.le_refl _) HC0.out
    have hc1 := cell_ext HX1.out (Nat.le_refl _) HC1.out
    go_wp2_with fail
    refine (made_any w1 A _ c B _ d L rfl hlt HW.out ((HRL.out.ext HX0.out (Nat.le_refl _)).ext HX1.out (Nat.le_refl _))).mono ?_
    rintro e w2 ⟨hb2, hpost⟩
    have HX2 := Lib.hid (HX1.out.trans (hb2.mono HX1.out.size))
    clear hb2 hc0 hc1 HX1
    rcases hpost with ⟨hok, p, rfl, hbn⟩ | ⟨hok, hl, rfl⟩
    · have HOK := Lib.hid hok
      have HB := Lib.hid hbn
      have h64 := hok.2.1
      clear hok hbn
      have hc0 := cell_ext HX2.out (Nat.le_refl _) HC0.out
      have HR2 := Lib.hid ((HRL.out.ext HX0.out (Nat.le_refl _)).ext HX2.out (Nat.le_refl _))
      go_wp2_with fail
      refine (refStart_any w2 A _ c L rfl HOK.out L.length (Nat.le_refl _) HR2.out).mono ?_
      rintro e wq ⟨rfl, rfl⟩
      have hc1 := cell_ext HX2.out (Nat.le_refl _) HC1.out
      go_wp2
      go_loopw [6] (fun i wr => ∃ k : Nat, i = .int .i64 (k : Int) ∧ k ≤ Is.length ∧ Hid (Below w0.heap.size w0 wr) ∧ Hid (Bnd wr p (startsI L (L.length + 1)))) (fun i _ => Is.length - (intOf i).toNat)
      case atStart => exact ⟨0, rfl, by omega, HX2, HB⟩
      case round =>
        clear HX2 HB hc0 hc1 HR2
        obtain ⟨k, rfl, hk, HX, HB⟩ := hrel
        have hc0 := cell_ext HX.out (Nat.le_refl _) HC0.out
        have hc1 := cell_ext HX.out (Nat.le_refl _) HC1.out
        by_cases hkl : k < Is.length
        · have hki : (k : Int) < (Is.length : Int) := by omega
          obtain ⟨b, rfl, hcell⟩ := ((HRI.out.ext HX0.out (Nat.le_refl _)).ext HX.out (Nat.le_refl _)).map k hkl
          generalize Is[k] = at' at *
          by_cases hout : at' < 0 ∨ startI L L.length ≤ at'
          · go_wp2_with fail
            refine (bWhere_none _ p L HOK.out at' hout HB.out).mono ?_
            rintro e w4 ⟨rfl, hb4⟩
            have HX4 := Lib.hid (HX.out.trans (hb4.mono HX.out.size))
            have HB4 := Lib.hid (HB.out.ext hb4 (Nat.le_refl _))
            clear hb4 HX HB hc0 hc1 hcell
            rcases hout with hout | hout
            · go_wp2_with (go_at_call 34; refine (num7 _ _).mono ?_; rintro e wq ⟨rfl, rfl⟩)
              all_goals exact ⟨⟨k + 1, by go_num, by omega, HX4, HB4⟩, by simp [intOf]; omega⟩
            · go_wp2_with (go_at_call 34; refine (num7 _ _).mono ?_; rintro e wq ⟨rfl, rfl⟩)
              all_goals exact ⟨⟨k + 1, by go_num, by omega, HX4, HB4⟩, by simp [intOf]; omega⟩
          · have h0 : ¬ at' < 0 := fun h => hout (.inl h)
            have h1 : ¬ startI L L.length ≤ at' := fun h => hout (.inr h)
            obtain ⟨i, hi, g1, g2⟩ := where_some (L := L) (p := at') HOK.out.1 (by omega) (by omega)
            have G1 := Lib.hid g1
            have G2 := Lib.hid g2
            clear g1 g2 hout
            go_wp2_with fail
            refine (bWhere_any _ p L HOK.out at' i hi G1.out G2.out HB.out).mono ?_
            rintro e w4 ⟨rfl, hb4⟩
            have HX4 := Lib.hid (HX.out.trans (hb4.mono HX.out.size))
            have HB4 := Lib.hid (HB.out.ext hb4 (Nat.le_refl _))
            have hc4 := cell_ext hb4 (Nat.le_refl _) hc0
            have HR4 := Lib.hid ((HRL.out.ext HX0.out (Nat.le_refl _)).ext HX4.out (Nat.le_refl _))
            clear hb4 HX HB hc0 hc1 hcell
            go_wp2_with fail
            refine (refWhere_any w4 A _ c L rfl HOK.out at' i hi G1.out G2.out HR4.out).mono ?_
            rintro e wq ⟨rfl, rfl⟩
            generalize at' - startI L i = kk at *
            have t1 : ((i : Int) != (i : Int)) = false := by simp
            have t2 : (kk != kk) = false := by simp
            go_wp2_with (go_at_call 34; refine (num7 _ _).mono ?_; rintro e wq ⟨rfl, rfl⟩)
            all_goals exact ⟨⟨k + 1, by go_num, by omega, HX4, HB4⟩, by simp [intOf]; omega⟩
        · have hki : ¬ (k : Int) < (Is.length : Int) := by omega
          go_wp2_with (go_at_call 31; refine (wakes7 _).mono ?_; rintro e w4 ⟨rfl, hb4⟩)
          go_ret
          have h3 := HX.out.trans (hb4.mono HX.out.size)
          exact ⟨rfl, HX0.out.trans (h3.mono HX0.out.size)⟩
    · have hl1 : (lensI L != 0) = true := by rw [bne_iff_ne]; exact hl
      go_wp2_with (go_at_call 31; refine (wakes7 _).mono ?_; rintro e w3 ⟨rfl, hb3⟩)
      go_ret
      have h3 := HX2.out.trans (hb3.mono HX2.out.size)
      exact ⟨rfl, HX0.out.trans (h3.mono HX0.out.size)⟩
end Go.Proofs.Ythibhndeejichaa
