/- The walks of machine.MayCommand and of the reference's Command. -/
import Derived.Test.YtpdnkhdnenibgaaCmdW
set_option linter.unusedVariables false
set_option linter.unusedSimpArgs false
namespace Lec
open Go
theorem may_iff (c : Cmd) : mayC c ↔ onlyB c = true ∧ onlyC c = c ∧ c.2.2.2.1.size ≤ 2048 ∧ c.2.2.2.1.size + c.2.2.2.2.size ≤ 2048 := by
  obtain ⟨k, cl, sq, id, tx⟩ := c
  unfold mayC onlyB onlyC
  dsimp only
  by_cases h : 2 ≤ k ∧ k ≤ 4
  · rw [if_pos h, if_pos h, if_pos h]
    have hk1 : ¬ k = 1 := by omega
    have h24 : k = 2 ∨ k = 3 ∨ k = 4 := by omega
    constructor
    · rintro (h1 | ⟨_, h2, h3, h4, h5, h6, h7⟩)
      · exact absurd h1.1 hk1
      · refine ⟨by rw [h2, h3]; rfl, ?_, h6, h7⟩
        rcases h24 with rfl | rfl | rfl
        · simp
        · simp [h5 (by omega)]
        · simp [h4 rfl, h5 (by omega)]
    · rintro ⟨h1, h2, h3, h4⟩
      rw [Bool.and_eq_true] at h1
      refine .inr ⟨h, h1.1, h1.2, fun e => ?_, fun e => ?_, h3, h4⟩
      · subst e; simp at h2; exact h2.1.symm
      · rcases h24 with rfl | rfl | rfl
        · exact absurd rfl e
        · simp at h2; exact h2.symm
        · simp at h2; exact h2.2.symm
  · rw [if_neg h, if_neg h, if_neg h, if_neg (by omega), if_neg (by omega)]
    constructor
    · rintro (⟨h1, h2, h3, h4, h5⟩ | h1)
      · subst h1; subst h2; subst h3; subst h4; subst h5
        exact ⟨by decide, rfl, by decide, by decide⟩
      · exact absurd h1.1 h
    · rintro ⟨h1, h2, h3, h4⟩
      have := of_decide_eq_true h1
      injection h2 with h5 h2; injection h2 with h6 h2; injection h2 with h7 h2; injection h2 with h8 h9
      exact .inl ⟨this, h6.symm, h7.symm, h8.symm, h9.symm⟩
theorem bl_ne {a b : ByteArray} (h : a ≠ b) : (a.toList == b.toList) = false := by
  rw [beq_eq_false_iff_ne]
  intro e
  rw [ByteArray.toList_eq, ByteArray.toList_eq] at e
  refine h ?_
  cases a; cases b
  congr 1
  exact Array.toList_inj.1 e
end Lec
namespace Go.Proofs.Ytpdnkhdnenibgaa
open Go.RowKit Lec
set_option maxRecDepth 100000 in
set_option maxHeartbeats 1000000 in
theorem MayCommand_any (w : World) (c : Cmd) : Calls Try.prog 75 #[cmdV c] w fun e w' => e = .returned (.bool (decide (mayC c))) ∧ Below w.heap.size w w' := by
  have HON := fun w => Lib.hid (only_any w c)
  obtain ⟨u, hu⟩ : ∃ u, u = decide (mayC c) := ⟨_, rfl⟩
  rw [← hu]
  have HU := Lib.hid hu
  clear hu
  obtain ⟨r, hr⟩ : ∃ r, r = onlyC c := ⟨_, rfl⟩
  obtain ⟨v, hv⟩ : ∃ v, v = onlyB c := ⟨_, rfl⟩
  rw [← hr, ← hv] at HON
  have HRR := Lib.hid hr
  have HV := Lib.hid hv
  clear hr hv
  obtain ⟨k, cl, sq, id, tx⟩ := c
  obtain ⟨r0, r1, r2, r3, r4⟩ := r
  unfold cmdV at *
  dsimp only at HON ⊢
  go_enter Try.func75, Try.ntmps75
  go_wp2_with fail
  refine (HON _).out.mono ?_
  rintro e w1 ⟨rfl, hb⟩
  go_upto_region 2 with (fail)
  have hb0 : Below w.heap.size w (w.alloc (.cells #[.int .i64 k, .int .i64 cl, .int .i64 sq, .string id, .string tx] 61)) := (Below.refl _ _).alloc (Nat.le_refl _) _
  have hc1 := (Cm.new w (k, cl, sq, id, tx) 61).ext hb (Nat.le_refl _)
  have hx1 := hb0.trans (hb.mono hb0.size)
  obtain ⟨w2, hw2⟩ : ∃ w2, w2 = w1.alloc (.cells #[.int .i64 r0, .int .i64 r1, .int .i64 r2, .string r3, .string r4] 61) := ⟨_, rfl⟩
  have hb2 : Below w1.heap.size w1 w2 := by rw [hw2]; exact (Below.refl _ _).alloc (Nat.le_refl _) _
  have HC := Lib.hid (hc1.ext hb2 (Nat.le_refl _))
  have HZ : Hid (Cm w2 w1.heap.size (r0, r1, r2, r3, r4)) := by rw [hw2]; exact Cm.new w1 (r0, r1, r2, r3, r4) _
  have HX : Hid (Below w.heap.size w w2) := hx1.trans (hb2.mono hx1.size)
  rw [← hw2]
  generalize w1.heap.size = q at *
  clear hw2 hb hb0 hc1 hx1 hb2 HON
  obtain ⟨c0, c1, c2, c3, c4, _, _, _, _, _, _⟩ := HC.out
  obtain ⟨z0, z1, z2, z3, z4, y0, y1, y2, y3, y4, _⟩ := HZ.out
  have hr0 : r0 = k := congrArg (·.1) HRR.out
  subst hr0
  cases v with
  | false =>
    have hu9 : u = false := by rw [HU.out]; exact decide_eq_false (fun h => by have := ((may_iff _).1 h); rw [← HV.out] at this; exact absurd this.1 (by decide))
    clear HV HRR HU
    go_wp2
    go_ret
    exact ⟨by first | rfl | (rw [hu9]; rfl), HX.out⟩
  | true =>
    by_cases h1 : r1 = cl
    · subst h1
      by_cases h2 : r2 = sq
      · subst h2
        by_cases h3 : r3 = id
        · subst h3
          by_cases h4 : r4 = tx
          · subst h4
            have hrr := HRR.out
            by_cases h5 : r3.size ≤ 2048
            · have h5i : (r3.size : Int) ≤ 2048 := by omega
              by_cases h6 : r3.size + r4.size ≤ 2048
              · have h6i : (r4.size : Int) ≤ 2048 - (r3.size : Int) := by omega
                have hu9 : u = true := by rw [HU.out]; exact decide_eq_true ((may_iff _).2 ⟨HV.out.symm, hrr.symm, h5, h6⟩)
                clear HV HRR HU hrr
                go_wp2
                go_ret
                exact ⟨by first | rfl | (rw [hu9]; rfl) | (rw [hu9]; simp; omega) | (simp; omega), HX.out⟩
              · have h6i : ¬ (r4.size : Int) ≤ 2048 - (r3.size : Int) := by omega
                clear hrr
                have hu9 : u = false := by rw [HU.out]; exact decide_eq_false (fun h => by have := ((may_iff _).1 h); exact h6 this.2.2.2)
                clear HV HRR HU
                go_wp2
                go_ret
                exact ⟨by first | rfl | (rw [hu9]; rfl), HX.out⟩
            · have h5i : ¬ (r3.size : Int) ≤ 2048 := by omega
              clear hrr
              have hu9 : u = false := by rw [HU.out]; exact decide_eq_false (fun h => by have := ((may_iff _).1 h); exact h5 this.2.2.1)
              clear HV HRR HU
              go_wp2
              go_ret
              exact ⟨by first | rfl | (rw [hu9]; rfl), HX.out⟩
          · have hb4 := bl_ne h4
            have hu9 : u = false := by rw [HU.out]; exact decide_eq_false (fun h => by have := ((may_iff _).1 h); rw [← HRR.out] at this; exact h4 (congrArg (·.2.2.2.2) this.2.1))
            clear HV HRR HU
            go_wp2
            go_ret
            exact ⟨by first | rfl | (rw [hu9]; rfl), HX.out⟩
        · have hb3 := bl_ne h3
          have hu9 : u = false := by rw [HU.out]; exact decide_eq_false (fun h => by have := ((may_iff _).1 h); rw [← HRR.out] at this; exact h3 (congrArg (·.2.2.2.1) this.2.1))
          clear HV HRR HU
          go_wp2
          go_ret
          exact ⟨by first | rfl | (rw [hu9]; rfl), HX.out⟩
      · have hb2 : (r2 == sq) = false := by rw [beq_eq_false_iff_ne]; exact h2
        have hu9 : u = false := by rw [HU.out]; exact decide_eq_false (fun h => by have := ((may_iff _).1 h); rw [← HRR.out] at this; exact h2 (congrArg (·.2.2.1) this.2.1))
        clear HV HRR HU
        go_wp2
        go_ret
        exact ⟨by first | rfl | (rw [hu9]; rfl), HX.out⟩
    · have hb1 : (r1 == cl) = false := by rw [beq_eq_false_iff_ne]; exact h1
      have hu9 : u = false := by rw [HU.out]; exact decide_eq_false (fun h => by have := ((may_iff _).1 h); rw [← HRR.out] at this; exact h1 (congrArg (·.2.1) this.2.1))
      clear HV HRR HU
      go_wp2
      go_ret
      exact ⟨by first | rfl | (rw [hu9]; rfl), HX.out⟩
end Go.Proofs.Ytpdnkhdnenibgaa
