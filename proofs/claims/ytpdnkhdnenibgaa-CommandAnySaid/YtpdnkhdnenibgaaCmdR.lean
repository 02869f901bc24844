/- The walk of the reference's Command. -/
import Derived.Test.YtpdnkhdnenibgaaCmdM
set_option linter.unusedVariables false
set_option linter.unusedSimpArgs false
namespace Go.Proofs.Ytpdnkhdnenibgaa
open Go.RowKit Lec
set_option maxRecDepth 100000 in
set_option maxHeartbeats 4000000 in
theorem refCommand_any (w : World) (c : Cmd) : Calls Try.prog 38 #[cmdV c] w fun e w' => e = .returned (.bool (decide (mayC c))) ∧ Below w.heap.size w w' := by
  obtain ⟨u, hu⟩ : ∃ u, u = decide (mayC c) := ⟨_, rfl⟩
  rw [← hu]
  have HU := Lib.hid hu
  clear hu
  obtain ⟨k, cl, sq, id, tx⟩ := c
  unfold cmdV
  dsimp only
  go_enter Try.func38, Try.ntmps38
  go_upto_region 2 with (fail)
  have hb0 : Below w.heap.size w (w.alloc (.cells #[.int .i64 k, .int .i64 cl, .int .i64 sq, .string id, .string tx] 61)) := (Below.refl _ _).alloc (Nat.le_refl _) _
  obtain ⟨w0, hw0⟩ : ∃ w0, w0 = (w.alloc (.cells #[.int .i64 k, .int .i64 cl, .int .i64 sq, .string id, .string tx] 61)).alloc (.cells #[.int .i64 k, .int .i64 0, .int .i64 0, .string ⟨#[]⟩, .string ⟨#[]⟩] 61) := ⟨_, rfl⟩
  rw [← hw0]
  have HX : Hid (Below w.heap.size w w0) := by rw [hw0]; exact hb0.alloc (by simp) _
  have HC : Hid (Cm w0 w.heap.size (k, cl, sq, id, tx)) := by rw [hw0]; exact (Cm.new w (k, cl, sq, id, tx) _).ext (B := w.heap.size + 1) ((Below.refl _ _).alloc (by simp) _) (by simp)
  have HZ : Hid (Cm w0 (w.heap.size + 1) (k, 0, 0, ⟨#[]⟩, ⟨#[]⟩)) := by rw [hw0]; have := Cm.new (w.alloc (.cells #[.int .i64 k, .int .i64 cl, .int .i64 sq, .string id, .string tx] 61)) (k, 0, 0, ⟨#[]⟩, ⟨#[]⟩) 61; show Cm _ _ _; simpa using this
  clear hw0 hb0
  obtain ⟨em, hem⟩ : ∃ em : ByteArray, em = ⟨#[]⟩ := ⟨_, rfl⟩
  rw [← hem] at HZ
  have HEM := Lib.hid hem
  clear hem
  generalize hq : w.heap.size + 1 = q at *
  have hpq : w.heap.size ≠ q := by omega
  have hwq : w.heap.size ≤ q := by omega
  clear hq
  obtain ⟨c0, c1, c2, c3, c4, _, _, _, _, _, _⟩ := HC.out
  obtain ⟨z0, z1, z2, z3, z4, y0, y1, y2, y3, y4, _⟩ := HZ.out
  have HN1 := Lib.hid (refId_any w0 cl)
  have HN2 := Lib.hid (refId_any w0 sq)
  by_cases h1 : k = 1
  · subst h1
    have HOC : Hid (onlyC (1, cl, sq, id, tx) = (1, 0, 0, em, em)) := by show _ = _; rw [HEM.out]; simp [onlyC]
    by_cases a1 : 0 = cl
    · subst a1
      by_cases a2 : 0 = sq
      · subst a2
        by_cases a3 : em = id
        · subst a3
          by_cases a4 : em = tx
          · subst a4
            have hu9 : u = true := by rw [HU.out, HEM.out]; decide
            clear HU
            go_wp2
            go_ret
            exact ⟨by first | rfl | (rw [hu9]; rfl), HX.out⟩
          · have hb4 := bl_ne a4
            have hu9 : u = false := by rw [HU.out]; exact decide_eq_false (fun h => by have := ((may_iff _).1 h); rw [HOC.out] at this; exact a4 (congrArg (·.2.2.2.2) this.2.1))
            clear HU
            go_wp2_with (go_at_call 78; first | (with_reducible refine HN1.out.mono ?_; rintro e wq ⟨rfl, rfl⟩) | (with_reducible refine HN2.out.mono ?_; rintro e wq ⟨rfl, rfl⟩))
            go_ret
            exact ⟨by first | rfl | (rw [hu9]; rfl) | (rw [hu9]; simp; omega) | (simp; omega), HX.out⟩
        · have hb3 := bl_ne a3
          have hu9 : u = false := by rw [HU.out]; exact decide_eq_false (fun h => by have := ((may_iff _).1 h); rw [HOC.out] at this; exact a3 (congrArg (·.2.2.2.1) this.2.1))
          clear HU
          go_wp2_with (go_at_call 78; first | (with_reducible refine HN1.out.mono ?_; rintro e wq ⟨rfl, rfl⟩) | (with_reducible refine HN2.out.mono ?_; rintro e wq ⟨rfl, rfl⟩))
          go_ret
          exact ⟨by first | rfl | (rw [hu9]; rfl) | (rw [hu9]; simp; omega) | (simp; omega), HX.out⟩
      · have hb2 : ((0 : Int) == sq) = false := by rw [beq_eq_false_iff_ne]; exact a2
        have hu9 : u = false := by rw [HU.out]; exact decide_eq_false (fun h => by have := ((may_iff _).1 h); rw [HOC.out] at this; exact a2 (congrArg (·.2.2.1) this.2.1))
        clear HU
        go_wp2_with (go_at_call 78; first | (with_reducible refine HN1.out.mono ?_; rintro e wq ⟨rfl, rfl⟩) | (with_reducible refine HN2.out.mono ?_; rintro e wq ⟨rfl, rfl⟩))
        go_ret
        exact ⟨by first | rfl | (rw [hu9]; rfl) | (rw [hu9]; simp; omega) | (simp; omega), HX.out⟩
    · have hb1 : ((0 : Int) == cl) = false := by rw [beq_eq_false_iff_ne]; exact a1
      have hu9 : u = false := by rw [HU.out]; exact decide_eq_false (fun h => by have := ((may_iff _).1 h); rw [HOC.out] at this; exact a1 (congrArg (·.2.1) this.2.1))
      clear HU
      go_wp2_with (go_at_call 78; first | (with_reducible refine HN1.out.mono ?_; rintro e wq ⟨rfl, rfl⟩) | (with_reducible refine HN2.out.mono ?_; rintro e wq ⟨rfl, rfl⟩))
      go_ret
      exact ⟨by first | rfl | (rw [hu9]; rfl) | (rw [hu9]; simp; omega) | (simp; omega), HX.out⟩
  · have hk1 : (k == 1) = false := by rw [beq_eq_false_iff_ne]; exact h1
    go_upto_region 4 with (fail)
    go_cut [] (fun wx => Hid (Below w.heap.size w wx) ∧ Hid (Cm wx w.heap.size (k, cl, sq, id, tx)) ∧ Hid (Cm wx q (k, cl, sq, em, em)))
    case first =>
      go_region_held3 (fun w' => w'.cell? ⟨w.heap.size, 1, none⟩ = some (.int .i64 cl) ∧ w'.cell? ⟨w.heap.size, 2, none⟩ = some (.int .i64 sq)) (first | (with_reducible exact ⟨c1, c2⟩) | exact ⟨(cell_set_far _ hpq).trans c1, (cell_set_far _ hpq).trans c2⟩ | exact ⟨(cell_set_far _ hpq).trans ((cell_set_far _ hpq).trans c1), (cell_set_far _ hpq).trans ((cell_set_far _ hpq).trans c2)⟩ | go_keep) (fail)
      all_goals
        go_wp2_with fail
        go_meet
        first
          | exact ⟨below_drew ((HX.out.setCell hwq _).setCell hwq _), ((HC.out.far _ hpq).far _ hpq).drew, ((HZ.out.set1 cl).set2 sq).drew⟩
          | exact ⟨below_drew ((HX.out.setCell hwq _).setCell hwq _), ((HC.out.far _ hpq).far _ hpq).drew, ((HZ.out.set2 sq).set1 cl).drew⟩
    case rest =>
      clear HX HC HZ c0 c1 c2 c3 c4 z0 z1 z2 z3 z4 y0 y1 y2 y3 y4 HN1 HN2
      obtain ⟨HX, HC, HZ⟩ := hcut
      have HN1 := Lib.hid (refId_any wc cl)
      have HN2 := Lib.hid (refId_any wc sq)
      obtain ⟨c0, c1, c2, c3, c4, _, _, _, _, _, _⟩ := HC.out
      obtain ⟨z0, z1, z2, z3, z4, y0, y1, y2, y3, y4, _⟩ := HZ.out
      by_cases h2 : k = 2
      · subst h2
        go_upto_region 8 with (fail)
        go_region_held3 (fun w' => w'.cell? ⟨w.heap.size, 3, none⟩ = some (.string id) ∧ w'.cell? ⟨w.heap.size, 4, none⟩ = some (.string tx)) (first | (with_reducible exact ⟨c3, c4⟩) | exact ⟨(cell_set_far _ hpq).trans c3, (cell_set_far _ hpq).trans c4⟩ | exact ⟨(cell_set_far _ hpq).trans ((cell_set_far _ hpq).trans c3), (cell_set_far _ hpq).trans ((cell_set_far _ hpq).trans c4)⟩ | go_keep) (fail)
        · obtain ⟨w3, hw3⟩ : ∃ w3, w3 = ((wc.setCell ⟨q, 3, none⟩ (.string id)).setCell ⟨q, 4, none⟩ (.string tx)).drew := ⟨_, rfl⟩
          have hx3 : Below w.heap.size w w3 := by rw [hw3]; exact below_drew ((HX.out.setCell hwq _).setCell hwq _)
          have hc3 : Cm w3 w.heap.size (2, cl, sq, id, tx) := by rw [hw3]; exact ((HC.out.far _ hpq).far _ hpq).drew
          have hz3 : Cm w3 q (2, cl, sq, id, tx) := by rw [hw3]; exact ((HZ.out.set3 id).set4 tx).drew
          rw [← hw3]
          clear hw3 HX HC HZ c0 c1 c2 c3 c4 z0 z1 z2 z3 z4 y0 y1 y2 y3 y4 HN1 HN2
          have HX := Lib.hid hx3
          have HC := Lib.hid hc3
          have HZ := Lib.hid hz3
          clear hx3 hc3 hz3
          have HOC : Hid (onlyC (2, cl, sq, id, tx) = (2, cl, sq, id, tx)) := by show _ = _; simp [onlyC]
          obtain ⟨c0, c1, c2, c3, c4, _, _, _, _, _, _⟩ := HC.out
          obtain ⟨z0, z1, z2, z3, z4, y0, y1, y2, y3, y4, _⟩ := HZ.out
          -- c is what its kind has; the numbers and the sizes are left
          have HN1 := Lib.hid (refId_any w3 cl)
          have HN2 := Lib.hid (refId_any w3 sq)
          obtain ⟨b1, hb1⟩ : ∃ b1, b1 = idN cl := ⟨_, rfl⟩
          obtain ⟨b2, hb2⟩ : ∃ b2, b2 = idN sq := ⟨_, rfl⟩
          rw [← hb1] at HN1
          rw [← hb2] at HN2
          have HB1 := Lib.hid hb1
          have HB2 := Lib.hid hb2
          clear hb1 hb2
          have HOB : Hid (onlyB (2, cl, sq, id, tx) = (b1 && b2)) := by show (if 2 ≤ 2 ∧ 2 ≤ 4 then _ else _) = _; rw [if_pos ⟨by omega, by omega⟩, HB1.out, HB2.out]
          cases b1 with
          | false =>
            have hu9 : u = false := by rw [HU.out]; exact decide_eq_false (fun h => by have := ((may_iff _).1 h); rw [HOB.out] at this; exact absurd this.1 (by simp))
            clear HU
            go_wp2_with (go_at_call 78; first | (with_reducible refine HN1.out.mono ?_; rintro e wq ⟨rfl, rfl⟩) | (with_reducible refine HN2.out.mono ?_; rintro e wq ⟨rfl, rfl⟩))
            go_ret
            exact ⟨by first | rfl | (rw [hu9]; rfl) | (rw [hu9]; simp; omega) | (simp; omega), HX.out⟩
          | true =>
            cases b2 with
            | false =>
              have hu9 : u = false := by rw [HU.out]; exact decide_eq_false (fun h => by have := ((may_iff _).1 h); rw [HOB.out] at this; exact absurd this.1 (by simp))
              clear HU
              go_wp2_with (go_at_call 78; first | (with_reducible refine HN1.out.mono ?_; rintro e wq ⟨rfl, rfl⟩) | (with_reducible refine HN2.out.mono ?_; rintro e wq ⟨rfl, rfl⟩))
              go_ret
              exact ⟨by first | rfl | (rw [hu9]; rfl) | (rw [hu9]; simp; omega) | (simp; omega), HX.out⟩
            | true =>
              by_cases h5 : id.size ≤ 2048
              · have h5i : (id.size : Int) ≤ 2048 := by omega
                by_cases h6 : id.size + tx.size ≤ 2048
                · have h6i : (tx.size : Int) ≤ 2048 - (id.size : Int) := by omega
                  have hu9 : u = true := by rw [HU.out]; exact decide_eq_true ((may_iff _).2 ⟨HOB.out, HOC.out, h5, h6⟩)
                  clear HU
                  go_wp2_with (go_at_call 78; first | (with_reducible refine HN1.out.mono ?_; rintro e wq ⟨rfl, rfl⟩) | (with_reducible refine HN2.out.mono ?_; rintro e wq ⟨rfl, rfl⟩))
                  go_ret
                  exact ⟨by first | rfl | (rw [hu9]; rfl) | (rw [hu9]; simp; omega) | (simp; omega), HX.out⟩
                · have h6i : ¬ (tx.size : Int) ≤ 2048 - (id.size : Int) := by omega
                  have hu9 : u = false := by rw [HU.out]; exact decide_eq_false (fun h => by have := ((may_iff _).1 h); exact h6 this.2.2.2)
                  clear HU
                  go_wp2_with (go_at_call 78; first | (with_reducible refine HN1.out.mono ?_; rintro e wq ⟨rfl, rfl⟩) | (with_reducible refine HN2.out.mono ?_; rintro e wq ⟨rfl, rfl⟩))
                  go_ret
                  exact ⟨by first | rfl | (rw [hu9]; rfl) | (rw [hu9]; simp; omega) | (simp; omega), HX.out⟩
              · have h5i : ¬ (id.size : Int) ≤ 2048 := by omega
                have hu9 : u = false := by rw [HU.out]; exact decide_eq_false (fun h => by have := ((may_iff _).1 h); exact h5 this.2.2.1)
                clear HU
                go_wp2_with (go_at_call 78; first | (with_reducible refine HN1.out.mono ?_; rintro e wq ⟨rfl, rfl⟩) | (with_reducible refine HN2.out.mono ?_; rintro e wq ⟨rfl, rfl⟩))
                go_ret
                exact ⟨by first | rfl | (rw [hu9]; rfl) | (rw [hu9]; simp; omega) | (simp; omega), HX.out⟩
      · have hk2 : (k == 2) = false := by rw [beq_eq_false_iff_ne]; exact h2
        by_cases h3 : k = 3
        · subst h3
          go_upto_region 12 with (fail)
          obtain ⟨w3, hw3⟩ : ∃ w3, w3 = wc.setCell ⟨q, 3, none⟩ (.string id) := ⟨_, rfl⟩
          have hx3 : Below w.heap.size w w3 := by rw [hw3]; exact HX.out.setCell hwq _
          have hc3 : Cm w3 w.heap.size (3, cl, sq, id, tx) := by rw [hw3]; exact HC.out.far _ hpq
          have hz3 : Cm w3 q (3, cl, sq, id, em) := by rw [hw3]; exact HZ.out.set3 id
          rw [← hw3]
          clear hw3 HX HC HZ c0 c1 c2 c3 c4 z0 z1 z2 z3 z4 y0 y1 y2 y3 y4 HN1 HN2
          have HX := Lib.hid hx3
          have HC := Lib.hid hc3
          have HZ := Lib.hid hz3
          clear hx3 hc3 hz3
          obtain ⟨c0, c1, c2, c3, c4, _, _, _, _, _, _⟩ := HC.out
          obtain ⟨z0, z1, z2, z3, z4, y0, y1, y2, y3, y4, _⟩ := HZ.out
          by_cases a4 : em = tx
          · have HTX : Hid (tx = ⟨#[]⟩) := by show _ = _; rw [← a4, HEM.out]
            subst a4
            have HOC : Hid (onlyC (3, cl, sq, id, em) = (3, cl, sq, id, em)) := by show _ = _; rw [HEM.out]; simp [onlyC]
            -- c is what its kind has; the numbers and the sizes are left
            have HN1 := Lib.hid (refId_any w3 cl)
            have HN2 := Lib.hid (refId_any w3 sq)
            obtain ⟨b1, hb1⟩ : ∃ b1, b1 = idN cl := ⟨_, rfl⟩
            obtain ⟨b2, hb2⟩ : ∃ b2, b2 = idN sq := ⟨_, rfl⟩
            rw [← hb1] at HN1
            rw [← hb2] at HN2
            have HB1 := Lib.hid hb1
            have HB2 := Lib.hid hb2
            clear hb1 hb2
            have HOB : Hid (onlyB (3, cl, sq, id, em) = (b1 && b2)) := by show (if 2 ≤ 3 ∧ 3 ≤ 4 then _ else _) = _; rw [if_pos ⟨by omega, by omega⟩, HB1.out, HB2.out]
            cases b1 with
            | false =>
              have hu9 : u = false := by rw [HU.out]; exact decide_eq_false (fun h => by have := ((may_iff _).1 h); rw [HOB.out] at this; exact absurd this.1 (by simp))
              clear HU
              go_wp2_with (go_at_call 78; first | (with_reducible refine HN1.out.mono ?_; rintro e wq ⟨rfl, rfl⟩) | (with_reducible refine HN2.out.mono ?_; rintro e wq ⟨rfl, rfl⟩))
              go_ret
              exact ⟨by first | rfl | (rw [hu9]; rfl) | (rw [hu9]; simp; omega) | (simp; omega), HX.out⟩
            | true =>
              cases b2 with
              | false =>
                have hu9 : u = false := by rw [HU.out]; exact decide_eq_false (fun h => by have := ((may_iff _).1 h); rw [HOB.out] at this; exact absurd this.1 (by simp))
                clear HU
                go_wp2_with (go_at_call 78; first | (with_reducible refine HN1.out.mono ?_; rintro e wq ⟨rfl, rfl⟩) | (with_reducible refine HN2.out.mono ?_; rintro e wq ⟨rfl, rfl⟩))
                go_ret
                exact ⟨by first | rfl | (rw [hu9]; rfl) | (rw [hu9]; simp; omega) | (simp; omega), HX.out⟩
              | true =>
                by_cases h5 : id.size ≤ 2048
                · have h5i : (id.size : Int) ≤ 2048 := by omega
                  by_cases h6 : id.size + em.size ≤ 2048
                  · have h6i : (em.size : Int) ≤ 2048 - (id.size : Int) := by omega
                    have hu9 : u = true := by rw [HU.out]; exact decide_eq_true ((may_iff _).2 ⟨HOB.out, HOC.out, h5, h6⟩)
                    clear HU
                    go_wp2_with (go_at_call 78; first | (with_reducible refine HN1.out.mono ?_; rintro e wq ⟨rfl, rfl⟩) | (with_reducible refine HN2.out.mono ?_; rintro e wq ⟨rfl, rfl⟩))
                    go_ret
                    exact ⟨by first | rfl | (rw [hu9]; rfl) | (rw [hu9]; simp; omega) | (simp; omega), HX.out⟩
                  · have h6i : ¬ (em.size : Int) ≤ 2048 - (id.size : Int) := by omega
                    have hu9 : u = false := by rw [HU.out]; exact decide_eq_false (fun h => by have := ((may_iff _).1 h); exact h6 this.2.2.2)
                    clear HU
                    go_wp2_with (go_at_call 78; first | (with_reducible refine HN1.out.mono ?_; rintro e wq ⟨rfl, rfl⟩) | (with_reducible refine HN2.out.mono ?_; rintro e wq ⟨rfl, rfl⟩))
                    go_ret
                    exact ⟨by first | rfl | (rw [hu9]; rfl) | (rw [hu9]; simp; omega) | (simp; omega), HX.out⟩
                · have h5i : ¬ (id.size : Int) ≤ 2048 := by omega
                  have hu9 : u = false := by rw [HU.out]; exact decide_eq_false (fun h => by have := ((may_iff _).1 h); exact h5 this.2.2.1)
                  clear HU
                  go_wp2_with (go_at_call 78; first | (with_reducible refine HN1.out.mono ?_; rintro e wq ⟨rfl, rfl⟩) | (with_reducible refine HN2.out.mono ?_; rintro e wq ⟨rfl, rfl⟩))
                  go_ret
                  exact ⟨by first | rfl | (rw [hu9]; rfl) | (rw [hu9]; simp; omega) | (simp; omega), HX.out⟩
          · have hb4 := bl_ne a4
            have HOC : Hid (onlyC (3, cl, sq, id, tx) = (3, cl, sq, id, em)) := by show _ = _; rw [HEM.out]; simp [onlyC]
            have hu9 : u = false := by rw [HU.out]; exact decide_eq_false (fun h => by have := ((may_iff _).1 h); rw [HOC.out] at this; exact a4 (congrArg (·.2.2.2.2) this.2.1))
            clear HU
            go_wp2_with (go_at_call 78; first | (with_reducible refine HN1.out.mono ?_; rintro e wq ⟨rfl, rfl⟩) | (with_reducible refine HN2.out.mono ?_; rintro e wq ⟨rfl, rfl⟩))
            go_ret
            exact ⟨by first | rfl | (rw [hu9]; rfl) | (rw [hu9]; simp; omega) | (simp; omega), HX.out⟩
        · have hk3 : (k == 3) = false := by rw [beq_eq_false_iff_ne]; exact h3
          by_cases h4 : k = 4
          · subst h4
            by_cases a3 : em = id
            · subst a3
              by_cases a4 : em = tx
              · subst a4
                have HOC : Hid (onlyC (4, cl, sq, em, em) = (4, cl, sq, em, em)) := by show _ = _; rw [HEM.out]; simp [onlyC]
                -- c is what its kind has; the numbers and the sizes are left
                have HN1 := Lib.hid (refId_any wc cl)
                have HN2 := Lib.hid (refId_any wc sq)
                obtain ⟨b1, hb1⟩ : ∃ b1, b1 = idN cl := ⟨_, rfl⟩
                obtain ⟨b2, hb2⟩ : ∃ b2, b2 = idN sq := ⟨_, rfl⟩
                rw [← hb1] at HN1
                rw [← hb2] at HN2
                have HB1 := Lib.hid hb1
                have HB2 := Lib.hid hb2
                clear hb1 hb2
                have HOB : Hid (onlyB (4, cl, sq, em, em) = (b1 && b2)) := by show (if 2 ≤ 4 ∧ 4 ≤ 4 then _ else _) = _; rw [if_pos ⟨by omega, by omega⟩, HB1.out, HB2.out]
                cases b1 with
                | false =>
                  have hu9 : u = false := by rw [HU.out]; exact decide_eq_false (fun h => by have := ((may_iff _).1 h); rw [HOB.out] at this; exact absurd this.1 (by simp))
                  clear HU
                  go_wp2_with (go_at_call 78; first | (with_reducible refine HN1.out.mono ?_; rintro e wq ⟨rfl, rfl⟩) | (with_reducible refine HN2.out.mono ?_; rintro e wq ⟨rfl, rfl⟩))
                  go_ret
                  exact ⟨by first | rfl | (rw [hu9]; rfl) | (rw [hu9]; simp; omega) | (simp; omega), HX.out⟩
                | true =>
                  cases b2 with
                  | false =>
                    have hu9 : u = false := by rw [HU.out]; exact decide_eq_false (fun h => by have := ((may_iff _).1 h); rw [HOB.out] at this; exact absurd this.1 (by simp))
                    clear HU
                    go_wp2_with (go_at_call 78; first | (with_reducible refine HN1.out.mono ?_; rintro e wq ⟨rfl, rfl⟩) | (with_reducible refine HN2.out.mono ?_; rintro e wq ⟨rfl, rfl⟩))
                    go_ret
                    exact ⟨by first | rfl | (rw [hu9]; rfl) | (rw [hu9]; simp; omega) | (simp; omega), HX.out⟩
                  | true =>
                    by_cases h5 : em.size ≤ 2048
                    · have h5i : (em.size : Int) ≤ 2048 := by omega
                      by_cases h6 : em.size + em.size ≤ 2048
                      · have h6i : (em.size : Int) ≤ 2048 - (em.size : Int) := by omega
                        have hu9 : u = true := by rw [HU.out]; exact decide_eq_true ((may_iff _).2 ⟨HOB.out, HOC.out, h5, h6⟩)
                        clear HU
                        go_wp2_with (go_at_call 78; first | (with_reducible refine HN1.out.mono ?_; rintro e wq ⟨rfl, rfl⟩) | (with_reducible refine HN2.out.mono ?_; rintro e wq ⟨rfl, rfl⟩))
                        go_ret
                        exact ⟨by first | rfl | (rw [hu9]; rfl) | (rw [hu9]; simp; omega) | (simp; omega), HX.out⟩
                      · have h6i : ¬ (em.size : Int) ≤ 2048 - (em.size : Int) := by omega
                        have hu9 : u = false := by rw [HU.out]; exact decide_eq_false (fun h => by have := ((may_iff _).1 h); exact h6 this.2.2.2)
                        clear HU
                        go_wp2_with (go_at_call 78; first | (with_reducible refine HN1.out.mono ?_; rintro e wq ⟨rfl, rfl⟩) | (with_reducible refine HN2.out.mono ?_; rintro e wq ⟨rfl, rfl⟩))
                        go_ret
                        exact ⟨by first | rfl | (rw [hu9]; rfl) | (rw [hu9]; simp; omega) | (simp; omega), HX.out⟩
                    · have h5i : ¬ (em.size : Int) ≤ 2048 := by omega
                      have hu9 : u = false := by rw [HU.out]; exact decide_eq_false (fun h => by have := ((may_iff _).1 h); exact h5 this.2.2.1)
                      clear HU
                      go_wp2_with (go_at_call 78; first | (with_reducible refine HN1.out.mono ?_; rintro e wq ⟨rfl, rfl⟩) | (with_reducible refine HN2.out.mono ?_; rintro e wq ⟨rfl, rfl⟩))
                      go_ret
                      exact ⟨by first | rfl | (rw [hu9]; rfl) | (rw [hu9]; simp; omega) | (simp; omega), HX.out⟩
              · have hb4 := bl_ne a4
                have HOC : Hid (onlyC (4, cl, sq, em, tx) = (4, cl, sq, em, em)) := by show _ = _; rw [HEM.out]; simp [onlyC]
                have hu9 : u = false := by rw [HU.out]; exact decide_eq_false (fun h => by have := ((may_iff _).1 h); rw [HOC.out] at this; exact a4 (congrArg (·.2.2.2.2) this.2.1))
                clear HU
                go_wp2_with (go_at_call 78; first | (with_reducible refine HN1.out.mono ?_; rintro e wq ⟨rfl, rfl⟩) | (with_reducible refine HN2.out.mono ?_; rintro e wq ⟨rfl, rfl⟩))
                go_ret
                exact ⟨by first | rfl | (rw [hu9]; rfl) | (rw [hu9]; simp; omega) | (simp; omega), HX.out⟩
            · have hb3 := bl_ne a3
              have HOC : Hid (onlyC (4, cl, sq, id, tx) = (4, cl, sq, em, em)) := by show _ = _; rw [HEM.out]; simp [onlyC]
              have hu9 : u = false := by rw [HU.out]; exact decide_eq_false (fun h => by have := ((may_iff _).1 h); rw [HOC.out] at this; exact a3 (congrArg (·.2.2.2.1) this.2.1))
              clear HU
              go_wp2_with (go_at_call 78; first | (with_reducible refine HN1.out.mono ?_; rintro e wq ⟨rfl, rfl⟩) | (with_reducible refine HN2.out.mono ?_; rintro e wq ⟨rfl, rfl⟩))
              go_ret
              exact ⟨by first | rfl | (rw [hu9]; rfl) | (rw [hu9]; simp; omega) | (simp; omega), HX.out⟩
          · have hk4 : (k == 4) = false := by rw [beq_eq_false_iff_ne]; exact h4
            have HOB : Hid (onlyB (k, cl, sq, id, tx) = false) := by show (if 2 ≤ k ∧ k ≤ 4 then _ else _) = _; rw [if_neg (by omega)]; exact decide_eq_false h1
            have hu9 : u = false := by rw [HU.out]; exact decide_eq_false (fun h => by have := ((may_iff _).1 h); rw [HOB.out] at this; exact absurd this.1 (by simp))
            clear HU
            go_wp2_with (go_at_call 78; first | (with_reducible refine HN1.out.mono ?_; rintro e wq ⟨rfl, rfl⟩) | (with_reducible refine HN2.out.mono ?_; rintro e wq ⟨rfl, rfl⟩))
            go_ret
            exact ⟨by first | rfl | (rw [hu9]; rfl) | (rw [hu9]; simp; omega) | (simp; omega), HX.out⟩
end Go.Proofs.Ytpdnkhdnenibgaa
