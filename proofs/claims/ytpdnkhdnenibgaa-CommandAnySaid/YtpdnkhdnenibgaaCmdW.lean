/- The walks of machine.MayCommand and of the reference's. -/
import Derived.Test.YtpdnkhdnenibgaaCmdL
import Derived.Test.YtpdnkhdnenibgaaQuiet
import Derived.Test.YtpdnkhdnenibgaaCut
import Derived.Test.YtpdnkhdnenibgaaQTail
set_option linter.unusedVariables false
set_option linter.unusedSimpArgs false
namespace Lec
/-- What a command is, as its kind has it. -/
def onlyC (c : Cmd) : Cmd := (c.1, if 2 ≤ c.1 ∧ c.1 ≤ 4 then c.2.1 else 0, if 2 ≤ c.1 ∧ c.1 ≤ 4 then c.2.2.1 else 0, if c.1 = 2 ∨ c.1 = 3 then c.2.2.2.1 else ⟨#[]⟩, if c.1 = 2 then c.2.2.2.2 else ⟨#[]⟩)
def onlyB (c : Cmd) : Bool := if 2 ≤ c.1 ∧ c.1 ≤ 4 then idN c.2.1 && idN c.2.2.1 else decide (c.1 = 1)
end Lec
namespace Go.Proofs.Ytpdnkhdnenibgaa
open Go.RowKit Lec
theorem Number_any (w : World) (n : Int) : Calls Try.prog 99 #[.int .i64 n, .int .i64 1] w fun e w' => e = .returned (.bool (idN n)) ∧ w = w' := by
  obtain ⟨u, hu⟩ : ∃ u, u = idN n := ⟨_, rfl⟩
  rw [← hu]
  have HU := Lib.hid hu
  clear hu
  go_enter Try.func99, Try.ntmps99
  by_cases h1 : 1 ≤ n
  · by_cases h2 : n < 1099511627776
    · have HE : Hid (u = true) := by show _ = _; rw [HU.out]; exact decide_eq_true ⟨h1, h2⟩
      clear HU
      go_wp2
      go_ret
      exact ⟨by rw [HE.out]; rfl, rfl⟩
    · have HE : Hid (u = false) := by show _ = _; rw [HU.out]; exact decide_eq_false (fun h => h2 h.2)
      clear HU
      go_wp2
      go_ret
      exact ⟨by rw [HE.out]; first | rfl | simp; omega, rfl⟩
  · have HE : Hid (u = false) := by show _ = _; rw [HU.out]; exact decide_eq_false (fun h => h1 h.1)
    clear HU
    go_wp2
    go_ret
    exact ⟨by rw [HE.out]; first | rfl | simp; omega, rfl⟩
theorem refId_any (w : World) (n : Int) : Calls Try.prog 78 #[.int .i64 n] w fun e w' => e = .returned (.bool (idN n)) ∧ w = w' := by
  obtain ⟨u, hu⟩ : ∃ u, u = idN n := ⟨_, rfl⟩
  rw [← hu]
  have HU := Lib.hid hu
  clear hu
  go_enter Try.func78, Try.ntmps78
  by_cases h1 : 1 ≤ n
  · by_cases h2 : n < 1099511627776
    · have HE : Hid (u = true) := by show _ = _; rw [HU.out]; exact decide_eq_true ⟨h1, h2⟩
      clear HU
      go_wp2
      go_ret
      exact ⟨by rw [HE.out]; rfl, rfl⟩
    · have HE : Hid (u = false) := by show _ = _; rw [HU.out]; exact decide_eq_false (fun h => h2 h.2)
      clear HU
      go_wp2
      go_ret
      exact ⟨by rw [HE.out]; first | rfl | simp; omega, rfl⟩
  · have HE : Hid (u = false) := by show _ = _; rw [HU.out]; exact decide_eq_false (fun h => h1 h.1)
    clear HU
    go_wp2
    go_ret
    exact ⟨by rw [HE.out]; first | rfl | simp; omega, rfl⟩

set_option maxRecDepth 100000 in
set_option maxHeartbeats 1000000 in
theorem only_any (w : World) (c : Cmd) : Calls Try.prog 94 #[cmdV c] w fun e w' => e = .returned (.tuple #[cmdV (onlyC c), .bool (onlyB c)]) ∧ Below w.heap.size w w' := by
  obtain ⟨k, cl, sq, id, tx⟩ := c
  unfold cmdV
  dsimp only
  obtain ⟨r, hr⟩ : ∃ r, r = onlyC (k, cl, sq, id, tx) := ⟨_, rfl⟩
  obtain ⟨u, hu⟩ : ∃ u, u = onlyB (k, cl, sq, id, tx) := ⟨_, rfl⟩
  rw [← hr, ← hu]
  have HRR := Lib.hid hr
  have HU := Lib.hid hu
  clear hr hu
  go_enter Try.func94, Try.ntmps94
  go_upto_region 1 with (fail)
  obtain ⟨w0, hw0⟩ : ∃ w0, w0 = (w.alloc (.cells #[.int .i64 k, .int .i64 cl, .int .i64 sq, .string id, .string tx] 61)).alloc (.cells #[.int .i64 0, .int .i64 0, .int .i64 0, .string ⟨#[]⟩, .string ⟨#[]⟩] 61) := ⟨_, rfl⟩
  rw [← hw0]
  have HX : Hid (Below w.heap.size w w0) := by rw [hw0]; exact ((Below.refl _ _).alloc (Nat.le_refl _) _).alloc (by simp) _
  have HC : Hid (Cm w0 w.heap.size (k, cl, sq, id, tx)) := by rw [hw0]; exact (Cm.new w (k, cl, sq, id, tx) _).ext (B := w.heap.size + 1) ((Below.refl _ _).alloc (by simp) _) (by simp)
  have HZ : Hid (Cm w0 (w.heap.size + 1) noC) := by rw [hw0]; have := Cm.new (w.alloc (.cells #[.int .i64 k, .int .i64 cl, .int .i64 sq, .string id, .string tx] 61)) noC 61; show Cm _ _ _; simpa [noC] using this
  clear hw0
  generalize hq : w.heap.size + 1 = q at *
  have hpq : w.heap.size ≠ q := by omega
  have hwq : w.heap.size ≤ q := by omega
  clear hq
  by_cases hk : 2 ≤ k ∧ k ≤ 4
  · obtain ⟨hk2, hk4⟩ := hk
    obtain ⟨c0, c1, c2, c3, c4, _, _, _, _, _, _⟩ := HC.out
    obtain ⟨z0, z1, z2, z3, z4, y0, y1, y2, y3, y4, _⟩ := HZ.out
    go_upto_region 3 with (fail)
    have hx1 := HX.out.setCell (p := ⟨q, 0, none⟩) hwq (.int .i64 k)
    have hc1 := HC.out.far (o := 0) (.int .i64 k) hpq
    have hz1 : Cm (w0.setCell ⟨q, 0, none⟩ (.int .i64 k)) q (k, 0, 0, ⟨#[]⟩, ⟨#[]⟩) := HZ.out.set0 k
    generalize w0.setCell ⟨q, 0, none⟩ (.int .i64 k) = w1 at *
    clear c0 c1 c2 c3 c4 z0 z1 z2 z3 z4 y0 y1 y2 y3 y4 HX HC HZ
    have HX := Lib.hid hx1
    have HC := Lib.hid hc1
    have HZ := Lib.hid hz1
    clear hx1 hc1 hz1
    obtain ⟨c0, c1, c2, c3, c4, _, _, _, _, _, _⟩ := HC.out
    obtain ⟨z0, z1, z2, z3, z4, y0, y1, y2, y3, y4, _⟩ := HZ.out
    go_cut [] (fun wx => Hid (Below w.heap.size w wx) ∧ Hid (Cm wx w.heap.size (k, cl, sq, id, tx)) ∧ Hid (Cm wx q (k, cl, sq, ⟨#[]⟩, ⟨#[]⟩)))
    case first =>
      go_region_held3 (fun w' => w'.cell? ⟨w.heap.size, 1, none⟩ = some (.int .i64 cl) ∧ w'.cell? ⟨w.heap.size, 2, none⟩ = some (.int .i64 sq)) (first | (with_reducible exact ⟨c1, c2⟩) | exact ⟨(cell_set_far _ hpq).trans c1, (cell_set_far _ hpq).trans c2⟩ | exact ⟨(cell_set_far _ hpq).trans ((cell_set_far _ hpq).trans c1), (cell_set_far _ hpq).trans ((cell_set_far _ hpq).trans c2)⟩ | go_keep) (fail)
      all_goals
        go_wp2_with fail
        go_meet
        first
          | exact ⟨below_drew ((HX.out.setCell hwq _).setCell hwq _), ((HC.out.far _ hpq).far _ hpq).drew, ((HZ.out.set1 cl).set2 sq).drew⟩
          | exact ⟨below_drew ((HX.out.setCell hwq _).setCell hwq _), ((HC.out.far _ hpq).far _ hpq).drew, ((HZ.out.set2 sq).set1 cl).drew⟩
    case rest =>
      clear HX HC HZ c0 c1 c2 c3 c4 z0 z1 z2 z3 z4 y0 y1 y2 y3 y4
      obtain ⟨HX, HC, HZ⟩ := hcut
      obtain ⟨c0, c1, c2, c3, c4, _, _, _, _, _, _⟩ := HC.out
      obtain ⟨z0, z1, z2, z3, z4, y0, y1, y2, y3, y4, _⟩ := HZ.out
      have hu1 : u = (idN cl && idN sq) := by rw [HU.out]; show (if 2 ≤ k ∧ k ≤ 4 then _ else _) = _; rw [if_pos ⟨hk2, hk4⟩]
      have HN1 := Lib.hid (Number_any wc cl)
      have HN2 := Lib.hid (Number_any wc sq)
      generalize idN cl = b1 at *
      generalize idN sq = b2 at *
      have HU1 := Lib.hid hu1
      clear hu1 HU
      have hk24 : k = 2 ∨ k = 3 ∨ k = 4 := by omega
      rcases hk24 with rfl | rfl | rfl
      · have HRE : Hid (onlyC (2, cl, sq, id, tx) = (2, cl, sq, id, tx)) := by show _ = _; simp [onlyC]
        obtain ⟨hbq, hbb⟩ | hbb : (b1 = true ∧ b2 = true) ∨ (b1 && b2) = false := by cases b1 <;> cases b2 <;> simp
        · subst hbq
          subst hbb
          have hu9 := HU1.out
          simp only [Bool.and_true, Bool.and_false, Bool.true_and, Bool.false_and] at hu9
          clear HU1
          go_upto_region 9 with (first | (go_at_call 99; first | (with_reducible refine HN1.out.mono ?_; rintro e wq ⟨rfl, rfl⟩) | (with_reducible refine HN2.out.mono ?_; rintro e wq ⟨rfl, rfl⟩)))
          obtain ⟨w9, hw9⟩ : ∃ w9, w9 = ((wc.setCell ⟨q, 3, none⟩ (.string id)).setCell ⟨q, 4, none⟩ (.string tx)) := ⟨_, rfl⟩
          have HX9 : Hid (Below w.heap.size w w9) := by rw [hw9]; exact ((HX.out.setCell hwq _).setCell hwq _)
          have HC9 : Hid (Cm w9 w.heap.size (2, cl, sq, id, tx)) := by rw [hw9]; exact ((HC.out.far _ hpq).far _ hpq)
          have HZ9 : Hid (Cm w9 q r) := by rw [hw9, HRR.out, HRE.out]; exact ((HZ.out.set3 id).set4 tx)
          rw [← hw9]
          clear hw9 HX HC HZ c0 c1 c2 c3 c4 z0 z1 z2 z3 z4 y0 y1 y2 y3 y4
          obtain ⟨c0, c1, c2, c3, c4, _, _, _, _, _, _⟩ := HC9.out
          obtain ⟨z0, z1, z2, z3, z4, y0, y1, y2, y3, y4, _⟩ := HZ9.out
          have HPU : Hid (Cm (((((w9.setCell ⟨q, 0, none⟩ (.int .i64 r.1)).setCell ⟨q, 1, none⟩ (.int .i64 r.2.1)).setCell ⟨q, 2, none⟩ (.int .i64 r.2.2.1)).setCell ⟨q, 3, none⟩ (.string r.2.2.2.1)).setCell ⟨q, 4, none⟩ (.string r.2.2.2.2)) q r) := ((((HZ9.out.set0 r.1).set1 r.2.1).set2 r.2.2.1).set3 r.2.2.2.1).set4 r.2.2.2.2
          have HCU : Hid (Cm (((((w9.setCell ⟨q, 0, none⟩ (.int .i64 r.1)).setCell ⟨q, 1, none⟩ (.int .i64 r.2.1)).setCell ⟨q, 2, none⟩ (.int .i64 r.2.2.1)).setCell ⟨q, 3, none⟩ (.string r.2.2.2.1)).setCell ⟨q, 4, none⟩ (.string r.2.2.2.2)) w.heap.size (2, cl, sq, id, tx)) := ((((HC9.out.far _ hpq).far _ hpq).far _ hpq).far _ hpq).far _ hpq
          obtain ⟨d0, _, _, _, _, _, _, _, _, _, _⟩ := HCU.out.drew
          obtain ⟨e0, e1, e2, e3, e4, _, _, _, _, _, _⟩ := HPU.out.drew
          refine wp_region_held_drew (S := (fun w' => w'.cell? ⟨w.heap.size, 0, none⟩ = some (.int .i64 2) ∧ w'.cell? ⟨q, 0, none⟩ = some (.int .i64 r.1) ∧ w'.cell? ⟨q, 1, none⟩ = some (.int .i64 r.2.1) ∧ w'.cell? ⟨q, 2, none⟩ = some (.int .i64 r.2.2.1) ∧ w'.cell? ⟨q, 3, none⟩ = some (.string r.2.2.2.1) ∧ w'.cell? ⟨q, 4, none⟩ = some (.string r.2.2.2.2))) (by kernel_rfl) ⟨c0, z0, z1, z2, z3, z4⟩ (fun hHeld => ?_)
          refine wpAnyH_take (i := 0) (oi := _) (v := ?_) rfl (by kernel_rfl) (by kernel_rfl) (by kernel_rfl) (fun _ _ _ h => h) (Or.inl ⟨by rfl, ?_⟩) (by assumption) ?_
          rotate_left 1
          · intro w hSw; (try dsimp only at hSw); go_simp; (try with_reducible rfl)
          simp only [Act.put, List.setIfInBounds_toArray, List.set_cons_zero, List.set_cons_succ]
          refine wpAnyH_take (i := 1) (oi := _) (v := ?_) rfl (by kernel_rfl) (by kernel_rfl) (by kernel_rfl) (fun _ _ _ h => h) (Or.inl ⟨by rfl, ?_⟩) (by assumption) ?_
          rotate_left 1
          · intro w hSw; (try dsimp only at hSw); go_simp; (try with_reducible rfl)
          simp only [Act.put, List.setIfInBounds_toArray, List.set_cons_zero, List.set_cons_succ]
          refine wpAnyH_take (i := 2) (oi := _) (v := ?_) rfl (by kernel_rfl) (by kernel_rfl) (by kernel_rfl) (fun _ _ _ h => h) (Or.inl ⟨by rfl, ?_⟩) (by assumption) ?_
          rotate_left 1
          · intro w hSw; (try dsimp only at hSw); go_simp; (try with_reducible rfl)
          simp only [Act.put, List.setIfInBounds_toArray, List.set_cons_zero, List.set_cons_succ]
          refine wpAnyH_take (i := 3) (oi := _) (v := undef) rfl (by kernel_rfl) (by kernel_rfl) (by kernel_rfl) (fun _ _ _ h => h) (Or.inr ⟨by rfl, rfl⟩) (by assumption) ?_
          simp only [Act.put, List.setIfInBounds_toArray, List.set_cons_zero, List.set_cons_succ]
          refine wpAnyH_take (i := 4) (oi := _) (v := undef) rfl (by kernel_rfl) (by kernel_rfl) (by kernel_rfl) (fun _ _ _ h => h) (Or.inr ⟨by rfl, rfl⟩) (by assumption) ?_
          simp only [Act.put, List.setIfInBounds_toArray, List.set_cons_zero, List.set_cons_succ]
          refine wpAnyH_take (i := 5) (oi := _) (v := undef) rfl (by kernel_rfl) (by kernel_rfl) (by kernel_rfl) (fun _ _ _ h => h) (Or.inr ⟨by rfl, rfl⟩) (by assumption) ?_
          simp only [Act.put, List.setIfInBounds_toArray, List.set_cons_zero, List.set_cons_succ]
          refine wpAnyH_take (i := 6) (oi := _) (v := ?_) rfl (by kernel_rfl) (by kernel_rfl) (by kernel_rfl) (fun _ _ _ h => h) (Or.inl ⟨by rfl, ?_⟩) (by assumption) ?_
          rotate_left 1
          · intro w hSw; (try dsimp only at hSw); go_simp; (try with_reducible rfl)
          simp only [Act.put, List.setIfInBounds_toArray, List.set_cons_zero, List.set_cons_succ]
          refine wpAnyH_ready (rs := [7]) (by kernel_rfl) (by simp) ?_
          refine AllReadyH.cons (o := _) rfl (fun K hK => ?_) AllReadyH.nil
          go_simp
          refine hK.out _ _ ?_ (fun hHeld2 => ?_)
          · (try dsimp only); exact ⟨d0, e0, e1, e2, e3, e4⟩
          clear hK K
          (try simp only [Act.put, List.setIfInBounds_toArray, List.set_cons_zero, List.set_cons_succ])
          refine wpAnyH_take (i := 8) (oi := _) (v := ?_) rfl (by kernel_rfl) (by kernel_rfl) (by kernel_rfl) (fun _ _ _ h => h) (Or.inl ⟨by rfl, ?_⟩) (by assumption) ?_
          rotate_left 1
          · intro w hSw; (try dsimp only at hSw); go_simp; (try with_reducible rfl)
          simp only [Act.put, List.setIfInBounds_toArray, List.set_cons_zero, List.set_cons_succ]
          refine wpAnyH_done (by kernel_rfl) ?_ _
          go_wp2
          refine bodyPost_ret (v := .tuple #[.agg #[.int .i64 r.1, .int .i64 r.2.1, .int .i64 r.2.2.1, .string r.2.2.2.1, .string r.2.2.2.2], .bool u]) (by simp [results, Try.results94, go_sem, *]) rfl ?_
          refine ⟨by rw [hu9], ?_⟩
          exact below_drew (((((HX9.out.setCell hwq _).setCell hwq _).setCell hwq _).setCell hwq _).setCell hwq _)
        · cases b1 <;> cases b2
          case true.true => cases hbb
          all_goals
            clear hbb
            have hu9 := HU1.out
            simp only [Bool.and_true, Bool.and_false, Bool.true_and, Bool.false_and] at hu9
            clear HU1
            go_upto_region 9 with (first | (go_at_call 99; first | (with_reducible refine HN1.out.mono ?_; rintro e wq ⟨rfl, rfl⟩) | (with_reducible refine HN2.out.mono ?_; rintro e wq ⟨rfl, rfl⟩)))
            obtain ⟨w9, hw9⟩ : ∃ w9, w9 = ((wc.setCell ⟨q, 3, none⟩ (.string id)).setCell ⟨q, 4, none⟩ (.string tx)) := ⟨_, rfl⟩
            have HX9 : Hid (Below w.heap.size w w9) := by rw [hw9]; exact ((HX.out.setCell hwq _).setCell hwq _)
            have HC9 : Hid (Cm w9 w.heap.size (2, cl, sq, id, tx)) := by rw [hw9]; exact ((HC.out.far _ hpq).far _ hpq)
            have HZ9 : Hid (Cm w9 q r) := by rw [hw9, HRR.out, HRE.out]; exact ((HZ.out.set3 id).set4 tx)
            rw [← hw9]
            clear hw9 HX HC HZ c0 c1 c2 c3 c4 z0 z1 z2 z3 z4 y0 y1 y2 y3 y4
            obtain ⟨c0, c1, c2, c3, c4, _, _, _, _, _, _⟩ := HC9.out
            obtain ⟨z0, z1, z2, z3, z4, y0, y1, y2, y3, y4, _⟩ := HZ9.out
            have HPU : Hid (Cm (((((w9.setCell ⟨q, 0, none⟩ (.int .i64 r.1)).setCell ⟨q, 1, none⟩ (.int .i64 r.2.1)).setCell ⟨q, 2, none⟩ (.int .i64 r.2.2.1)).setCell ⟨q, 3, none⟩ (.string r.2.2.2.1)).setCell ⟨q, 4, none⟩ (.string r.2.2.2.2)) q r) := ((((HZ9.out.set0 r.1).set1 r.2.1).set2 r.2.2.1).set3 r.2.2.2.1).set4 r.2.2.2.2
            have HCU : Hid (Cm (((((w9.setCell ⟨q, 0, none⟩ (.int .i64 r.1)).setCell ⟨q, 1, none⟩ (.int .i64 r.2.1)).setCell ⟨q, 2, none⟩ (.int .i64 r.2.2.1)).setCell ⟨q, 3, none⟩ (.string r.2.2.2.1)).setCell ⟨q, 4, none⟩ (.string r.2.2.2.2)) w.heap.size (2, cl, sq, id, tx)) := ((((HC9.out.far _ hpq).far _ hpq).far _ hpq).far _ hpq).far _ hpq
            obtain ⟨d0, _, _, _, _, _, _, _, _, _, _⟩ := HCU.out.drew
            obtain ⟨e0, e1, e2, e3, e4, _, _, _, _, _, _⟩ := HPU.out.drew
            go_region_held3 (fun w' => w'.cell? ⟨w.heap.size, 0, none⟩ = some (.int .i64 2) ∧ w'.cell? ⟨q, 0, none⟩ = some (.int .i64 r.1) ∧ w'.cell? ⟨q, 1, none⟩ = some (.int .i64 r.2.1) ∧ w'.cell? ⟨q, 2, none⟩ = some (.int .i64 r.2.2.1) ∧ w'.cell? ⟨q, 3, none⟩ = some (.string r.2.2.2.1) ∧ w'.cell? ⟨q, 4, none⟩ = some (.string r.2.2.2.2))
              (first | (with_reducible exact ⟨c0, z0, z1, z2, z3, z4⟩) | (with_reducible exact ⟨d0, e0, e1, e2, e3, e4⟩) | go_keep) (fail)
            go_wp2
            refine bodyPost_ret (v := .tuple #[.agg #[.int .i64 r.1, .int .i64 r.2.1, .int .i64 r.2.2.1, .string r.2.2.2.1, .string r.2.2.2.2], .bool u]) (by simp [results, Try.results94, go_sem, *]) rfl ?_
            refine ⟨by rw [hu9], ?_⟩
            exact below_drew (((((HX9.out.setCell hwq _).setCell hwq _).setCell hwq _).setCell hwq _).setCell hwq _)
      · have HRE : Hid (onlyC (3, cl, sq, id, tx) = (3, cl, sq, id, ⟨#[]⟩)) := by show _ = _; simp [onlyC]
        obtain ⟨hbq, hbb⟩ | hbb : (b1 = true ∧ b2 = true) ∨ (b1 && b2) = false := by cases b1 <;> cases b2 <;> simp
        · subst hbq
          subst hbb
          have hu9 := HU1.out
          simp only [Bool.and_true, Bool.and_false, Bool.true_and, Bool.false_and] at hu9
          clear HU1
          go_upto_region 9 with (first | (go_at_call 99; first | (with_reducible refine HN1.out.mono ?_; rintro e wq ⟨rfl, rfl⟩) | (with_reducible refine HN2.out.mono ?_; rintro e wq ⟨rfl, rfl⟩)))
          obtain ⟨w9, hw9⟩ : ∃ w9, w9 = (wc.setCell ⟨q, 3, none⟩ (.string id)) := ⟨_, rfl⟩
          have HX9 : Hid (Below w.heap.size w w9) := by rw [hw9]; exact (HX.out.setCell hwq _)
          have HC9 : Hid (Cm w9 w.heap.size (3, cl, sq, id, tx)) := by rw [hw9]; exact (HC.out.far _ hpq)
          have HZ9 : Hid (Cm w9 q r) := by rw [hw9, HRR.out, HRE.out]; exact (HZ.out.set3 id)
          rw [← hw9]
          clear hw9 HX HC HZ c0 c1 c2 c3 c4 z0 z1 z2 z3 z4 y0 y1 y2 y3 y4
          obtain ⟨c0, c1, c2, c3, c4, _, _, _, _, _, _⟩ := HC9.out
          obtain ⟨z0, z1, z2, z3, z4, y0, y1, y2, y3, y4, _⟩ := HZ9.out
          have HPU : Hid (Cm (((((w9.setCell ⟨q, 0, none⟩ (.int .i64 r.1)).setCell ⟨q, 1, none⟩ (.int .i64 r.2.1)).setCell ⟨q, 2, none⟩ (.int .i64 r.2.2.1)).setCell ⟨q, 3, none⟩ (.string r.2.2.2.1)).setCell ⟨q, 4, none⟩ (.string r.2.2.2.2)) q r) := ((((HZ9.out.set0 r.1).set1 r.2.1).set2 r.2.2.1).set3 r.2.2.2.1).set4 r.2.2.2.2
          have HCU : Hid (Cm (((((w9.setCell ⟨q, 0, none⟩ (.int .i64 r.1)).setCell ⟨q, 1, none⟩ (.int .i64 r.2.1)).setCell ⟨q, 2, none⟩ (.int .i64 r.2.2.1)).setCell ⟨q, 3, none⟩ (.string r.2.2.2.1)).setCell ⟨q, 4, none⟩ (.string r.2.2.2.2)) w.heap.size (3, cl, sq, id, tx)) := ((((HC9.out.far _ hpq).far _ hpq).far _ hpq).far _ hpq).far _ hpq
          obtain ⟨d0, _, _, _, _, _, _, _, _, _, _⟩ := HCU.out.drew
          obtain ⟨e0, e1, e2, e3, e4, _, _, _, _, _, _⟩ := HPU.out.drew
          refine wp_region_held_drew (S := (fun w' => w'.cell? ⟨w.heap.size, 0, none⟩ = some (.int .i64 3) ∧ w'.cell? ⟨q, 0, none⟩ = some (.int .i64 r.1) ∧ w'.cell? ⟨q, 1, none⟩ = some (.int .i64 r.2.1) ∧ w'.cell? ⟨q, 2, none⟩ = some (.int .i64 r.2.2.1) ∧ w'.cell? ⟨q, 3, none⟩ = some (.string r.2.2.2.1) ∧ w'.cell? ⟨q, 4, none⟩ = some (.string r.2.2.2.2))) (by kernel_rfl) ⟨c0, z0, z1, z2, z3, z4⟩ (fun hHeld => ?_)
          refine wpAnyH_take (i := 0) (oi := _) (v := ?_) rfl (by kernel_rfl) (by kernel_rfl) (by kernel_rfl) (fun _ _ _ h => h) (Or.inl ⟨by rfl, ?_⟩) (by assumption) ?_
          rotate_left 1
          · intro w hSw; (try dsimp only at hSw); go_simp; (try with_reducible rfl)
          simp only [Act.put, List.setIfInBounds_toArray, List.set_cons_zero, List.set_cons_succ]
          refine wpAnyH_take (i := 1) (oi := _) (v := ?_) rfl (by kernel_rfl) (by kernel_rfl) (by kernel_rfl) (fun _ _ _ h => h) (Or.inl ⟨by rfl, ?_⟩) (by assumption) ?_
          rotate_left 1
          · intro w hSw; (try dsimp only at hSw); go_simp; (try with_reducible rfl)
          simp only [Act.put, List.setIfInBounds_toArray, List.set_cons_zero, List.set_cons_succ]
          refine wpAnyH_take (i := 2) (oi := _) (v := ?_) rfl (by kernel_rfl) (by kernel_rfl) (by kernel_rfl) (fun _ _ _ h => h) (Or.inl ⟨by rfl, ?_⟩) (by assumption) ?_
          rotate_left 1
          · intro w hSw; (try dsimp only at hSw); go_simp; (try with_reducible rfl)
          simp only [Act.put, List.setIfInBounds_toArray, List.set_cons_zero, List.set_cons_succ]
          refine wpAnyH_take (i := 3) (oi := _) (v := undef) rfl (by kernel_rfl) (by kernel_rfl) (by kernel_rfl) (fun _ _ _ h => h) (Or.inr ⟨by rfl, rfl⟩) (by assumption) ?_
          simp only [Act.put, List.setIfInBounds_toArray, List.set_cons_zero, List.set_cons_succ]
          refine wpAnyH_take (i := 4) (oi := _) (v := undef) rfl (by kernel_rfl) (by kernel_rfl) (by kernel_rfl) (fun _ _ _ h => h) (Or.inr ⟨by rfl, rfl⟩) (by assumption) ?_
          simp only [Act.put, List.setIfInBounds_toArray, List.set_cons_zero, List.set_cons_succ]
          refine wpAnyH_take (i := 5) (oi := _) (v := undef) rfl (by kernel_rfl) (by kernel_rfl) (by kernel_rfl) (fun _ _ _ h => h) (Or.inr ⟨by rfl, rfl⟩) (by assumption) ?_
          simp only [Act.put, List.setIfInBounds_toArray, List.set_cons_zero, List.set_cons_succ]
          refine wpAnyH_take (i := 6) (oi := _) (v := ?_) rfl (by kernel_rfl) (by kernel_rfl) (by kernel_rfl) (fun _ _ _ h => h) (Or.inl ⟨by rfl, ?_⟩) (by assumption) ?_
          rotate_left 1
          · intro w hSw; (try dsimp only at hSw); go_simp; (try with_reducible rfl)
          simp only [Act.put, List.setIfInBounds_toArray, List.set_cons_zero, List.set_cons_succ]
          refine wpAnyH_ready (rs := [7]) (by kernel_rfl) (by simp) ?_
          refine AllReadyH.cons (o := _) rfl (fun K hK => ?_) AllReadyH.nil
          go_simp
          refine hK.out _ _ ?_ (fun hHeld2 => ?_)
          · (try dsimp only); exact ⟨d0, e0, e1, e2, e3, e4⟩
          clear hK K
          (try simp only [Act.put, List.setIfInBounds_toArray, List.set_cons_zero, List.set_cons_succ])
          refine wpAnyH_take (i := 8) (oi := _) (v := ?_) rfl (by kernel_rfl) (by kernel_rfl) (by kernel_rfl) (fun _ _ _ h => h) (Or.inl ⟨by rfl, ?_⟩) (by assumption) ?_
          rotate_left 1
          · intro w hSw; (try dsimp only at hSw); go_simp; (try with_reducible rfl)
          simp only [Act.put, List.setIfInBounds_toArray, List.set_cons_zero, List.set_cons_succ]
          refine wpAnyH_done (by kernel_rfl) ?_ _
          go_wp2
          refine bodyPost_ret (v := .tuple #[.agg #[.int .i64 r.1, .int .i64 r.2.1, .int .i64 r.2.2.1, .string r.2.2.2.1, .string r.2.2.2.2], .bool u]) (by simp [results, Try.results94, go_sem, *]) rfl ?_
          refine ⟨by rw [hu9], ?_⟩
          exact below_drew (((((HX9.out.setCell hwq _).setCell hwq _).setCell hwq _).setCell hwq _).setCell hwq _)
        · cases b1 <;> cases b2
          case true.true => cases hbb
          all_goals
            clear hbb
            have hu9 := HU1.out
            simp only [Bool.and_true, Bool.and_false, Bool.true_and, Bool.false_and] at hu9
            clear HU1
            go_upto_region 9 with (first | (go_at_call 99; first | (with_reducible refine HN1.out.mono ?_; rintro e wq ⟨rfl, rfl⟩) | (with_reducible refine HN2.out.mono ?_; rintro e wq ⟨rfl, rfl⟩)))
            obtain ⟨w9, hw9⟩ : ∃ w9, w9 = (wc.setCell ⟨q, 3, none⟩ (.string id)) := ⟨_, rfl⟩
            have HX9 : Hid (Below w.heap.size w w9) := by rw [hw9]; exact (HX.out.setCell hwq _)
            have HC9 : Hid (Cm w9 w.heap.size (3, cl, sq, id, tx)) := by rw [hw9]; exact (HC.out.far _ hpq)
            have HZ9 : Hid (Cm w9 q r) := by rw [hw9, HRR.out, HRE.out]; exact (HZ.out.set3 id)
            rw [← hw9]
            clear hw9 HX HC HZ c0 c1 c2 c3 c4 z0 z1 z2 z3 z4 y0 y1 y2 y3 y4
            obtain ⟨c0, c1, c2, c3, c4, _, _, _, _, _, _⟩ := HC9.out
            obtain ⟨z0, z1, z2, z3, z4, y0, y1, y2, y3, y4, _⟩ := HZ9.out
            have HPU : Hid (Cm (((((w9.setCell ⟨q, 0, none⟩ (.int .i64 r.1)).setCell ⟨q, 1, none⟩ (.int .i64 r.2.1)).setCell ⟨q, 2, none⟩ (.int .i64 r.2.2.1)).setCell ⟨q, 3, none⟩ (.string r.2.2.2.1)).setCell ⟨q, 4, none⟩ (.string r.2.2.2.2)) q r) := ((((HZ9.out.set0 r.1).set1 r.2.1).set2 r.2.2.1).set3 r.2.2.2.1).set4 r.2.2.2.2
            have HCU : Hid (Cm (((((w9.setCell ⟨q, 0, none⟩ (.int .i64 r.1)).setCell ⟨q, 1, none⟩ (.int .i64 r.2.1)).setCell ⟨q, 2, none⟩ (.int .i64 r.2.2.1)).setCell ⟨q, 3, none⟩ (.string r.2.2.2.1)).setCell ⟨q, 4, none⟩ (.string r.2.2.2.2)) w.heap.size (3, cl, sq, id, tx)) := ((((HC9.out.far _ hpq).far _ hpq).far _ hpq).far _ hpq).far _ hpq
            obtain ⟨d0, _, _, _, _, _, _, _, _, _, _⟩ := HCU.out.drew
            obtain ⟨e0, e1, e2, e3, e4, _, _, _, _, _, _⟩ := HPU.out.drew
            go_region_held3 (fun w' => w'.cell? ⟨w.heap.size, 0, none⟩ = some (.int .i64 3) ∧ w'.cell? ⟨q, 0, none⟩ = some (.int .i64 r.1) ∧ w'.cell? ⟨q, 1, none⟩ = some (.int .i64 r.2.1) ∧ w'.cell? ⟨q, 2, none⟩ = some (.int .i64 r.2.2.1) ∧ w'.cell? ⟨q, 3, none⟩ = some (.string r.2.2.2.1) ∧ w'.cell? ⟨q, 4, none⟩ = some (.string r.2.2.2.2))
              (first | (with_reducible exact ⟨c0, z0, z1, z2, z3, z4⟩) | (with_reducible exact ⟨d0, e0, e1, e2, e3, e4⟩) | go_keep) (fail)
            go_wp2
            refine bodyPost_ret (v := .tuple #[.agg #[.int .i64 r.1, .int .i64 r.2.1, .int .i64 r.2.2.1, .string r.2.2.2.1, .string r.2.2.2.2], .bool u]) (by simp [results, Try.results94, go_sem, *]) rfl ?_
            refine ⟨by rw [hu9], ?_⟩
            exact below_drew (((((HX9.out.setCell hwq _).setCell hwq _).setCell hwq _).setCell hwq _).setCell hwq _)
      · have HRE : Hid (onlyC (4, cl, sq, id, tx) = (4, cl, sq, ⟨#[]⟩, ⟨#[]⟩)) := by show _ = _; simp [onlyC]
        obtain ⟨hbq, hbb⟩ | hbb : (b1 = true ∧ b2 = true) ∨ (b1 && b2) = false := by cases b1 <;> cases b2 <;> simp
        · subst hbq
          subst hbb
          have hu9 := HU1.out
          simp only [Bool.and_true, Bool.and_false, Bool.true_and, Bool.false_and] at hu9
          clear HU1
          go_upto_region 9 with (first | (go_at_call 99; first | (with_reducible refine HN1.out.mono ?_; rintro e wq ⟨rfl, rfl⟩) | (with_reducible refine HN2.out.mono ?_; rintro e wq ⟨rfl, rfl⟩)))
          obtain ⟨w9, hw9⟩ : ∃ w9, w9 = wc := ⟨_, rfl⟩
          have HX9 : Hid (Below w.heap.size w w9) := by rw [hw9]; exact HX.out
          have HC9 : Hid (Cm w9 w.heap.size (4, cl, sq, id, tx)) := by rw [hw9]; exact HC.out
          have HZ9 : Hid (Cm w9 q r) := by rw [hw9, HRR.out, HRE.out]; exact HZ.out
          rw [← hw9]
          clear hw9 HX HC HZ c0 c1 c2 c3 c4 z0 z1 z2 z3 z4 y0 y1 y2 y3 y4
          obtain ⟨c0, c1, c2, c3, c4, _, _, _, _, _, _⟩ := HC9.out
          obtain ⟨z0, z1, z2, z3, z4, y0, y1, y2, y3, y4, _⟩ := HZ9.out
          have HPU : Hid (Cm (((((w9.setCell ⟨q, 0, none⟩ (.int .i64 r.1)).setCell ⟨q, 1, none⟩ (.int .i64 r.2.1)).setCell ⟨q, 2, none⟩ (.int .i64 r.2.2.1)).setCell ⟨q, 3, none⟩ (.string r.2.2.2.1)).setCell ⟨q, 4, none⟩ (.string r.2.2.2.2)) q r) := ((((HZ9.out.set0 r.1).set1 r.2.1).set2 r.2.2.1).set3 r.2.2.2.1).set4 r.2.2.2.2
          have HCU : Hid (Cm (((((w9.setCell ⟨q, 0, none⟩ (.int .i64 r.1)).setCell ⟨q, 1, none⟩ (.int .i64 r.2.1)).setCell ⟨q, 2, none⟩ (.int .i64 r.2.2.1)).setCell ⟨q, 3, none⟩ (.string r.2.2.2.1)).setCell ⟨q, 4, none⟩ (.string r.2.2.2.2)) w.heap.size (4, cl, sq, id, tx)) := ((((HC9.out.far _ hpq).far _ hpq).far _ hpq).far _ hpq).far _ hpq
          obtain ⟨d0, _, _, _, _, _, _, _, _, _, _⟩ := HCU.out.drew
          obtain ⟨e0, e1, e2, e3, e4, _, _, _, _, _, _⟩ := HPU.out.drew
          refine wp_region_held_drew (S := (fun w' => w'.cell? ⟨w.heap.size, 0, none⟩ = some (.int .i64 4) ∧ w'.cell? ⟨q, 0, none⟩ = some (.int .i64 r.1) ∧ w'.cell? ⟨q, 1, none⟩ = some (.int .i64 r.2.1) ∧ w'.cell? ⟨q, 2, none⟩ = some (.int .i64 r.2.2.1) ∧ w'.cell? ⟨q, 3, none⟩ = some (.string r.2.2.2.1) ∧ w'.cell? ⟨q, 4, none⟩ = some (.string r.2.2.2.2))) (by kernel_rfl) ⟨c0, z0, z1, z2, z3, z4⟩ (fun hHeld => ?_)
          refine wpAnyH_take (i := 0) (oi := _) (v := ?_) rfl (by kernel_rfl) (by kernel_rfl) (by kernel_rfl) (fun _ _ _ h => h) (Or.inl ⟨by rfl, ?_⟩) (by assumption) ?_
          rotate_left 1
          · intro w hSw; (try dsimp only at hSw); go_simp; (try with_reducible rfl)
          simp only [Act.put, List.setIfInBounds_toArray, List.set_cons_zero, List.set_cons_succ]
          refine wpAnyH_take (i := 1) (oi := _) (v := ?_) rfl (by kernel_rfl) (by kernel_rfl) (by kernel_rfl) (fun _ _ _ h => h) (Or.inl ⟨by rfl, ?_⟩) (by assumption) ?_
          rotate_left 1
          · intro w hSw; (try dsimp only at hSw); go_simp; (try with_reducible rfl)
          simp only [Act.put, List.setIfInBounds_toArray, List.set_cons_zero, List.set_cons_succ]
          refine wpAnyH_take (i := 2) (oi := _) (v := ?_) rfl (by kernel_rfl) (by kernel_rfl) (by kernel_rfl) (fun _ _ _ h => h) (Or.inl ⟨by rfl, ?_⟩) (by assumption) ?_
          rotate_left 1
          · intro w hSw; (try dsimp only at hSw); go_simp; (try with_reducible rfl)
          simp only [Act.put, List.setIfInBounds_toArray, List.set_cons_zero, List.set_cons_succ]
          refine wpAnyH_take (i := 3) (oi := _) (v := undef) rfl (by kernel_rfl) (by kernel_rfl) (by kernel_rfl) (fun _ _ _ h => h) (Or.inr ⟨by rfl, rfl⟩) (by assumption) ?_
          simp only [Act.put, List.setIfInBounds_toArray, List.set_cons_zero, List.set_cons_succ]
          refine wpAnyH_take (i := 4) (oi := _) (v := undef) rfl (by kernel_rfl) (by kernel_rfl) (by kernel_rfl) (fun _ _ _ h => h) (Or.inr ⟨by rfl, rfl⟩) (by assumption) ?_
          simp only [Act.put, List.setIfInBounds_toArray, List.set_cons_zero, List.set_cons_succ]
          refine wpAnyH_take (i := 5) (oi := _) (v := undef) rfl (by kernel_rfl) (by kernel_rfl) (by kernel_rfl) (fun _ _ _ h => h) (Or.inr ⟨by rfl, rfl⟩) (by assumption) ?_
          simp only [Act.put, List.setIfInBounds_toArray, List.set_cons_zero, List.set_cons_succ]
          refine wpAnyH_take (i := 6) (oi := _) (v := ?_) rfl (by kernel_rfl) (by kernel_rfl) (by kernel_rfl) (fun _ _ _ h => h) (Or.inl ⟨by rfl, ?_⟩) (by assumption) ?_
          rotate_left 1
          · intro w hSw; (try dsimp only at hSw); go_simp; (try with_reducible rfl)
          simp only [Act.put, List.setIfInBounds_toArray, List.set_cons_zero, List.set_cons_succ]
          refine wpAnyH_ready (rs := [7]) (by kernel_rfl) (by simp) ?_
          refine AllReadyH.cons (o := _) rfl (fun K hK => ?_) AllReadyH.nil
          go_simp
          refine hK.out _ _ ?_ (fun hHeld2 => ?_)
          · (try dsimp only); exact ⟨d0, e0, e1, e2, e3, e4⟩
          clear hK K
          (try simp only [Act.put, List.setIfInBounds_toArray, List.set_cons_zero, List.set_cons_succ])
          refine wpAnyH_take (i := 8) (oi := _) (v := ?_) rfl (by kernel_rfl) (by kernel_rfl) (by kernel_rfl) (fun _ _ _ h => h) (Or.inl ⟨by rfl, ?_⟩) (by assumption) ?_
          rotate_left 1
          · intro w hSw; (try dsimp only at hSw); go_simp; (try with_reducible rfl)
          simp only [Act.put, List.setIfInBounds_toArray, List.set_cons_zero, List.set_cons_succ]
          refine wpAnyH_done (by kernel_rfl) ?_ _
          go_wp2
          refine bodyPost_ret (v := .tuple #[.agg #[.int .i64 r.1, .int .i64 r.2.1, .int .i64 r.2.2.1, .string r.2.2.2.1, .string r.2.2.2.2], .bool u]) (by simp [results, Try.results94, go_sem, *]) rfl ?_
          refine ⟨by rw [hu9], ?_⟩
          exact below_drew (((((HX9.out.setCell hwq _).setCell hwq _).setCell hwq _).setCell hwq _).setCell hwq _)
        · cases b1 <;> cases b2
          case true.true => cases hbb
          all_goals
            clear hbb
            have hu9 := HU1.out
            simp only [Bool.and_true, Bool.and_false, Bool.true_and, Bool.false_and] at hu9
            clear HU1
            go_upto_region 9 with (first | (go_at_call 99; first | (with_reducible refine HN1.out.mono ?_; rintro e wq ⟨rfl, rfl⟩) | (with_reducible refine HN2.out.mono ?_; rintro e wq ⟨rfl, rfl⟩)))
            obtain ⟨w9, hw9⟩ : ∃ w9, w9 = wc := ⟨_, rfl⟩
            have HX9 : Hid (Below w.heap.size w w9) := by rw [hw9]; exact HX.out
            have HC9 : Hid (Cm w9 w.heap.size (4, cl, sq, id, tx)) := by rw [hw9]; exact HC.out
            have HZ9 : Hid (Cm w9 q r) := by rw [hw9, HRR.out, HRE.out]; exact HZ.out
            rw [← hw9]
            clear hw9 HX HC HZ c0 c1 c2 c3 c4 z0 z1 z2 z3 z4 y0 y1 y2 y3 y4
            obtain ⟨c0, c1, c2, c3, c4, _, _, _, _, _, _⟩ := HC9.out
            obtain ⟨z0, z1, z2, z3, z4, y0, y1, y2, y3, y4, _⟩ := HZ9.out
            have HPU : Hid (Cm (((((w9.setCell ⟨q, 0, none⟩ (.int .i64 r.1)).setCell ⟨q, 1, none⟩ (.int .i64 r.2.1)).setCell ⟨q, 2, none⟩ (.int .i64 r.2.2.1)).setCell ⟨q, 3, none⟩ (.string r.2.2.2.1)).setCell ⟨q, 4, none⟩ (.string r.2.2.2.2)) q r) := ((((HZ9.out.set0 r.1).set1 r.2.1).set2 r.2.2.1).set3 r.2.2.2.1).set4 r.2.2.2.2
            have HCU : Hid (Cm (((((w9.setCell ⟨q, 0, none⟩ (.int .i64 r.1)).setCell ⟨q, 1, none⟩ (.int .i64 r.2.1)).setCell ⟨q, 2, none⟩ (.int .i64 r.2.2.1)).setCell ⟨q, 3, none⟩ (.string r.2.2.2.1)).setCell ⟨q, 4, none⟩ (.string r.2.2.2.2)) w.heap.size (4, cl, sq, id, tx)) := ((((HC9.out.far _ hpq).far _ hpq).far _ hpq).far _ hpq).far _ hpq
            obtain ⟨d0, _, _, _, _, _, _, _, _, _, _⟩ := HCU.out.drew
            obtain ⟨e0, e1, e2, e3, e4, _, _, _, _, _, _⟩ := HPU.out.drew
            go_region_held3 (fun w' => w'.cell? ⟨w.heap.size, 0, none⟩ = some (.int .i64 4) ∧ w'.cell? ⟨q, 0, none⟩ = some (.int .i64 r.1) ∧ w'.cell? ⟨q, 1, none⟩ = some (.int .i64 r.2.1) ∧ w'.cell? ⟨q, 2, none⟩ = some (.int .i64 r.2.2.1) ∧ w'.cell? ⟨q, 3, none⟩ = some (.string r.2.2.2.1) ∧ w'.cell? ⟨q, 4, none⟩ = some (.string r.2.2.2.2))
              (first | (with_reducible exact ⟨c0, z0, z1, z2, z3, z4⟩) | (with_reducible exact ⟨d0, e0, e1, e2, e3, e4⟩) | go_keep) (fail)
            go_wp2
            refine bodyPost_ret (v := .tuple #[.agg #[.int .i64 r.1, .int .i64 r.2.1, .int .i64 r.2.2.1, .string r.2.2.2.1, .string r.2.2.2.2], .bool u]) (by simp [results, Try.results94, go_sem, *]) rfl ?_
            refine ⟨by rw [hu9], ?_⟩
            exact below_drew (((((HX9.out.setCell hwq _).setCell hwq _).setCell hwq _).setCell hwq _).setCell hwq _)
  · have HRE : Hid (onlyC (k, cl, sq, id, tx) = (k, 0, 0, ⟨#[]⟩, ⟨#[]⟩)) := by
      show _ = _
      unfold onlyC
      dsimp only
      rw [if_neg hk, if_neg hk, if_neg (by omega), if_neg (by omega)]
    have hu1 : u = decide (k = 1) := by rw [HU.out]; show (if 2 ≤ k ∧ k ≤ 4 then _ else _) = _; rw [if_neg hk]
    have hne2 : (k == 2) = false := by rw [beq_eq_false_iff_ne]; omega
    have hne3 : (k == 3) = false := by rw [beq_eq_false_iff_ne]; omega
    obtain ⟨c0, c1, c2, c3, c4, _, _, _, _, _, _⟩ := HC.out
    obtain ⟨z0, z1, z2, z3, z4, y0, y1, y2, y3, y4, _⟩ := HZ.out
    by_cases h1 : k = 1
    · have hk1 : (k == 1) = true := by rw [beq_iff_eq]; exact h1
      have hu9 : u = true := by rw [hu1, h1]; rfl
      have hlt : ¬ 2 ≤ k := by omega
      clear hu1 HU hk h1
      go_upto_region 9 with (fail)
      obtain ⟨w9, hw9⟩ : ∃ w9, w9 = (w0.setCell ⟨q, 0, none⟩ (.int .i64 k)) := ⟨_, rfl⟩
      have HX9 : Hid (Below w.heap.size w w9) := by rw [hw9]; exact (HX.out.setCell hwq _)
      have HC9 : Hid (Cm w9 w.heap.size (k, cl, sq, id, tx)) := by rw [hw9]; exact (HC.out.far _ hpq)
      have HZ9 : Hid (Cm w9 q r) := by rw [hw9, HRR.out, HRE.out]; exact (HZ.out.set0 k)
      rw [← hw9]
      clear hw9 HX HC HZ c0 c1 c2 c3 c4 z0 z1 z2 z3 z4 y0 y1 y2 y3 y4
      obtain ⟨c0, c1, c2, c3, c4, _, _, _, _, _, _⟩ := HC9.out
      obtain ⟨z0, z1, z2, z3, z4, y0, y1, y2, y3, y4, _⟩ := HZ9.out
      have HPU : Hid (Cm (((((w9.setCell ⟨q, 0, none⟩ (.int .i64 r.1)).setCell ⟨q, 1, none⟩ (.int .i64 r.2.1)).setCell ⟨q, 2, none⟩ (.int .i64 r.2.2.1)).setCell ⟨q, 3, none⟩ (.string r.2.2.2.1)).setCell ⟨q, 4, none⟩ (.string r.2.2.2.2)) q r) := ((((HZ9.out.set0 r.1).set1 r.2.1).set2 r.2.2.1).set3 r.2.2.2.1).set4 r.2.2.2.2
      have HCU : Hid (Cm (((((w9.setCell ⟨q, 0, none⟩ (.int .i64 r.1)).setCell ⟨q, 1, none⟩ (.int .i64 r.2.1)).setCell ⟨q, 2, none⟩ (.int .i64 r.2.2.1)).setCell ⟨q, 3, none⟩ (.string r.2.2.2.1)).setCell ⟨q, 4, none⟩ (.string r.2.2.2.2)) w.heap.size (k, cl, sq, id, tx)) := ((((HC9.out.far _ hpq).far _ hpq).far _ hpq).far _ hpq).far _ hpq
      obtain ⟨d0, _, _, _, _, _, _, _, _, _, _⟩ := HCU.out.drew
      obtain ⟨e0, e1, e2, e3, e4, _, _, _, _, _, _⟩ := HPU.out.drew
      go_region_held3 (fun w' => w'.cell? ⟨w.heap.size, 0, none⟩ = some (.int .i64 k) ∧ w'.cell? ⟨q, 0, none⟩ = some (.int .i64 r.1) ∧ w'.cell? ⟨q, 1, none⟩ = some (.int .i64 r.2.1) ∧ w'.cell? ⟨q, 2, none⟩ = some (.int .i64 r.2.2.1) ∧ w'.cell? ⟨q, 3, none⟩ = some (.string r.2.2.2.1) ∧ w'.cell? ⟨q, 4, none⟩ = some (.string r.2.2.2.2))
        (first | (with_reducible exact ⟨c0, z0, z1, z2, z3, z4⟩) | (with_reducible exact ⟨d0, e0, e1, e2, e3, e4⟩) | go_keep) (fail)
      go_wp2
      refine bodyPost_ret (v := .tuple #[.agg #[.int .i64 r.1, .int .i64 r.2.1, .int .i64 r.2.2.1, .string r.2.2.2.1, .string r.2.2.2.2], .bool u]) (by simp [results, Try.results94, go_sem, *]) rfl ?_
      refine ⟨by rw [hu9], ?_⟩
      exact below_drew (((((HX9.out.setCell hwq _).setCell hwq _).setCell hwq _).setCell hwq _).setCell hwq _)
    · have hk1 : (k == 1) = false := by rw [beq_eq_false_iff_ne]; exact h1
      have hu9 : u = false := by rw [hu1]; exact decide_eq_false h1
      clear hu1 HU h1
      by_cases hlt : 2 ≤ k
      · have hgt : ¬ k ≤ 4 := by omega
        clear hk
        go_upto_region 9 with (fail)
        obtain ⟨w9, hw9⟩ : ∃ w9, w9 = (w0.setCell ⟨q, 0, none⟩ (.int .i64 k)) := ⟨_, rfl⟩
        have HX9 : Hid (Below w.heap.size w w9) := by rw [hw9]; exact (HX.out.setCell hwq _)
        have HC9 : Hid (Cm w9 w.heap.size (k, cl, sq, id, tx)) := by rw [hw9]; exact (HC.out.far _ hpq)
        have HZ9 : Hid (Cm w9 q r) := by rw [hw9, HRR.out, HRE.out]; exact (HZ.out.set0 k)
        rw [← hw9]
        clear hw9 HX HC HZ c0 c1 c2 c3 c4 z0 z1 z2 z3 z4 y0 y1 y2 y3 y4
        obtain ⟨c0, c1, c2, c3, c4, _, _, _, _, _, _⟩ := HC9.out
        obtain ⟨z0, z1, z2, z3, z4, y0, y1, y2, y3, y4, _⟩ := HZ9.out
        have HPU : Hid (Cm (((((w9.setCell ⟨q, 0, none⟩ (.int .i64 r.1)).setCell ⟨q, 1, none⟩ (.int .i64 r.2.1)).setCell ⟨q, 2, none⟩ (.int .i64 r.2.2.1)).setCell ⟨q, 3, none⟩ (.string r.2.2.2.1)).setCell ⟨q, 4, none⟩ (.string r.2.2.2.2)) q r) := ((((HZ9.out.set0 r.1).set1 r.2.1).set2 r.2.2.1).set3 r.2.2.2.1).set4 r.2.2.2.2
        have HCU : Hid (Cm (((((w9.setCell ⟨q, 0, none⟩ (.int .i64 r.1)).setCell ⟨q, 1, none⟩ (.int .i64 r.2.1)).setCell ⟨q, 2, none⟩ (.int .i64 r.2.2.1)).setCell ⟨q, 3, none⟩ (.string r.2.2.2.1)).setCell ⟨q, 4, none⟩ (.string r.2.2.2.2)) w.heap.size (k, cl, sq, id, tx)) := ((((HC9.out.far _ hpq).far _ hpq).far _ hpq).far _ hpq).far _ hpq
        obtain ⟨d0, _, _, _, _, _, _, _, _, _, _⟩ := HCU.out.drew
        obtain ⟨e0, e1, e2, e3, e4, _, _, _, _, _, _⟩ := HPU.out.drew
        go_region_held3 (fun w' => w'.cell? ⟨w.heap.size, 0, none⟩ = some (.int .i64 k) ∧ w'.cell? ⟨q, 0, none⟩ = some (.int .i64 r.1) ∧ w'.cell? ⟨q, 1, none⟩ = some (.int .i64 r.2.1) ∧ w'.cell? ⟨q, 2, none⟩ = some (.int .i64 r.2.2.1) ∧ w'.cell? ⟨q, 3, none⟩ = some (.string r.2.2.2.1) ∧ w'.cell? ⟨q, 4, none⟩ = some (.string r.2.2.2.2))
          (first | (with_reducible exact ⟨c0, z0, z1, z2, z3, z4⟩) | (with_reducible exact ⟨d0, e0, e1, e2, e3, e4⟩) | go_keep) (fail)
        go_wp2
        refine bodyPost_ret (v := .tuple #[.agg #[.int .i64 r.1, .int .i64 r.2.1, .int .i64 r.2.2.1, .string r.2.2.2.1, .string r.2.2.2.2], .bool u]) (by simp [results, Try.results94, go_sem, *]) rfl ?_
        refine ⟨by rw [hu9], ?_⟩
        exact below_drew (((((HX9.out.setCell hwq _).setCell hwq _).setCell hwq _).setCell hwq _).setCell hwq _)
      · clear hk
        go_upto_region 9 with (fail)
        obtain ⟨w9, hw9⟩ : ∃ w9, w9 = (w0.setCell ⟨q, 0, none⟩ (.int .i64 k)) := ⟨_, rfl⟩
        have HX9 : Hid (Below w.heap.size w w9) := by rw [hw9]; exact (HX.out.setCell hwq _)
        have HC9 : Hid (Cm w9 w.heap.size (k, cl, sq, id, tx)) := by rw [hw9]; exact (HC.out.far _ hpq)
        have HZ9 : Hid (Cm w9 q r) := by rw [hw9, HRR.out, HRE.out]; exact (HZ.out.set0 k)
        rw [← hw9]
        clear hw9 HX HC HZ c0 c1 c2 c3 c4 z0 z1 z2 z3 z4 y0 y1 y2 y3 y4
        obtain ⟨c0, c1, c2, c3, c4, _, _, _, _, _, _⟩ := HC9.out
        obtain ⟨z0, z1, z2, z3, z4, y0, y1, y2, y3, y4, _⟩ := HZ9.out
        have HPU : Hid (Cm (((((w9.setCell ⟨q, 0, none⟩ (.int .i64 r.1)).setCell ⟨q, 1, none⟩ (.int .i64 r.2.1)).setCell ⟨q, 2, none⟩ (.int .i64 r.2.2.1)).setCell ⟨q, 3, none⟩ (.string r.2.2.2.1)).setCell ⟨q, 4, none⟩ (.string r.2.2.2.2)) q r) := ((((HZ9.out.set0 r.1).set1 r.2.1).set2 r.2.2.1).set3 r.2.2.2.1).set4 r.2.2.2.2
        have HCU : Hid (Cm (((((w9.setCell ⟨q, 0, none⟩ (.int .i64 r.1)).setCell ⟨q, 1, none⟩ (.int .i64 r.2.1)).setCell ⟨q, 2, none⟩ (.int .i64 r.2.2.1)).setCell ⟨q, 3, none⟩ (.string r.2.2.2.1)).setCell ⟨q, 4, none⟩ (.string r.2.2.2.2)) w.heap.size (k, cl, sq, id, tx)) := ((((HC9.out.far _ hpq).far _ hpq).far _ hpq).far _ hpq).far _ hpq
        obtain ⟨d0, _, _, _, _, _, _, _, _, _, _⟩ := HCU.out.drew
        obtain ⟨e0, e1, e2, e3, e4, _, _, _, _, _, _⟩ := HPU.out.drew
        go_region_held3 (fun w' => w'.cell? ⟨w.heap.size, 0, none⟩ = some (.int .i64 k) ∧ w'.cell? ⟨q, 0, none⟩ = some (.int .i64 r.1) ∧ w'.cell? ⟨q, 1, none⟩ = some (.int .i64 r.2.1) ∧ w'.cell? ⟨q, 2, none⟩ = some (.int .i64 r.2.2.1) ∧ w'.cell? ⟨q, 3, none⟩ = some (.string r.2.2.2.1) ∧ w'.cell? ⟨q, 4, none⟩ = some (.string r.2.2.2.2))
          (first | (with_reducible exact ⟨c0, z0, z1, z2, z3, z4⟩) | (with_reducible exact ⟨d0, e0, e1, e2, e3, e4⟩) | go_keep) (fail)
        go_wp2
        refine bodyPost_ret (v := .tuple #[.agg #[.int .i64 r.1, .int .i64 r.2.1, .int .i64 r.2.2.1, .string r.2.2.2.1, .string r.2.2.2.2], .bool u]) (by simp [results, Try.results94, go_sem, *]) rfl ?_
        refine ⟨by rw [hu9], ?_⟩
        exact below_drew (((((HX9.out.setCell hwq _).setCell hwq _).setCell hwq _).setCell hwq _).setCell hwq _)
end Go.Proofs.Ytpdnkhdnenibgaa
