/- The walks of the document's May and Last. -/
import Derived.Test.YtpdnkhdnenibgaaEntR
set_option linter.unusedVariables false
set_option linter.unusedSimpArgs false
namespace Go.Proofs.Ytpdnkhdnenibgaa
open Go.RowKit Lec

set_option maxRecDepth 100000 in
theorem rMay_any (w : World) (b t : Int) (A : Option Addr) (n c : Nat) (es : List Ent) (hn : es.length = n) (hm : n ≤ 9223372036854775807) (hr : Rds w A (entsC es)) (u : Bool) (hu : decide (mayL b t es) = u) :
    Calls Try.prog 42 #[.agg #[.int .i64 b, .int .i64 t, .slice A n c]] w fun r w' => r = .returned (.bool u) ∧ Below w.heap.size w w' := by
  have HR := Lib.hid hr
  have HN := Lib.hid hn
  have HU := Lib.hid hu
  clear hr hn hu
  have hb0 : Below w.heap.size w (w.alloc (.cells #[.int .i64 b, .int .i64 t, .slice A n c] 26)) := (Below.refl _ _).alloc (Nat.le_refl _) _
  have HR2 := Lib.hid (HR.out.ext hb0 (Nat.le_refl _))
  go_enter Try.func42, Try.ntmps42
  by_cases h1 : 0 ≤ b
  · by_cases h2 : b ≤ 1099511625728
    · by_cases h3 : 0 ≤ t ∧ t ≤ 1099511627775
      · obtain ⟨h3, h3b⟩ := h3
        by_cases h4 : n ≤ 512
        · have h4i : (n : Int) ≤ 512 := by omega
          by_cases h5 : runsE b t es
          · have HFW := Lib.hid (decide_eq_true h5)
            have HE : Hid (u = true) := by show _ = _; rw [← HU.out]; exact decide_eq_true ⟨h1, h2, h3, h3b, by rw [HN.out]; exact h4, h5⟩
            clear HU h5
            go_wp2_with (go_at_call 67; refine (rRuns_any _ A n c b t es HN.out hm (by omega) HR2.out _ HFW.out).mono ?_; rintro r wq ⟨rfl, hb9⟩)
            go_ret
            exact ⟨by rw [HE.out]; rfl, hb0.trans (hb9.mono (by simp))⟩
          · have HFW := Lib.hid (decide_eq_false h5)
            have HE : Hid (u = false) := by show _ = _; rw [← HU.out]; exact decide_eq_false (fun h => h5 h.2.2.2.2.2)
            clear HU
            go_wp2_with (go_at_call 67; refine (rRuns_any _ A n c b t es HN.out hm (by omega) HR2.out _ HFW.out).mono ?_; rintro r wq ⟨rfl, hb9⟩)
            go_ret
            exact ⟨by rw [HE.out]; rfl, hb0.trans (hb9.mono (by simp))⟩
        · have h4i : ¬ (n : Int) ≤ 512 := by omega
          have HE : Hid (u = false) := by show _ = _; rw [← HU.out]; exact decide_eq_false (fun h => h4 (by rw [← HN.out]; exact h.2.2.2.2.1))
          clear HU
          go_wp2_with (go_at_call 67; refine (rRuns_any _ A n c b t es HN.out hm (by omega) HR2.out _ HFW.out).mono ?_; rintro r wq ⟨rfl, hb9⟩)
          go_ret
          exact ⟨by rw [HE.out]; rfl, hb0⟩
      · have HE : Hid (u = false) := by show _ = _; rw [← HU.out]; exact decide_eq_false (fun h => h3 ⟨h.2.2.1, h.2.2.2.1⟩)
        clear HU
        by_cases h3a : 0 ≤ t
        · have h3b : ¬ t ≤ 1099511627775 := fun h => h3 ⟨h3a, h⟩
          clear h3
          go_wp2
          go_ret
          exact ⟨by rw [HE.out]; rfl, hb0⟩
        · clear h3
          go_wp2
          go_ret
          exact ⟨by rw [HE.out]; rfl, hb0⟩
    · have HE : Hid (u = false) := by show _ = _; rw [← HU.out]; exact decide_eq_false (fun h => h2 h.2.1)
      clear HU
      go_wp2
      go_ret
      exact ⟨by rw [HE.out]; rfl, hb0⟩
  · have HE : Hid (u = false) := by show _ = _; rw [← HU.out]; exact decide_eq_false (fun h => h1 h.1)
    clear HU
    go_wp2
    go_ret
    exact ⟨by rw [HE.out]; rfl, hb0⟩
set_option maxRecDepth 100000 in
theorem rLast_any (w : World) (b t : Int) (A : Option Addr) (n c : Nat) (es : List Ent) (hn : es.length = n) (hm : n ≤ 9223372036854775807) (hr : Rds w A (entsC es)) :
    Calls Try.prog 22 #[.agg #[.int .i64 b, .int .i64 t, .slice A n c]] w fun r w' => r = .returned (.tuple #[.int .i64 (endE b t es).1, .int .i64 (endE b t es).2]) ∧ Below w.heap.size w w' := by
  have hb0 : Below w.heap.size w (w.alloc (.cells #[.int .i64 b, .int .i64 t, .slice A n c] 26)) := (Below.refl _ _).alloc (Nat.le_refl _) _
  have HR2 := Lib.hid (hr.ext hb0 (Nat.le_refl _))
  have HN := Lib.hid hn
  clear hr hn
  rcases List.eq_nil_or_concat es with rfl | ⟨zs, z, rfl⟩
  · obtain rfl : n = 0 := by have := HN.out; simpa using this.symm
    go_enter Try.func22, Try.ntmps22
    go_wp2_with fail
    have hk0 : (w.alloc (.cells #[.int .i64 b, .int .i64 t, .slice A 0 c] 26)).cell? ⟨w.heap.size, 0, none⟩ = some (.int .i64 b) := by rw [cell_of_row _ _ _ _ _ _ (heap_alloc_new _ _)]; rfl
    have hk1 : (w.alloc (.cells #[.int .i64 b, .int .i64 t, .slice A 0 c] 26)).cell? ⟨w.heap.size, 1, none⟩ = some (.int .i64 t) := by rw [cell_of_row _ _ _ _ _ _ (heap_alloc_new _ _)]; rfl
    have hk2 : (w.alloc (.cells #[.int .i64 b, .int .i64 t, .slice A 0 c] 26)).cell? ⟨w.heap.size, 2, none⟩ = some (.slice A 0 c) := by rw [cell_of_row _ _ _ _ _ _ (heap_alloc_new _ _)]; rfl
    have HX0 := Lib.hid hb0
    clear hb0 HR2 HN
    generalize w.alloc (.cells #[.int .i64 b, .int .i64 t, .slice A 0 c] 26) = w0 at *
    go_quiet (fail)
    go_wp2
    go_ret2
    exact ⟨rfl, HX0.out.trans ((drawn_below _ nq).mono HX0.out.size)⟩
  · rw [List.concat_eq_append] at HR2 HN ⊢
    rw [endE_snoc]
    have hzl : zs.length + 1 = n := by have := HN.out; simpa using this
    obtain ⟨a, rfl, g0, g1, g2⟩ := ents_cells HR2.out zs.length (by simp)
    simp only [List.getElem_append_right (Nat.le_refl _), Nat.sub_self, List.getElem_singleton] at g0 g1 g2
    obtain ⟨zi, zt, zd⟩ := z
    subst hzl
    have hi : (((zs.length + 1 : Nat) : Int) == 0) = false := by rw [beq_eq_false_iff_ne]; omega
    have hx : ((zs.length + 1 : Nat) : Int) - 1 = (zs.length : Int) := by omega
    have hx2 : (((zs.length + 1 : Nat) : Int) - 1).toNat = zs.length := by omega
    go_enter Try.func22, Try.ntmps22
    go_wp2_with fail
    have hk0 : (w.alloc (.cells #[.int .i64 b, .int .i64 t, .slice (some a) (zs.length + 1) c] 26)).cell? ⟨w.heap.size, 0, none⟩ = some (.int .i64 b) := by rw [cell_of_row _ _ _ _ _ _ (heap_alloc_new _ _)]; rfl
    have hk1 : (w.alloc (.cells #[.int .i64 b, .int .i64 t, .slice (some a) (zs.length + 1) c] 26)).cell? ⟨w.heap.size, 1, none⟩ = some (.int .i64 t) := by rw [cell_of_row _ _ _ _ _ _ (heap_alloc_new _ _)]; rfl
    have hk2 : (w.alloc (.cells #[.int .i64 b, .int .i64 t, .slice (some a) (zs.length + 1) c] 26)).cell? ⟨w.heap.size, 2, none⟩ = some (.slice (some a) (zs.length + 1) c) := by rw [cell_of_row _ _ _ _ _ _ (heap_alloc_new _ _)]; rfl
    have HX0 := Lib.hid hb0
    clear hb0 HR2 HN
    generalize w.alloc (.cells #[.int .i64 b, .int .i64 t, .slice (some a) (zs.length + 1) c] 26) = w0 at *
    have hw0 : IntKind.i64.wrap (((zs.length + 1 : Nat) : Int) - 1) = (zs.length : Int) := by rw [hx, wrap_id (by omega)]
    have hil : (zs.length : Int) < ((zs.length + 1 : Nat) : Int) := by omega
    go_quiet (fail)
    go_wp2
    go_ret2
    exact ⟨rfl, HX0.out.trans ((drawn_below _ nq).mono HX0.out.size)⟩
end Go.Proofs.Ytpdnkhdnenibgaa
