/- The walks of entries.Ahead and Newer. -/
import Derived.Test.YtpdnkhdnenibgaaEntA
set_option linter.unusedVariables false
set_option linter.unusedSimpArgs false
namespace Lec
/-- Is a log that ends at en not behind one that ends at (i, t)? (The other way: is that one not behind this?) -/
def newE (en : Int × Int) (i t : Int) : Bool := decide (en.2 < t ∨ t = en.2 ∧ en.1 ≤ i)
end Lec
namespace Go.Proofs.Ytpdnkhdnenibgaa
open Go.RowKit Lec

set_option maxRecDepth 100000 in
theorem Ahead_any (w : World) (b t : Int) (A : Option Addr) (n c : Nat) (es : List Ent) (hn : es.length = n) (hm : n ≤ 9223372036854775807) (hr : Rds w A (entsC es)) (i s : Int) :
    Calls Try.prog 68 #[.agg #[.int .i64 b, .int .i64 t, .slice A n c], .int .i64 i, .int .i64 s] w fun r w' => r = .returned (.bool (newE (endE b t es) i s)) ∧ Below w.heap.size w w' := by
  have HR := Lib.hid hr
  have HN := Lib.hid hn
  clear hr hn
  generalize hnew : newE (endE b t es) i s = u
  have HU := Lib.hid hnew
  clear hnew
  go_enter Try.func68, Try.ntmps68
  go_wp2_with fail
  obtain ⟨w0, hw0⟩ : ∃ w0, w0 = w.alloc (.cells #[.int .i64 b, .int .i64 t, .slice A n c] 26) := ⟨_, rfl⟩
  rw [← hw0]
  have HX : Hid (Below w.heap.size w w0) := by rw [hw0]; exact (Below.refl _ _).alloc (Nat.le_refl _) _
  have hk0 : w0.cell? ⟨w.heap.size, 0, none⟩ = some (.int .i64 b) := by rw [hw0, cell_of_row _ _ _ _ _ _ (heap_alloc_new _ _)]; rfl
  have hk1 : w0.cell? ⟨w.heap.size, 1, none⟩ = some (.int .i64 t) := by rw [hw0, cell_of_row _ _ _ _ _ _ (heap_alloc_new _ _)]; rfl
  have hk2 : w0.cell? ⟨w.heap.size, 2, none⟩ = some (.slice A n c) := by rw [hw0, cell_of_row _ _ _ _ _ _ (heap_alloc_new _ _)]; rfl
  have HR0 := Lib.hid (HR.out.ext HX.out (Nat.le_refl _))
  clear hw0
  refine (End_any w0 b t A n c es HN.out hm HR0.out).mono ?_
  rintro r w1 ⟨rfl, hb⟩
  have HF : Hid (Below w.heap.size w w1) := HX.out.trans (hb.mono HX.out.size)
  clear hb
  generalize endE b t es = en at *
  obtain ⟨ei, et⟩ := en
  by_cases h1 : et < s
  · have HE : Hid (u = true) := by show _ = _; rw [← HU.out]; unfold newE; exact decide_eq_true (.inl h1)
    go_wp2
    go_ret
    exact ⟨by rw [HE.out]; rfl, HF.out⟩
  · by_cases h2 : s = et
    · have h2i : (s == et) = true := by rw [beq_iff_eq]; exact h2
      by_cases h3 : ei ≤ i
      · have HE : Hid (u = true) := by show _ = _; rw [← HU.out]; unfold newE; exact decide_eq_true (.inr ⟨h2, h3⟩)
        clear h2
        go_wp2
        go_ret
        exact ⟨by rw [HE.out]; first | rfl | (simp; omega), HF.out⟩
      · have HE : Hid (u = false) := by show _ = _; rw [← HU.out]; unfold newE; exact decide_eq_false (fun h => by rcases h with h | h <;> omega)
        clear h2
        go_wp2
        go_ret
        exact ⟨by rw [HE.out]; first | rfl | (simp; omega), HF.out⟩
    · have h2i : (s == et) = false := by rw [beq_eq_false_iff_ne]; exact h2
      have HE : Hid (u = false) := by show _ = _; rw [← HU.out]; unfold newE; exact decide_eq_false (fun h => by rcases h with h | h <;> omega)
      clear h2
      go_wp2
      go_ret
      exact ⟨by rw [HE.out]; first | rfl | (simp; omega), HF.out⟩

set_option maxRecDepth 100000 in
theorem Newer_no (w : World) (b t : Int) (A : Option Addr) (n c : Nat) (es : List Ent) (hn : es.length = n) (hm : n ≤ 9223372036854775807) (hr : Rds w A (entsC es)) (hno : ¬ mayL b t es) (i s : Int) :
    Calls Try.prog 25 #[.agg #[.int .i64 b, .int .i64 t, .slice A n c], .int .i64 i, .int .i64 s] w fun r w' => r = .returned (.tuple #[.bool false, .int .i64 1]) ∧ Below w.heap.size w w' := by
  have HR := Lib.hid hr
  have HN := Lib.hid hn
  have HM := Lib.hid (decide_eq_false hno)
  clear hr hn hno
  go_enter Try.func25, Try.ntmps25
  go_wp2_with fail
  obtain ⟨w0, hw0⟩ : ∃ w0, w0 = w.alloc (.cells #[.int .i64 b, .int .i64 t, .slice A n c] 26) := ⟨_, rfl⟩
  rw [← hw0]
  have HX : Hid (Below w.heap.size w w0) := by rw [hw0]; exact (Below.refl _ _).alloc (Nat.le_refl _) _
  have hk0 : w0.cell? ⟨w.heap.size, 0, none⟩ = some (.int .i64 b) := by rw [hw0, cell_of_row _ _ _ _ _ _ (heap_alloc_new _ _)]; rfl
  have hk1 : w0.cell? ⟨w.heap.size, 1, none⟩ = some (.int .i64 t) := by rw [hw0, cell_of_row _ _ _ _ _ _ (heap_alloc_new _ _)]; rfl
  have hk2 : w0.cell? ⟨w.heap.size, 2, none⟩ = some (.slice A n c) := by rw [hw0, cell_of_row _ _ _ _ _ _ (heap_alloc_new _ _)]; rfl
  have HR0 := Lib.hid (HR.out.ext HX.out (Nat.le_refl _))
  clear hw0
  refine (May_any w0 b t A n c es HN.out hm HR0.out _ HM.out).mono ?_
  rintro r w1 ⟨rfl, hb⟩
  go_wp2
  go_ret2
  exact ⟨rfl, HX.out.trans (hb.mono HX.out.size)⟩

set_option maxRecDepth 100000 in
theorem Newer_any (w : World) (b t : Int) (A : Option Addr) (n c : Nat) (es : List Ent) (hn : es.length = n) (hm : n ≤ 9223372036854775807) (hr : Rds w A (entsC es)) (hok : mayL b t es) (i s : Int) :
    Calls Try.prog 25 #[.agg #[.int .i64 b, .int .i64 t, .slice A n c], .int .i64 i, .int .i64 s] w fun r w' => r = .returned (.tuple #[.bool (newE (endE b t es) i s), .int .i64 0]) ∧ Below w.heap.size w w' := by
  have HR := Lib.hid hr
  have HN := Lib.hid hn
  have HM := Lib.hid (decide_eq_true hok)
  clear hr hn hok
  generalize hnew : newE (endE b t es) i s = u
  have HNW := Lib.hid hnew
  clear hnew
  go_enter Try.func25, Try.ntmps25
  go_wp2_with fail
  obtain ⟨w0, hw0⟩ : ∃ w0, w0 = w.alloc (.cells #[.int .i64 b, .int .i64 t, .slice A n c] 26) := ⟨_, rfl⟩
  rw [← hw0]
  have HX : Hid (Below w.heap.size w w0) := by rw [hw0]; exact (Below.refl _ _).alloc (Nat.le_refl _) _
  have hk0 : w0.cell? ⟨w.heap.size, 0, none⟩ = some (.int .i64 b) := by rw [hw0, cell_of_row _ _ _ _ _ _ (heap_alloc_new _ _)]; rfl
  have hk1 : w0.cell? ⟨w.heap.size, 1, none⟩ = some (.int .i64 t) := by rw [hw0, cell_of_row _ _ _ _ _ _ (heap_alloc_new _ _)]; rfl
  have hk2 : w0.cell? ⟨w.heap.size, 2, none⟩ = some (.slice A n c) := by rw [hw0, cell_of_row _ _ _ _ _ _ (heap_alloc_new _ _)]; rfl
  have HR0 := Lib.hid (HR.out.ext HX.out (Nat.le_refl _))
  clear hw0
  have HK := Lib.hid hk0
  have HK1 := Lib.hid hk1
  have HK2 := Lib.hid hk2
  clear hk0 hk1 hk2
  refine (May_any w0 b t A n c es HN.out hm HR0.out _ HM.out).mono ?_
  rintro r w1 ⟨rfl, hb⟩
  have HB := Lib.hid hb
  clear hb
  have hk0 := cell_ext HB.out (Nat.le_refl _) HK.out
  have hk1 := cell_ext HB.out (Nat.le_refl _) HK1.out
  have hk2 := cell_ext HB.out (Nat.le_refl _) HK2.out
  go_wp2_with fail
  refine (Ahead_any w1 b t A n c es HN.out hm (HR0.out.ext HB.out (Nat.le_refl _)) i s).mono ?_
  rintro r w2 ⟨rfl, hb⟩
  have HF : Hid (Below w.heap.size w w2) := HX.out.trans ((HB.out.trans (hb.mono HB.out.size)).mono HX.out.size)
  clear hb
  rw [HNW.out]
  go_wp2
  go_ret2
  exact ⟨rfl, HF.out⟩
end Go.Proofs.Ytpdnkhdnenibgaa
