/- The walks of entries.At, Check, Last, Term. -/
import Derived.Test.YtpdnkhdnenibgaaEntE
set_option linter.unusedVariables false
set_option linter.unusedSimpArgs false
namespace Lec
/-- The term of an index, if it is there. -/
def atE (b t : Int) (es : List Ent) (i : Int) : Option Int :=
  if i = b then some t else if i < b ∨ b + es.length < i then none else (es[(i - b - 1).toNat]?).map (·.2.1)
theorem atE_base (b t : Int) (es : List Ent) : atE b t es b = some t := by unfold atE; rw [if_pos rfl]
theorem atE_out {b t i : Int} {es : List Ent} (h : i < b ∨ b + es.length < i) : atE b t es i = none := by
  unfold atE; rw [if_neg (by omega), if_pos h]
theorem atE_in {b t : Int} {es : List Ent} {k : Nat} (h : k < es.length) : atE b t es (b + 1 + k) = some es[k].2.1 := by
  unfold atE; rw [if_neg (by omega), if_neg (by omega), show (b + 1 + k - b - 1 : Int).toNat = k by omega, List.getElem?_eq_getElem h]; rfl
end Lec
namespace Go.Proofs.Ytpdnkhdnenibgaa
open Go.RowKit Lec

set_option maxRecDepth 100000 in
theorem Last_no (w : World) (b t : Int) (A : Option Addr) (n c : Nat) (es : List Ent) (hn : es.length = n) (hm : n ≤ 9223372036854775807) (hr : Rds w A (entsC es)) (hno : ¬ mayL b t es) :
    Calls Try.prog 21 #[.agg #[.int .i64 b, .int .i64 t, .slice A n c]] w fun r w' => r = .returned (.tuple #[.int .i64 0, .int .i64 0, .int .i64 1]) ∧ Below w.heap.size w w' := by
  have HR := Lib.hid hr
  have HN := Lib.hid hn
  have HM := Lib.hid (decide_eq_false hno)
  clear hr hn hno
  go_enter Try.func21, Try.ntmps21
  go_wp2_with fail
  have hk0 : (w.alloc (.cells #[.int .i64 b, .int .i64 t, .slice A n c] 26)).cell? ⟨w.heap.size, 0, none⟩ = some (.int .i64 b) := by rw [cell_of_row _ _ _ _ _ _ (heap_alloc_new _ _)]; rfl
  have hk1 : (w.alloc (.cells #[.int .i64 b, .int .i64 t, .slice A n c] 26)).cell? ⟨w.heap.size, 1, none⟩ = some (.int .i64 t) := by rw [cell_of_row _ _ _ _ _ _ (heap_alloc_new _ _)]; rfl
  have hk2 : (w.alloc (.cells #[.int .i64 b, .int .i64 t, .slice A n c] 26)).cell? ⟨w.heap.size, 2, none⟩ = some (.slice A n c) := by rw [cell_of_row _ _ _ _ _ _ (heap_alloc_new _ _)]; rfl
  have HX0 : Hid (Below w.heap.size w (w.alloc (.cells #[.int .i64 b, .int .i64 t, .slice A n c] 26))) := (Below.refl _ _).alloc (Nat.le_refl _) _
  have HR0 := Lib.hid (HR.out.ext HX0.out (Nat.le_refl _))
  have HK0 := Lib.hid hk0
  have HK1 := Lib.hid hk1
  have HK2 := Lib.hid hk2
  clear hk0 hk1 hk2
  generalize w.alloc (.cells #[.int .i64 b, .int .i64 t, .slice A n c] 26) = w0 at *
  refine (May_any w0 b t A n c es HN.out hm HR0.out _ HM.out).mono ?_
  rintro r w1 ⟨rfl, hb1⟩
  go_wp2
  go_ret3
  exact ⟨rfl, HX0.out.trans (hb1.mono HX0.out.size)⟩

set_option maxRecDepth 100000 in
theorem Last_any (w : World) (b t : Int) (A : Option Addr) (n c : Nat) (es : List Ent) (hn : es.length = n) (hm : n ≤ 9223372036854775807) (hr : Rds w A (entsC es)) (hok : mayL b t es) :
    Calls Try.prog 21 #[.agg #[.int .i64 b, .int .i64 t, .slice A n c]] w fun r w' => r = .returned (.tuple #[.int .i64 (endE b t es).1, .int .i64 (endE b t es).2, .int .i64 0]) ∧ Below w.heap.size w w' := by
  have HR := Lib.hid hr
  have HN := Lib.hid hn
  have HM := Lib.hid (decide_eq_true hok)
  clear hr hn hok
  go_enter Try.func21, Try.ntmps21
  go_wp2_with fail
  have hk0 : (w.alloc (.cells #[.int .i64 b, .int .i64 t, .slice A n c] 26)).cell? ⟨w.heap.size, 0, none⟩ = some (.int .i64 b) := by rw [cell_of_row _ _ _ _ _ _ (heap_alloc_new _ _)]; rfl
  have hk1 : (w.alloc (.cells #[.int .i64 b, .int .i64 t, .slice A n c] 26)).cell? ⟨w.heap.size, 1, none⟩ = some (.int .i64 t) := by rw [cell_of_row _ _ _ _ _ _ (heap_alloc_new _ _)]; rfl
  have hk2 : (w.alloc (.cells #[.int .i64 b, .int .i64 t, .slice A n c] 26)).cell? ⟨w.heap.size, 2, none⟩ = some (.slice A n c) := by rw [cell_of_row _ _ _ _ _ _ (heap_alloc_new _ _)]; rfl
  have HX0 : Hid (Below w.heap.size w (w.alloc (.cells #[.int .i64 b, .int .i64 t, .slice A n c] 26))) := (Below.refl _ _).alloc (Nat.le_refl _) _
  have HR0 := Lib.hid (HR.out.ext HX0.out (Nat.le_refl _))
  have HK0 := Lib.hid hk0
  have HK1 := Lib.hid hk1
  have HK2 := Lib.hid hk2
  clear hk0 hk1 hk2
  generalize w.alloc (.cells #[.int .i64 b, .int .i64 t, .slice A n c] 26) = w0 at *
  refine (May_any w0 b t A n c es HN.out hm HR0.out _ HM.out).mono ?_
  rintro r w1 ⟨rfl, hb1⟩
  have HB1 := Lib.hid hb1
  clear hb1
  have hk0 := cell_ext HB1.out (Nat.le_refl _) HK0.out
  have hk1 := cell_ext HB1.out (Nat.le_refl _) HK1.out
  have hk2 := cell_ext HB1.out (Nat.le_refl _) HK2.out
  have HR1 := Lib.hid (HR0.out.ext HB1.out (Nat.le_refl _))
  go_wp2_with fail
  refine (End_any w1 b t A n c es HN.out hm HR1.out).mono ?_
  rintro r w2 ⟨rfl, hb2⟩
  go_wp2
  go_ret3
  have h := HB1.out.trans (hb2.mono HB1.out.size)
  exact ⟨rfl, HX0.out.trans (h.mono HX0.out.size)⟩

def atR (o : Option Int) : Int × Bool := match o with | some x => (x, true) | none => (0, false)

set_option maxRecDepth 100000 in
theorem At_any (w : World) (b t : Int) (A : Option Addr) (n c : Nat) (es : List Ent) (hn : es.length = n) (hm : n ≤ 1000000) (hr : Rds w A (entsC es)) (hok : mayL b t es) (i : Int) :
    Calls Try.prog 69 #[.agg #[.int .i64 b, .int .i64 t, .slice A n c], .int .i64 i] w fun r w' => r = .returned (.tuple #[.int .i64 (atR (atE b t es i)).1, .bool (atR (atE b t es i)).2]) ∧ Below w.heap.size w w' := by
  have HR := Lib.hid hr
  have HN := Lib.hid hn
  have hend : (endE b t es).1 = b + n := by rw [runsE_end _ _ _ hok.2.2.2.2.2, hn]
  have hbb : 0 ≤ b ∧ b ≤ 1099511625728 := ⟨hok.1, hok.2.1⟩
  clear hr hn hok
  go_enter Try.func69, Try.ntmps69
  go_wp2_with fail
  have hk0 : (w.alloc (.cells #[.int .i64 b, .int .i64 t, .slice A n c] 26)).cell? ⟨w.heap.size, 0, none⟩ = some (.int .i64 b) := by rw [cell_of_row _ _ _ _ _ _ (heap_alloc_new _ _)]; rfl
  have hk1 : (w.alloc (.cells #[.int .i64 b, .int .i64 t, .slice A n c] 26)).cell? ⟨w.heap.size, 1, none⟩ = some (.int .i64 t) := by rw [cell_of_row _ _ _ _ _ _ (heap_alloc_new _ _)]; rfl
  have hk2 : (w.alloc (.cells #[.int .i64 b, .int .i64 t, .slice A n c] 26)).cell? ⟨w.heap.size, 2, none⟩ = some (.slice A n c) := by rw [cell_of_row _ _ _ _ _ _ (heap_alloc_new _ _)]; rfl
  have HX0 : Hid (Below w.heap.size w (w.alloc (.cells #[.int .i64 b, .int .i64 t, .slice A n c] 26))) := (Below.refl _ _).alloc (Nat.le_refl _) _
  have HR0 := Lib.hid (HR.out.ext HX0.out (Nat.le_refl _))
  have HK0 := Lib.hid hk0
  have HK1 := Lib.hid hk1
  have HK2 := Lib.hid hk2
  clear hk0 hk1 hk2
  generalize w.alloc (.cells #[.int .i64 b, .int .i64 t, .slice A n c] 26) = w0 at *
  refine (End_any w0 b t A n c es HN.out (by omega) HR0.out).mono ?_
  rintro r w1 ⟨rfl, hb1⟩
  rw [hend]
  have HB1 := Lib.hid hb1
  clear hb1
  have hk0 := cell_ext HB1.out (Nat.le_refl _) HK0.out
  have hk1 := cell_ext HB1.out (Nat.le_refl _) HK1.out
  have hk2 := cell_ext HB1.out (Nat.le_refl _) HK2.out
  have HR1 := Lib.hid (HR0.out.ext HB1.out (Nat.le_refl _))
  have HF : Hid (Below w.heap.size w w1) := HX0.out.trans (HB1.out.mono HX0.out.size)
  by_cases h1 : i = b
  · have h1i : (i == b) = true := by rw [beq_iff_eq]; exact h1
    have HE : Hid (atE b t es i = some t) := by rw [h1]; exact atE_base _ _ _
    clear h1
    go_wp2
    go_ret2
    exact ⟨by rw [HE.out]; rfl, HF.out⟩
  · have h1i : (i == b) = false := by rw [beq_eq_false_iff_ne]; exact h1
    by_cases h2 : i < b
    · have HE : Hid (atE b t es i = none) := atE_out (.inl h2)
      clear h1
      go_wp2
      go_ret2
      exact ⟨by rw [HE.out]; rfl, HF.out⟩
    · by_cases h3 : b + n < i
      · have HE : Hid (atE b t es i = none) := atE_out (.inr (by rw [HN.out]; exact h3))
        clear h1
        go_wp2
        go_ret2
        exact ⟨by rw [HE.out]; rfl, HF.out⟩
      · obtain ⟨k, rfl⟩ : ∃ k : Nat, i = b + 1 + k := ⟨(i - b - 1).toNat, by omega⟩
        have hk : k < es.length := by rw [HN.out]; omega
        have HE : Hid (atE b t es (b + 1 + k) = some es[k].2.1) := atE_in hk
        obtain ⟨a, rfl, g0, g1, g2⟩ := ents_cells HR1.out k hk
        have hki : (k : Int) < (n : Int) := by omega
        have hkx : (b + 1 + (k : Int)) - b - 1 = (k : Int) := by omega
        have hkt : ((b + 1 + (k : Int)) - b - 1).toNat = k := by omega
        generalize es[k] = x at *
        clear h1
        go_wp2
        go_ret2
        exact ⟨by rw [HE.out]; rfl, HF.out⟩

set_option maxRecDepth 100000 in
theorem Check_any (w : World) (b t : Int) (A : Option Addr) (n c : Nat) (es : List Ent) (hn : es.length = n) (hm : n ≤ 9223372036854775807) (hr : Rds w A (entsC es)) (x : Int) (hx : (if mayL b t es then 0 else 1) = x) :
    Calls Try.prog 32 #[.agg #[.int .i64 b, .int .i64 t, .slice A n c]] w fun r w' => r = .returned (.int .i64 x) ∧ Below w.heap.size w w' := by
  have HR := Lib.hid hr
  have HN := Lib.hid hn
  clear hr hn
  by_cases hok : mayL b t es
  · have HM := Lib.hid (decide_eq_true hok)
    rw [if_pos hok] at hx
    subst hx
    clear hok
    go_enter Try.func32, Try.ntmps32
    go_wp2_with fail
    have hk0 : (w.alloc (.cells #[.int .i64 b, .int .i64 t, .slice A n c] 26)).cell? ⟨w.heap.size, 0, none⟩ = some (.int .i64 b) := by rw [cell_of_row _ _ _ _ _ _ (heap_alloc_new _ _)]; rfl
    have hk1 : (w.alloc (.cells #[.int .i64 b, .int .i64 t, .slice A n c] 26)).cell? ⟨w.heap.size, 1, none⟩ = some (.int .i64 t) := by rw [cell_of_row _ _ _ _ _ _ (heap_alloc_new _ _)]; rfl
    have hk2 : (w.alloc (.cells #[.int .i64 b, .int .i64 t, .slice A n c] 26)).cell? ⟨w.heap.size, 2, none⟩ = some (.slice A n c) := by rw [cell_of_row _ _ _ _ _ _ (heap_alloc_new _ _)]; rfl
    have HX0 : Hid (Below w.heap.size w (w.alloc (.cells #[.int .i64 b, .int .i64 t, .slice A n c] 26))) := (Below.refl _ _).alloc (Nat.le_refl _) _
    have HR0 := Lib.hid (HR.out.ext HX0.out (Nat.le_refl _))
    have HK0 := Lib.hid hk0
    have HK1 := Lib.hid hk1
    have HK2 := Lib.hid hk2
    clear hk0 hk1 hk2
    generalize w.alloc (.cells #[.int .i64 b, .int .i64 t, .slice A n c] 26) = w0 at *
    refine (May_any w0 b t A n c es HN.out hm HR0.out _ HM.out).mono ?_
    rintro r w1 ⟨rfl, hb1⟩
    go_wp2
    go_ret
    exact ⟨rfl, HX0.out.trans (hb1.mono HX0.out.size)⟩
  · have HM := Lib.hid (decide_eq_false hok)
    rw [if_neg hok] at hx
    subst hx
    clear hok
    go_enter Try.func32, Try.ntmps32
    go_wp2_with fail
    have hk0 : (w.alloc (.cells #[.int .i64 b, .int .i64 t, .slice A n c] 26)).cell? ⟨w.heap.size, 0, none⟩ = some (.int .i64 b) := by rw [cell_of_row _ _ _ _ _ _ (heap_alloc_new _ _)]; rfl
    have hk1 : (w.alloc (.cells #[.int .i64 b, .int .i64 t, .slice A n c] 26)).cell? ⟨w.heap.size, 1, none⟩ = some (.int .i64 t) := by rw [cell_of_row _ _ _ _ _ _ (heap_alloc_new _ _)]; rfl
    have hk2 : (w.alloc (.cells #[.int .i64 b, .int .i64 t, .slice A n c] 26)).cell? ⟨w.heap.size, 2, none⟩ = some (.slice A n c) := by rw [cell_of_row _ _ _ _ _ _ (heap_alloc_new _ _)]; rfl
    have HX0 : Hid (Below w.heap.size w (w.alloc (.cells #[.int .i64 b, .int .i64 t, .slice A n c] 26))) := (Below.refl _ _).alloc (Nat.le_refl _) _
    have HR0 := Lib.hid (HR.out.ext HX0.out (Nat.le_refl _))
    have HK0 := Lib.hid hk0
    have HK1 := Lib.hid hk1
    have HK2 := Lib.hid hk2
    clear hk0 hk1 hk2
    generalize w.alloc (.cells #[.int .i64 b, .int .i64 t, .slice A n c] 26) = w0 at *
    refine (May_any w0 b t A n c es HN.out hm HR0.out _ HM.out).mono ?_
    rintro r w1 ⟨rfl, hb1⟩
    go_wp2
    go_ret
    exact ⟨rfl, HX0.out.trans (hb1.mono HX0.out.size)⟩

set_option maxRecDepth 100000 in
theorem Term_no (w : World) (b t : Int) (A : Option Addr) (n c : Nat) (es : List Ent) (hn : es.length = n) (hm : n ≤ 9223372036854775807) (hr : Rds w A (entsC es)) (hno : ¬ mayL b t es) (i : Int) :
    Calls Try.prog 26 #[.agg #[.int .i64 b, .int .i64 t, .slice A n c], .int .i64 i] w fun r w' => r = .returned (.tuple #[.int .i64 0, .int .i64 1]) ∧ Below w.heap.size w w' := by
  have HR := Lib.hid hr
  have HN := Lib.hid hn
  have HM := Lib.hid (decide_eq_false hno)
  clear hr hn hno
  go_enter Try.func26, Try.ntmps26
  go_wp2_with fail
  have hk0 : (w.alloc (.cells #[.int .i64 b, .int .i64 t, .slice A n c] 26)).cell? ⟨w.heap.size, 0, none⟩ = some (.int .i64 b) := by rw [cell_of_row _ _ _ _ _ _ (heap_alloc_new _ _)]; rfl
  have hk1 : (w.alloc (.cells #[.int .i64 b, .int .i64 t, .slice A n c] 26)).cell? ⟨w.heap.size, 1, none⟩ = some (.int .i64 t) := by rw [cell_of_row _ _ _ _ _ _ (heap_alloc_new _ _)]; rfl
  have hk2 : (w.alloc (.cells #[.int .i64 b, .int .i64 t, .slice A n c] 26)).cell? ⟨w.heap.size, 2, none⟩ = some (.slice A n c) := by rw [cell_of_row _ _ _ _ _ _ (heap_alloc_new _ _)]; rfl
  have HX0 : Hid (Below w.heap.size w (w.alloc (.cells #[.int .i64 b, .int .i64 t, .slice A n c] 26))) := (Below.refl _ _).alloc (Nat.le_refl _) _
  have HR0 := Lib.hid (HR.out.ext HX0.out (Nat.le_refl _))
  have HK0 := Lib.hid hk0
  have HK1 := Lib.hid hk1
  have HK2 := Lib.hid hk2
  clear hk0 hk1 hk2
  generalize w.alloc (.cells #[.int .i64 b, .int .i64 t, .slice A n c] 26) = w0 at *
  refine (May_any w0 b t A n c es HN.out hm HR0.out _ HM.out).mono ?_
  rintro r w1 ⟨rfl, hb1⟩
  go_wp2
  go_ret2
  exact ⟨rfl, HX0.out.trans (hb1.mono HX0.out.size)⟩

def termR (o : Option Int) : Int × Int := match o with | some x => (x, 0) | none => (0, 3)
set_option maxRecDepth 100000 in
theorem Term_any (w : World) (b t : Int) (A : Option Addr) (n c : Nat) (es : List Ent) (hn : es.length = n) (hm : n ≤ 1000000) (hr : Rds w A (entsC es)) (hok : mayL b t es) (i : Int) :
    Calls Try.prog 26 #[.agg #[.int .i64 b, .int .i64 t, .slice A n c], .int .i64 i] w fun r w' => r = .returned (.tuple #[.int .i64 (termR (atE b t es i)).1, .int .i64 (termR (atE b t es i)).2]) ∧ Below w.heap.size w w' := by
  have HR := Lib.hid hr
  have HN := Lib.hid hn
  have HM := Lib.hid (decide_eq_true hok)
  have HOK := Lib.hid hok
  clear hr hn hok
  generalize ho : atE b t es i = o
  go_enter Try.func26, Try.ntmps26
  go_wp2_with fail
  have hk0 : (w.alloc (.cells #[.int .i64 b, .int .i64 t, .slice A n c] 26)).cell? ⟨w.heap.size, 0, none⟩ = some (.int .i64 b) := by rw [cell_of_row _ _ _ _ _ _ (heap_alloc_new _ _)]; rfl
  have hk1 : (w.alloc (.cells #[.int .i64 b, .int .i64 t, .slice A n c] 26)).cell? ⟨w.heap.size, 1, none⟩ = some (.int .i64 t) := by rw [cell_of_row _ _ _ _ _ _ (heap_alloc_new _ _)]; rfl
  have hk2 : (w.alloc (.cells #[.int .i64 b, .int .i64 t, .slice A n c] 26)).cell? ⟨w.heap.size, 2, none⟩ = some (.slice A n c) := by rw [cell_of_row _ _ _ _ _ _ (heap_alloc_new _ _)]; rfl
  have HX0 : Hid (Below w.heap.size w (w.alloc (.cells #[.int .i64 b, .int .i64 t, .slice A n c] 26))) := (Below.refl _ _).alloc (Nat.le_refl _) _
  have HR0 := Lib.hid (HR.out.ext HX0.out (Nat.le_refl _))
  have HK0 := Lib.hid hk0
  have HK1 := Lib.hid hk1
  have HK2 := Lib.hid hk2
  clear hk0 hk1 hk2
  generalize w.alloc (.cells #[.int .i64 b, .int .i64 t, .slice A n c] 26) = w0 at *
  refine (May_any w0 b t A n c es HN.out (by omega) HR0.out _ HM.out).mono ?_
  rintro r w1 ⟨rfl, hb1⟩
  have HB1 := Lib.hid hb1
  clear hb1
  have hk0 := cell_ext HB1.out (Nat.le_refl _) HK0.out
  have hk1 := cell_ext HB1.out (Nat.le_refl _) HK1.out
  have hk2 := cell_ext HB1.out (Nat.le_refl _) HK2.out
  have HR1 := Lib.hid (HR0.out.ext HB1.out (Nat.le_refl _))
  go_wp2_with fail
  refine (At_any w1 b t A n c es HN.out hm HR1.out HOK.out i).mono ?_
  rintro r w2 ⟨rfl, hb2⟩
  have h := HB1.out.trans (hb2.mono HB1.out.size)
  have HF := Lib.hid (HX0.out.trans (h.mono HX0.out.size))
  clear h hb2
  rw [ho]
  cases o with
  | none =>
    show _
    go_wp2
    go_ret2
    exact ⟨rfl, HF.out⟩
  | some x =>
    show _
    go_wp2
    go_ret2
    exact ⟨rfl, HF.out⟩
end Go.Proofs.Ytpdnkhdnenibgaa
