/- The walks of a log's end. -/
import Derived.Test.YtpdnkhdnenibgaaEntW
set_option linter.unusedVariables false
set_option linter.unusedSimpArgs false
namespace Lec
open Go Go.RowKit
theorem wrap_id {n : Int} (h : -9223372036854775808 ≤ n ∧ n ≤ 9223372036854775807) : IntKind.i64.wrap n = n := by
  rw [IntWalk.i64_left]; exact IntWalk.wrap64_in n h
end Lec
namespace Go.Proofs.Ytpdnkhdnenibgaa
open Go.RowKit Lec

set_option maxRecDepth 100000 in
theorem End_any (w : World) (b t : Int) (A : Option Addr) (n c : Nat) (es : List Ent) (hn : es.length = n) (hm : n ≤ 9223372036854775807) (hr : Rds w A (entsC es)) :
    Calls Try.prog 64 #[.agg #[.int .i64 b, .int .i64 t, .slice A n c]] w fun r w' => r = .returned (.tuple #[.int .i64 (endE b t es).1, .int .i64 (endE b t es).2]) ∧ Below w.heap.size w w' := by
  have hb0 : Below w.heap.size w (w.alloc (.cells #[.int .i64 b, .int .i64 t, .slice A n c] 26)) := (Below.refl _ _).alloc (Nat.le_refl _) _
  have HR2 := Lib.hid (hr.ext hb0 (Nat.le_refl _))
  have HN := Lib.hid hn
  clear hr hn
  rcases List.eq_nil_or_concat es with rfl | ⟨zs, z, rfl⟩
  · obtain rfl : n = 0 := by have := HN.out; simpa using this.symm
    go_enter Try.func64, Try.ntmps64
    go_wp2_with fail
    have hk0 : (w.alloc (.cells #[.int .i64 b, .int .i64 t, .slice A 0 c] 26)).cell? ⟨w.heap.size, 0, none⟩ = some (.int .i64 b) := by rw [cell_of_row _ _ _ _ _ _ (heap_alloc_new _ _)]; rfl
    have hk1 : (w.alloc (.cells #[.int .i64 b, .int .i64 t, .slice A 0 c] 26)).cell? ⟨w.heap.size, 1, none⟩ = some (.int .i64 t) := by rw [cell_of_row _ _ _ _ _ _ (heap_alloc_new _ _)]; rfl
    have hk2 : (w.alloc (.cells #[.int .i64 b, .int .i64 t, .slice A 0 c] 26)).cell? ⟨w.heap.size, 2, none⟩ = some (.slice A 0 c) := by rw [cell_of_row _ _ _ _ _ _ (heap_alloc_new _ _)]; rfl
    have HX0 := Lib.hid hb0
    clear hb0 HR2 HN
    generalize w.alloc (.cells #[.int .i64 b, .int .i64 t, .slice A 0 c] 26) = w0 at *
    go_quiet (fail)
    go_wp2
    go_ret2
    exact ⟨rfl, HX0.out.trans ((drawn_below _ nq).mono HX0.out.size)⟩
  · rw [List.concat_eq_append] at HR2 HN ⊢
    rw [endE_snoc]
    have hzl : zs.length + 1 = n := by have := HN.out; simpa using this
    obtain ⟨a, rfl, g0, g1, g2⟩ := ents_cells HR2.out zs.length (by simp)
    simp only [List.getElem_append_right (Nat.le_refl _), Nat.sub_self, List.getElem_singleton] at g0 g1 g2
    obtain ⟨zi, zt, zd⟩ := z
    subst hzl
    have hi : (0 : Int) < ((zs.length + 1 : Nat) : Int) := by omega
    have hx : ((zs.length + 1 : Nat) : Int) - 1 = (zs.length : Int) := by omega
    have hx2 : (((zs.length + 1 : Nat) : Int) - 1).toNat = zs.length := by omega
    go_enter Try.func64, Try.ntmps64
    go_wp2_with fail
    have hk0 : (w.alloc (.cells #[.int .i64 b, .int .i64 t, .slice (some a) (zs.length + 1) c] 26)).cell? ⟨w.heap.size, 0, none⟩ = some (.int .i64 b) := by rw [cell_of_row _ _ _ _ _ _ (heap_alloc_new _ _)]; rfl
    have hk1 : (w.alloc (.cells #[.int .i64 b, .int .i64 t, .slice (some a) (zs.length + 1) c] 26)).cell? ⟨w.heap.size, 1, none⟩ = some (.int .i64 t) := by rw [cell_of_row _ _ _ _ _ _ (heap_alloc_new _ _)]; rfl
    have hk2 : (w.alloc (.cells #[.int .i64 b, .int .i64 t, .slice (some a) (zs.length + 1) c] 26)).cell? ⟨w.heap.size, 2, none⟩ = some (.slice (some a) (zs.length + 1) c) := by rw [cell_of_row _ _ _ _ _ _ (heap_alloc_new _ _)]; rfl
    have HX0 := Lib.hid hb0
    clear hb0 HR2 HN
    generalize w.alloc (.cells #[.int .i64 b, .int .i64 t, .slice (some a) (zs.length + 1) c] 26) = w0 at *
    have hw0 : IntKind.i64.wrap (((zs.length + 1 : Nat) : Int) - 1) = (zs.length : Int) := by rw [hx, wrap_id (by omega)]
    have hil : (zs.length : Int) < ((zs.length + 1 : Nat) : Int) := by omega
    go_quiet (fail)
    go_wp2
    go_ret2
    exact ⟨rfl, HX0.out.trans ((drawn_below _ nq).mono HX0.out.size)⟩
end Go.Proofs.Ytpdnkhdnenibgaa
