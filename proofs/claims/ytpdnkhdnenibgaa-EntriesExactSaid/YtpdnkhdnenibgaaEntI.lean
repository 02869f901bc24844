/- The walks of entries.with and what tells a log. -/
import Derived.Test.YtpdnkhdnenibgaaEntF
set_option linter.unusedVariables false
set_option linter.unusedSimpArgs false
namespace Lec
open Go Go.RowKit
/-- A log in memory: three cells that may be written. -/
structure Lg (w : World) (p : Nat) (b t : Int) (v : Value) : Prop where
  c0 : w.cell? ⟨p, 0, none⟩ = some (.int .i64 b)
  c1 : w.cell? ⟨p, 1, none⟩ = some (.int .i64 t)
  c2 : w.cell? ⟨p, 2, none⟩ = some v
  f0 : w.frozen? ⟨p, 0, none⟩ = false
  f1 : w.frozen? ⟨p, 1, none⟩ = false
  f2 : w.frozen? ⟨p, 2, none⟩ = false
  lt : p < w.heap.size
theorem Lg.ext {w w' : World} {p : Nat} {b t : Int} {v : Value} {B : Nat} (h : Lg w p b t v) (hb : Below B w w') (hB : w.heap.size ≤ B) : Lg w' p b t v :=
  ⟨cell_ext hb hB h.c0, cell_ext hb hB h.c1, cell_ext hb hB h.c2, (hb.frozen (p := ⟨p, 0, none⟩) (Nat.lt_of_lt_of_le h.lt hB)).trans h.f0, (hb.frozen (p := ⟨p, 1, none⟩) (Nat.lt_of_lt_of_le h.lt hB)).trans h.f1,
   (hb.frozen (p := ⟨p, 2, none⟩) (Nat.lt_of_lt_of_le h.lt hB)).trans h.f2, Nat.lt_of_lt_of_le h.lt hb.size⟩
theorem Lg.new (w : World) (b t : Int) (v : Value) (T : TypeId) : Lg (w.alloc (.cells #[.int .i64 b, .int .i64 t, v] T)) w.heap.size b t v := by
  have h := heap_alloc_new w (.cells #[.int .i64 b, .int .i64 t, v] T (0, 0))
  refine ⟨?_, ?_, ?_, ?_, ?_, ?_, by simp⟩
  · rw [cell_of_row _ _ _ _ _ _ h]; rfl
  · rw [cell_of_row _ _ _ _ _ _ h]; rfl
  · rw [cell_of_row _ _ _ _ _ _ h]; rfl
  · unfold World.frozen?; rw [h]; rfl
  · unfold World.frozen?; rw [h]; rfl
  · unfold World.frozen?; rw [h]; rfl
theorem Lg.set2 {w : World} {p : Nat} {b t : Int} {v : Value} (h : Lg w p b t v) (u : Value) : Lg (w.setCell ⟨p, 2, none⟩ u) p b t u :=
  ⟨(cell_set_off u (by decide)).trans h.c0, (cell_set_off u (by decide)).trans h.c1, cell_set_self u h.c2, (frozen_set u).trans h.f0, (frozen_set u).trans h.f1, (frozen_set u).trans h.f2, by simpa using h.lt⟩
theorem Lg.far {w : World} {p q o : Nat} {b t : Int} {v : Value} (h : Lg w p b t v) (u : Value) (hq : p ≠ q) : Lg (w.setCell ⟨q, o, none⟩ u) p b t v :=
  ⟨(cell_set_far u hq).trans h.c0, (cell_set_far u hq).trans h.c1, (cell_set_far u hq).trans h.c2, (frozen_set u).trans h.f0, (frozen_set u).trans h.f1, (frozen_set u).trans h.f2, by simpa using h.lt⟩
theorem own_set {w : World} {base : Nat} {e : TypeId} {size : Nat} {v : Value} {n : Nat} {xs : List Value} {p o : Nat} (h : w.ownsRow base e size v n xs) (hp : p < base) (u : Value) : (w.setCell ⟨p, o, none⟩ u).ownsRow base e size v n xs := by
  refine ⟨h.1, ?_⟩
  rcases h.2 with h0 | ⟨g, cap, cur, rfl, hbg, hg, rest⟩
  · exact .inl h0
  · exact .inr ⟨g, cap, cur, rfl, hbg, (Below.heap_setCell w ⟨p, o, none⟩ u g (by show g ≠ p; omega)).trans hg, rest⟩
end Lec
namespace Go.Proofs.Ytpdnkhdnenibgaa
open Go.RowKit Lec


set_option maxRecDepth 100000 in
theorem with_any (w : World) (b t : Int) (A : Option Addr) (n c : Nat) (C : Option Addr) (m d : Nat) (xss : List (List Ent)) (hn : xss.length = m) (hm : sumLen xss ≤ 1000000) (hnm : m ≤ 1000000) (hr : RdsL w C xss) :
    Calls Try.prog 66 #[.agg #[.int .i64 b, .int .i64 t, .slice A n c], .slice C m d] w fun e w' => ∃ v, e = .returned (.agg #[.int .i64 b, .int .i64 t, v]) ∧ w'.ownsRow w.heap.size 56 3 v (sumLen xss) (entsC xss.flatten) ∧ Below w.heap.size w w' := by
  have HR := Lib.hid hr
  have HN := Lib.hid hn
  clear hr hn
  go_enter Try.func66, Try.ntmps66
  go_wp2_with fail
  obtain ⟨w0, hw0⟩ : ∃ w0, w0 = (w.alloc (.cells #[.int .i64 b, .int .i64 t, .slice A n c] 26)).alloc (.cells #[.int .i64 0, .int .i64 0, .slice none 0 0] 26) := ⟨_, rfl⟩
  rw [← hw0]
  have HX0 : Hid (Below w.heap.size w w0) := by rw [hw0]; exact ((Below.refl _ _).alloc (Nat.le_refl _) _).alloc (by simp) _
  have HL0 : Hid (Lg w0 w.heap.size b t (.slice A n c)) := by rw [hw0]; exact (Lg.new w b t _ _).ext (B := w.heap.size + 1) ((Below.refl _ _).alloc (by simp) _) (by simp)
  have HZ0 : Hid (Lg w0 (w.heap.size + 1) 0 0 (.slice none 0 0)) := by rw [hw0]; have := Lg.new (w.alloc (.cells #[.int .i64 b, .int .i64 t, .slice A n c] 26)) 0 0 (.slice none 0 0) 26; show Lg _ _ _ _ _; simpa using this
  have hz0 : w.heap.size + 1 < w0.heap.size := by rw [hw0]; simp
  clear hw0
  refine (Concat_any w0 C m d xss HN.out hm hnm (HR.out.ext HX0.out (Nat.le_refl _))).mono ?_
  rintro e w1 ⟨v, rfl, hown, hb⟩
  obtain ⟨A1, c1, rfl, p1, p2, p3, p4, p5⟩ := own_rds hown
  have HO := Lib.hid hown
  have HL := Lib.hid (HL0.out.ext hb (Nat.le_refl _))
  have HZ := Lib.hid (HZ0.out.ext hb (Nat.le_refl _))
  have hz1 := hb.size
  have HX1 : Hid (Below w.heap.size w w1) := HX0.out.trans (hb.mono HX0.out.size)
  clear hown hb HL0 HZ0 p1 p2 p3 p4 p5
  obtain ⟨k0, k1, k2, f0, f1, f2, _⟩ := HL.out
  obtain ⟨z0, z1, z2, y0, y1, y2, _⟩ := HZ.out
  go_wp2
  refine bodyPost_ret (v := .agg #[.int .i64 b, .int .i64 t, .slice A1 (sumLen xss) c1]) (by simp [results, Try.results66, go_sem, *]) rfl ⟨_, rfl, ?_, ?_⟩
  · exact own_lower (own_set (own_set (own_set (own_set HO.out (by omega) _) (by omega) _) (by omega) _) (by omega) _) (by omega)
  · exact (((HX1.out.setCell (Nat.le_refl _) _).setCell (by simp) _).setCell (by simp) _).setCell (by simp) _
end Go.Proofs.Ytpdnkhdnenibgaa
