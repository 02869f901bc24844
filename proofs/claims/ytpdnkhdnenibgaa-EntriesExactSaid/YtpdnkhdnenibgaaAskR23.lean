/- What the questions of the laws on entries read as; wakes. -/
import Derived.Test.YtpdnkhdnenibgaaAsk23
import Derived.Test.YtpdnkhdnenibgaaEntJ
import Derived.Test.YtpdnkhdnenibgaaEntG
set_option linter.unusedVariables false
set_option linter.unusedSimpArgs false
namespace Lec
open Go Go.RowKit
abbrev LogRep : Rep (Int × Int × List Ent) := Rep.pair (Rep.int .i64) (Rep.pair (Rep.int .i64) (Rep.slice EntRep 32))
abbrev Ask23 : Rep ((Int × Int × List Ent) × Int × Int × List Ent × Int) := Rep.pair LogRep (Rep.pair (Rep.int .i64) (Rep.pair (Rep.int .i64) (Rep.pair (Rep.slice EntRep 32) (Rep.int .i64))))
abbrev AskT := (Int × Int × List Ent) × Int × Int × List Ent × Int
def i64R (n : Int) : Prop := -9223372036854775808 ≤ n ∧ n ≤ 9223372036854775807
theorem i64R_wf {n : Int} (h : (Lit.int .i64 n).wf = true) : i64R n := by simp [Lit.wf, IntKind.min, IntKind.max, IntKind.bits, IntKind.signed] at h; unfold i64R; omega
/-- A slice of entries that came in. -/
structure EntS (w : World) (A : Option Addr) (c : Nat) (es : List Ent) : Prop where
  rds : Rds w A (entsC es)
  nil : A = none → es.length = 0 ∧ c = 0
  len : es.length ≤ c
  cap : c ≤ 4398046511103
  str : ∀ s ∈ es, s.2.2.size ≤ 140737488351232
theorem EntS.ext {w w' : World} {A : Option Addr} {c : Nat} {es : List Ent} {B : Nat} (h : EntS w A c es) (hb : Below B w w') (hB : w.heap.size ≤ B) : EntS w' A c es := ⟨h.rds.ext hb hB, h.nil, h.len, h.cap, h.str⟩
theorem EntS.small {w : World} {A : Option Addr} {c : Nat} {es : List Ent} (h : EntS w A c es) : es.length ≤ 140737488351232 := by have := h.len; have := h.cap; omega
theorem EntS.of {w : World} {A : Option Addr} {c : Nat} {es : List Ent} (h1 : es.length ≤ c) (h3 : A = none → es.length = 0 ∧ c = 0) (h4 : c * 32 ≤ reachBytes) (h5 : Row EntRep w A es) : EntS w A c es :=
  ⟨ents_row h5, h3, h1, by unfold reachBytes at h4; omega, fun s hs => by have := (ents_wf h5 s hs).2.2; unfold reachBytes at this; exact this⟩
/-- The seven cells of a question. -/
structure AskAt (w : World) (p : Addr) (x : AskT) (B : Option Addr) (c : Nat) (C : Option Addr) (d : Nat) : Prop where
  g0 : w.cell? p = some (.int .i64 x.1.1)
  g1 : w.cell? ⟨p.block, p.off + 1, none⟩ = some (.int .i64 x.1.2.1)
  g2 : w.cell? ⟨p.block, p.off + 2, none⟩ = some (.slice B x.1.2.2.length c)
  g3 : w.cell? ⟨p.block, p.off + 3, none⟩ = some (.int .i64 x.2.1)
  g4 : w.cell? ⟨p.block, p.off + 4, none⟩ = some (.int .i64 x.2.2.1)
  g5 : w.cell? ⟨p.block, p.off + 5, none⟩ = some (.slice C x.2.2.2.1.length d)
  g6 : w.cell? ⟨p.block, p.off + 6, none⟩ = some (.int .i64 x.2.2.2.2)
  l : EntS w B c x.1.2.2
  e : EntS w C d x.2.2.2.1
  wf : i64R x.1.1 ∧ i64R x.1.2.1 ∧ i64R x.2.1 ∧ i64R x.2.2.1 ∧ i64R x.2.2.2.2
theorem AskAt.ext {w w' : World} {p : Addr} {x : AskT} {B C : Option Addr} {c d : Nat} {D : Nat} (h : AskAt w p x B c C d) (hb : Below D w w') (hB : w.heap.size ≤ D) : AskAt w' p x B c C d :=
  ⟨cell_ext hb hB h.g0, cell_ext hb hB h.g1, cell_ext hb hB h.g2, cell_ext hb hB h.g3, cell_ext hb hB h.g4, cell_ext hb hB h.g5, cell_ext hb hB h.g6, h.l.ext hb hB, h.e.ext hb hB, h.wf⟩
theorem ask_at {w : World} {A : Option Addr} {xs : List AskT} (h : Row Ask23 w A xs) (i : Nat) (hi : i < xs.length) : ∃ a B c C d, A = some a ∧ AskAt w (a.add (i * 7)) xs[i] B c C d := by
  obtain ⟨a, cs, e, hl, hc, c1, c2, rfl, l1, hlog, d1, d2, rfl, l2, ⟨rfl, w2⟩, e1, e2, rfl, l3, ⟨rfl, w3⟩, f1, f2, rfl, l4, ⟨C, d, rfl, q1, q2, q3, q4, q5⟩, ⟨rfl, w5⟩⟩ := h i hi
  obtain ⟨x1, x2, rfl, m1, ⟨rfl, w0⟩, y1, y2, rfl, m2, ⟨rfl, w1⟩, ⟨B, c, rfl, p1, p2, p3, p4, p5⟩⟩ := hlog
  have hc' : ∀ j v, 0 < j → ([Value.int .i64 xs[i].1.1, .int .i64 xs[i].1.2.1, .slice B xs[i].1.2.2.length c, .int .i64 xs[i].2.1, .int .i64 xs[i].2.2.1, .slice C xs[i].2.2.2.1.length d, .int .i64 xs[i].2.2.2.2] : List Value)[j]? = some v → w.cell? ⟨(a.add (i * 7)).block, (a.add (i * 7)).off + j, none⟩ = some v := by
    intro j v hj hv
    rw [← add_fld _ _ _ hj]
    exact hc j v hv
  exact ⟨a, B, c, C, d, e, hc 0 _ rfl, hc' 1 _ (by omega) rfl, hc' 2 _ (by omega) rfl, hc' 3 _ (by omega) rfl, hc' 4 _ (by omega) rfl, hc' 5 _ (by omega) rfl, hc' 6 _ (by omega) rfl,
    EntS.of p1 p3 p4 p5, EntS.of q1 q3 q4 q5, i64R_wf w0, i64R_wf w1, i64R_wf w2, i64R_wf w3, i64R_wf w5⟩
end Lec
namespace Go.Proofs.Ytpdnkhdnenibgaa
open Go.RowKit Lec
theorem ent_of : EntRep.Of Try.prog 56 :=
  Rep.struct_of Try.underlying56 (by kernel_rfl) (FieldsOf.cons rfl (by kernel_rfl) (Rep.int_of Try.underlying3) (FieldsOf.cons rfl (by kernel_rfl) (Rep.int_of Try.underlying3) (FieldsOf.one rfl (by kernel_rfl) (Rep.str_of Try.underlying9))))
theorem ents_of : (Rep.slice EntRep 32).Of Try.prog 24 := Rep.slice_of Try.underlying24 (by kernel_rfl) (by kernel_rfl) ent_of
theorem log_of : LogRep.Of Try.prog 26 :=
  Rep.struct_of Try.underlying26 (by kernel_rfl) (FieldsOf.cons rfl (by kernel_rfl) (Rep.int_of Try.underlying3) (FieldsOf.cons rfl (by kernel_rfl) (Rep.int_of Try.underlying3) (FieldsOf.one rfl (by kernel_rfl) ents_of)))
theorem ask23_of : Ask23.Of Try.prog 28 :=
  Rep.struct_of Try.underlying28 (by kernel_rfl) (FieldsOf.cons rfl (by kernel_rfl) log_of (FieldsOf.cons rfl (by kernel_rfl) (Rep.int_of Try.underlying3) (FieldsOf.cons rfl (by kernel_rfl) (Rep.int_of Try.underlying3)
    (FieldsOf.cons rfl (by kernel_rfl) ents_of (FieldsOf.one rfl (by kernel_rfl) (Rep.int_of Try.underlying3))))))
theorem asks23_of : (Rep.slice Ask23 88).Of Try.prog 22 := Rep.slice_of Try.underlying22 (by kernel_rfl) (by kernel_rfl) ask23_of

theorem wakesE : appE 0 0 [] [(1, 1, ⟨#[]⟩)] = (0, 0, [(1, 1, ⟨#[]⟩)], 0) := by decide
theorem rds_lit {w : World} (T : TypeId) : Rds (w.alloc (.cells #[.int .i64 1, .int .i64 1, .string ⟨#[]⟩] T)) (some ⟨w.heap.size, 0, none⟩) (entsC [(1, 1, ⟨#[]⟩)]) := by
  intro i v hv
  refine ⟨_, rfl, ?_⟩
  rw [Addr.add_lit, cell_of_row _ _ _ _ _ _ (heap_alloc_new _ _), Nat.zero_add, ← hv]
  simp [entsC, entC]

theorem ok23_may {b t : Int} {L Es : List Ent} (h : ok23 b t L Es = true) : mayL b t L ∧ L.length < 200 ∧ Es.length ≤ 600 := by
  unfold ok23 at h
  simp only [Bool.and_eq_true, Bool.not_eq_true', decide_eq_true_eq] at h
  exact ⟨h.2, h.1.2, (heavy23_light h.1.1).2⟩
set_option maxRecDepth 100000 in
theorem wakes23 (w : World) : Calls Try.prog 20 #[] w fun e w' => e = .returned (.bool true) ∧ Below w.heap.size w w' := by
  go_enter Try.func20, Try.ntmps20
  go_wp2_with fail
  have hb0 : Below w.heap.size w (w.alloc (.cells #[.int .i64 1, .int .i64 1, .string ⟨#[]⟩] 56)) := (Below.refl _ _).alloc (Nat.le_refl _) _
  have HX0 := Lib.hid hb0
  have HS0 := Lib.hid (rds_lit (w := w) 56)
  clear hb0
  refine (Append_any _ 0 0 none 0 0 [] rfl (by omega) (fun _ => ⟨rfl, rfl⟩) (Rds.nil _ _) _ 1 1 [(1, 1, ⟨#[]⟩)] rfl (by omega) (fun e => by cases e) HS0.out).mono ?_
  rw [wakesE]
  rintro e w1 ⟨v, rfl, hown, hb⟩
  obtain ⟨A1, c1, rfl, p1, p2, p3, p4, p5⟩ := own_rds hown
  have HR1 := Lib.hid p4
  have HX : Hid (Below w.heap.size w w1) := HX0.out.trans (hb.mono HX0.out.size)
  clear p1 p2 p3 p4 p5 hown hb HX0 HS0
  go_wp2_with (go_at_call 18; refine (num23 _ _).mono ?_; rintro e wq ⟨rfl, rfl⟩)
  have hb2 : Below w1.heap.size w1 ((w1.alloc (.cells #[.int .i64 0, .int .i64 0, .slice A1 1 c1] 26)).alloc (.cells #[.int .i64 1, .int .i64 1, .string ⟨#[]⟩] 56)) := ((Below.refl _ _).alloc (Nat.le_refl _) _).alloc (by simp) _
  have hr2 := rds_lit (w := w1.alloc (.cells #[.int .i64 0, .int .i64 0, .slice A1 1 c1] 26)) 56
  refine (EqLog_any _ 0 0 A1 1 c1 [(1, 1, ⟨#[]⟩)] rfl (HR1.out.ext hb2 (Nat.le_refl _)) 0 0 _ 1 1 [(1, 1, ⟨#[]⟩)] rfl (by simpa using hr2) (by omega) true (by decide)).mono ?_
  rintro e w2 ⟨rfl, hb⟩
  have HX2 : Hid (Below w.heap.size w w2) := HX.out.trans ((hb2.trans (hb.mono (by simp; omega))).mono HX.out.size)
  clear hb hb2 hr2 HX HR1
  go_wp2
  go_ret
  exact ⟨rfl, HX2.out⟩
end Go.Proofs.Ytpdnkhdnenibgaa
