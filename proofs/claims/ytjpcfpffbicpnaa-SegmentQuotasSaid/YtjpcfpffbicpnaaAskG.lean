/- What the laws on segments share: the question, Heavy, made, wakes. -/
import Derived.Test.YtjpcfpffbicpnaaHelpD
import Derived.Test.YtjpcfpffbicpnaaPackSeg
import Derived.Test.YtjpcfpffbicpnaaSegS
import Derived.Test.YtjpcfpffbicpnaaRefG
import Derived.Test.YtjpcfpffbicpnaaPackBas
set_option linter.unusedVariables false
set_option linter.unusedSimpArgs false
namespace Go.Proofs.Ytjpcfpffbicpnaa
open Go.RowKit Lec
abbrev RepDoc : Rep (ByteArray × ByteArray) := Rep.pair Rep.str Rep.str
abbrev RepSs : Rep (List ByteArray) := Rep.slice Rep.str 16
abbrev AskG : Rep (List (ByteArray × ByteArray) × (List ByteArray × List ByteArray)) := Rep.pair (Rep.slice RepDoc 32) (Rep.pair RepSs RepSs)
theorem repDoc_of : RepDoc.Of Try.prog 52 := Rep.struct_of Try.underlying52 (by kernel_rfl) (FieldsOf.cons rfl (by kernel_rfl) (Rep.str_of Try.underlying9) (FieldsOf.one rfl (by kernel_rfl) (Rep.str_of Try.underlying9)))
theorem repSs_of : RepSs.Of Try.prog 38 := Rep.slice_of Try.underlying38 (by kernel_rfl) (by kernel_rfl) (Rep.str_of Try.underlying9)
theorem askG_of : AskG.Of Try.prog 40 :=
  Rep.struct_of Try.underlying40 (by kernel_rfl) (FieldsOf.cons rfl (by kernel_rfl) (Rep.slice_of Try.underlying32 (by kernel_rfl) (by kernel_rfl) repDoc_of) (FieldsOf.cons rfl (by kernel_rfl) repSs_of (FieldsOf.one rfl (by kernel_rfl) repSs_of)))
def mkDoc (x : ByteArray × ByteArray) : Doc := ⟨x.1, x.2⟩
theorem docs_of {w : World} {A : Option Addr} {xs : List (ByteArray × ByteArray)} (h : Row RepDoc w A xs) : Rds w A (docsC (xs.map mkDoc)) := by
  intro i v hv
  have hl := (List.getElem?_eq_some_iff.1 hv).1
  rw [docsC_len, List.length_map] at hl
  have hi : i / 2 < xs.length := by omega
  obtain ⟨a, cs, e, hcl, hc, c1, c2, hcs, h1, ⟨h2, _⟩, h3, _⟩ := h (i / 2) hi
  subst hcs; subst h2; subst h3
  refine ⟨a, e, ?_⟩
  have hd := docsC_at (xs.map mkDoc) (i / 2) (i % 2) (by rw [List.length_map]; exact hi) (by omega)
  rw [show i / 2 * 2 + i % 2 = i by omega, hv, List.getElem_map] at hd
  have := hc (i % 2) v (by rw [hd]; rfl)
  rwa [show i / 2 * RepDoc.n + i % 2 = i from by show i / 2 * 2 + i % 2 = i; omega] at this
theorem docs_sz {w : World} {A : Option Addr} {xs : List (ByteArray × ByteArray)} (h : Row RepDoc w A xs) : ∀ d ∈ xs.map mkDoc, d.id.size ≤ 1152921504606846976 ∧ d.text.size ≤ 1152921504606846976 := by
  intro d hd
  obtain ⟨x, hx, rfl⟩ := List.mem_map.1 hd
  obtain ⟨i, hi, rfl⟩ := List.getElem_of_mem hx
  obtain ⟨a, cs, e, hcl, hc, c1, c2, hcs, h1, ⟨_, h2⟩, _, h3⟩ := h i hi
  unfold reachBytes at h2 h3
  unfold mkDoc
  dsimp only
  omega
theorem texts_sz {w : World} {A : Option Addr} {xs : List ByteArray} (h : Row Rep.str w A xs) : ∀ d ∈ xs, d.size ≤ 1152921504606846976 := fun d hd => by
  have := h.all d hd
  unfold reachBytes at this
  omega
theorem reachG {n c b : Nat} (h1 : n ≤ c) (h2 : c * b ≤ reachBytes) (hb : 2 ≤ b) : n ≤ 4611686018427387903 := by
  unfold reachBytes at h2
  have : c * 2 ≤ c * b := Nat.mul_le_mul_left _ hb
  omega
theorem ext_drawnN (w : World) (q : Nat) : Ext w (w.drewN q) := drawn_below w q
def lightG (D : List Doc) (P N : List ByteArray) : Prop := weighD D ≤ 60000 ∧ D.length ≤ 60000 ∧ (∀ p ∈ P, p.size ≤ 9000) ∧ (∀ n ∈ N, n.size ≤ 9000) ∧ P.length ≤ 30 ∧ N.length ≤ 30
def HeavyG (w : World) (D : List Doc) (P N : List ByteArray) (r : Ending) (w' : World) : Prop := ∃ t, r = .returned (.bool t) ∧ (t = false → lightG D P N) ∧ Below w.heap.size w w'
set_option maxRecDepth 100000 in
set_option maxHeartbeats 4000000 in
theorem heavyG_any (w : World) (A B C : Option Addr) (c d e : Nat) (D : List Doc) (P N : List ByteArray) (hDl : D.length ≤ 4611686018427387903) (hPl : P.length ≤ 4611686018427387903) (hNl : N.length ≤ 4611686018427387903)
    (hD : ∀ d ∈ D, d.id.size ≤ 1152921504606846976 ∧ d.text.size ≤ 1152921504606846976) (hP : ∀ d ∈ P, d.size ≤ 1152921504606846976) (hN : ∀ d ∈ N, d.size ≤ 1152921504606846976)
    (hd : Rds w A (docsC D)) (hp : Rds w B (P.map Value.string)) (hn : Rds w C (N.map Value.string)) :
    Calls Try.prog 17 #[.agg #[.slice A D.length c, .slice B P.length d, .slice C N.length e]] w (HeavyG w D P N) := by
  obtain ⟨w0, hw0⟩ : ∃ w0, w0 = w.alloc (.cells #[.slice A D.length c, .slice B P.length d, .slice C N.length e] 40) := ⟨_, rfl⟩
  have HX0 : Hid (Below w.heap.size w w0) := by rw [hw0]; exact (Below.refl _ _).alloc (Nat.le_refl _) _
  have k0 : w0.cell? ⟨w.heap.size, 0, none⟩ = some (.slice A D.length c) := by rw [hw0, cell_of_row _ _ _ _ _ _ (heap_alloc_new _ _)]; rfl
  have k1 : w0.cell? ⟨w.heap.size, 1, none⟩ = some (.slice B P.length d) := by rw [hw0, cell_of_row _ _ _ _ _ _ (heap_alloc_new _ _)]; rfl
  have k2 : w0.cell? ⟨w.heap.size, 2, none⟩ = some (.slice C N.length e) := by rw [hw0, cell_of_row _ _ _ _ _ _ (heap_alloc_new _ _)]; rfl
  have HDW := Lib.hid (fun w' (h : Ext w0 w') => DocWeight_any w' A D.length c D rfl hDl hD ((hd.ext HX0.out (Nat.le_refl _)).ext h.below (Nat.le_refl _)))
  have HPW := Lib.hid (fun w' (h : Ext w0 w') => TextWeight_any w' B P.length d P rfl hPl hP ((hp.ext HX0.out (Nat.le_refl _)).ext h.below (Nat.le_refl _)))
  have HNW := Lib.hid (fun w' (h : Ext w0 w') => TextWeight_any w' C N.length e N rfl hNl hN ((hn.ext HX0.out (Nat.le_refl _)).ext h.below (Nat.le_refl _)))
  have HL : Hid (cutD D D.length ≤ 60000 ∧ cutT P P.length ≤ 9000 ∧ cutT N N.length ≤ 9000 ∧ P.length ≤ 30 ∧ N.length ≤ 30 → lightG D P N) := Lib.hid (by
    rintro ⟨h1, h2, h3, h4, h5⟩
    have := cutD_all D (n := D.length) (by omega)
    exact ⟨by omega, by omega, fun p hp => by have := cutT_all P (n := P.length) (by omega) p hp; omega, fun p hp => by have := cutT_all N (n := N.length) (by omega) p hp; omega, h4, h5⟩)
  generalize cutD D D.length = a at *
  generalize cutT P P.length = b at *
  generalize cutT N N.length = c0 at *
  clear hD hP hN hd hp hn
  go_enter Try.func17, Try.ntmps17
  go_upto_region 1 with (fail)
  rw [← hw0]
  clear hw0
  by_cases h1 : 3000 < a
  · have h1i : (3000 : Int) < (a : Int) := by omega
    by_cases h2 : a < 20000
    · have h2i : (a : Int) < 20000 := by omega
      go_wp2_with (first
        | (go_at_call 46; (with_reducible refine (HDW.out _ (by first | exact Ext.refl _ | exact ext_drawnN _ _)).mono ?_); rintro e wq ⟨rfl, q, rfl⟩)
        | (go_at_call 47; (with_reducible refine (HPW.out _ (by first | exact Ext.refl _ | exact ext_drawnN _ _)).mono ?_); rintro e wq ⟨rfl, rfl⟩)
        | (go_at_call 47; (with_reducible refine (HNW.out _ (by first | exact Ext.refl _ | exact ext_drawnN _ _)).mono ?_); rintro e wq ⟨rfl, rfl⟩))
      go_ret
      exact ⟨true, rfl, (fun h => by cases h), by first | exact HX0.out | exact HX0.out.trans ((drawn_below _ _).mono HX0.out.size)⟩
    · have h2i : ¬ (a : Int) < 20000 := by omega
      by_cases h60 : 60000 < a
      · have h60i : (60000 : Int) < (a : Int) := by omega
        go_wp2_with (first
          | (go_at_call 46; (with_reducible refine (HDW.out _ (by first | exact Ext.refl _ | exact ext_drawnN _ _)).mono ?_); rintro e wq ⟨rfl, q, rfl⟩)
          | (go_at_call 47; (with_reducible refine (HPW.out _ (by first | exact Ext.refl _ | exact ext_drawnN _ _)).mono ?_); rintro e wq ⟨rfl, rfl⟩)
          | (go_at_call 47; (with_reducible refine (HNW.out _ (by first | exact Ext.refl _ | exact ext_drawnN _ _)).mono ?_); rintro e wq ⟨rfl, rfl⟩))
        go_ret
        exact ⟨true, rfl, (fun h => by cases h), by first | exact HX0.out | exact HX0.out.trans ((drawn_below _ _).mono HX0.out.size)⟩
      · have h60i : ¬ (60000 : Int) < (a : Int) := by omega
        by_cases h3 : 30 < P.length
        · have h3i : (30 : Int) < (P.length : Int) := by omega
          go_wp2_with (first
            | (go_at_call 46; (with_reducible refine (HDW.out _ (by first | exact Ext.refl _ | exact ext_drawnN _ _)).mono ?_); rintro e wq ⟨rfl, q, rfl⟩)
            | (go_at_call 47; (with_reducible refine (HPW.out _ (by first | exact Ext.refl _ | exact ext_drawnN _ _)).mono ?_); rintro e wq ⟨rfl, rfl⟩)
            | (go_at_call 47; (with_reducible refine (HNW.out _ (by first | exact Ext.refl _ | exact ext_drawnN _ _)).mono ?_); rintro e wq ⟨rfl, rfl⟩))
          go_ret
          exact ⟨true, rfl, (fun h => by cases h), by first | exact HX0.out | exact HX0.out.trans ((drawn_below _ _).mono HX0.out.size)⟩
        · have h3i : ¬ (30 : Int) < (P.length : Int) := by omega
          by_cases h4 : 30 < N.length
          · have h4i : (30 : Int) < (N.length : Int) := by omega
            go_wp2_with (first
              | (go_at_call 46; (with_reducible refine (HDW.out _ (by first | exact Ext.refl _ | exact ext_drawnN _ _)).mono ?_); rintro e wq ⟨rfl, q, rfl⟩)
              | (go_at_call 47; (with_reducible refine (HPW.out _ (by first | exact Ext.refl _ | exact ext_drawnN _ _)).mono ?_); rintro e wq ⟨rfl, rfl⟩)
              | (go_at_call 47; (with_reducible refine (HNW.out _ (by first | exact Ext.refl _ | exact ext_drawnN _ _)).mono ?_); rintro e wq ⟨rfl, rfl⟩))
            go_ret
            exact ⟨true, rfl, (fun h => by cases h), by first | exact HX0.out | exact HX0.out.trans ((drawn_below _ _).mono HX0.out.size)⟩
          · have h4i : ¬ (30 : Int) < (N.length : Int) := by omega
            by_cases h5 : 9000 < b
            · have h5i : (9000 : Int) < (b : Int) := by omega
              go_wp2_with (first
                | (go_at_call 46; (with_reducible refine (HDW.out _ (by first | exact Ext.refl _ | exact ext_drawnN _ _)).mono ?_); rintro e wq ⟨rfl, q, rfl⟩)
                | (go_at_call 47; (with_reducible refine (HPW.out _ (by first | exact Ext.refl _ | exact ext_drawnN _ _)).mono ?_); rintro e wq ⟨rfl, rfl⟩)
                | (go_at_call 47; (with_reducible refine (HNW.out _ (by first | exact Ext.refl _ | exact ext_drawnN _ _)).mono ?_); rintro e wq ⟨rfl, rfl⟩))
              go_ret
              exact ⟨true, rfl, (fun h => by cases h), by first | exact HX0.out | exact HX0.out.trans ((drawn_below _ _).mono HX0.out.size)⟩
            · have h5i : ¬ (9000 : Int) < (b : Int) := by omega
              by_cases h6 : 9000 < c0
              · have h6i : (9000 : Int) < (c0 : Int) := by omega
                go_wp2_with (first
                  | (go_at_call 46; (with_reducible refine (HDW.out _ (by first | exact Ext.refl _ | exact ext_drawnN _ _)).mono ?_); rintro e wq ⟨rfl, q, rfl⟩)
                  | (go_at_call 47; (with_reducible refine (HPW.out _ (by first | exact Ext.refl _ | exact ext_drawnN _ _)).mono ?_); rintro e wq ⟨rfl, rfl⟩)
                  | (go_at_call 47; (with_reducible refine (HNW.out _ (by first | exact Ext.refl _ | exact ext_drawnN _ _)).mono ?_); rintro e wq ⟨rfl, rfl⟩))
                go_ret
                exact ⟨true, rfl, (fun h => by cases h), by first | exact HX0.out | exact HX0.out.trans ((drawn_below _ _).mono HX0.out.size)⟩
              · have h6i : ¬ (9000 : Int) < (c0 : Int) := by omega
                go_wp2_with (first
                  | (go_at_call 46; (with_reducible refine (HDW.out _ (by first | exact Ext.refl _ | exact ext_drawnN _ _)).mono ?_); rintro e wq ⟨rfl, q, rfl⟩)
                  | (go_at_call 47; (with_reducible refine (HPW.out _ (by first | exact Ext.refl _ | exact ext_drawnN _ _)).mono ?_); rintro e wq ⟨rfl, rfl⟩)
                  | (go_at_call 47; (with_reducible refine (HNW.out _ (by first | exact Ext.refl _ | exact ext_drawnN _ _)).mono ?_); rintro e wq ⟨rfl, rfl⟩))
                go_ret
                exact ⟨false, (by show Ending.returned (Value.bool _) = _; congr 2; simp only [Bool.or_eq_false_iff, decide_eq_false_iff_not]; omega), fun _ => HL.out ⟨by omega, by omega, by omega, by omega, by omega⟩, by first | exact HX0.out | exact HX0.out.trans ((drawn_below _ _).mono HX0.out.size)⟩
  · have h1i : ¬ (3000 : Int) < (a : Int) := by omega
    have h60i : ¬ (60000 : Int) < (a : Int) := by omega
    by_cases h3 : 30 < P.length
    · have h3i : (30 : Int) < (P.length : Int) := by omega
      go_wp2_with (first
        | (go_at_call 46; (with_reducible refine (HDW.out _ (by first | exact Ext.refl _ | exact ext_drawnN _ _)).mono ?_); rintro e wq ⟨rfl, q, rfl⟩)
        | (go_at_call 47; (with_reducible refine (HPW.out _ (by first | exact Ext.refl _ | exact ext_drawnN _ _)).mono ?_); rintro e wq ⟨rfl, rfl⟩)
        | (go_at_call 47; (with_reducible refine (HNW.out _ (by first | exact Ext.refl _ | exact ext_drawnN _ _)).mono ?_); rintro e wq ⟨rfl, rfl⟩))
      go_ret
      exact ⟨true, rfl, (fun h => by cases h), by first | exact HX0.out | exact HX0.out.trans ((drawn_below _ _).mono HX0.out.size)⟩
    · have h3i : ¬ (30 : Int) < (P.length : Int) := by omega
      by_cases h4 : 30 < N.length
      · have h4i : (30 : Int) < (N.length : Int) := by omega
        go_wp2_with (first
          | (go_at_call 46; (with_reducible refine (HDW.out _ (by first | exact Ext.refl _ | exact ext_drawnN _ _)).mono ?_); rintro e wq ⟨rfl, q, rfl⟩)
          | (go_at_call 47; (with_reducible refine (HPW.out _ (by first | exact Ext.refl _ | exact ext_drawnN _ _)).mono ?_); rintro e wq ⟨rfl, rfl⟩)
          | (go_at_call 47; (with_reducible refine (HNW.out _ (by first | exact Ext.refl _ | exact ext_drawnN _ _)).mono ?_); rintro e wq ⟨rfl, rfl⟩))
        go_ret
        exact ⟨true, rfl, (fun h => by cases h), by first | exact HX0.out | exact HX0.out.trans ((drawn_below _ _).mono HX0.out.size)⟩
      · have h4i : ¬ (30 : Int) < (N.length : Int) := by omega
        by_cases h5 : 9000 < b
        · have h5i : (9000 : Int) < (b : Int) := by omega
          go_wp2_with (first
            | (go_at_call 46; (with_reducible refine (HDW.out _ (by first | exact Ext.refl _ | exact ext_drawnN _ _)).mono ?_); rintro e wq ⟨rfl, q, rfl⟩)
            | (go_at_call 47; (with_reducible refine (HPW.out _ (by first | exact Ext.refl _ | exact ext_drawnN _ _)).mono ?_); rintro e wq ⟨rfl, rfl⟩)
            | (go_at_call 47; (with_reducible refine (HNW.out _ (by first | exact Ext.refl _ | exact ext_drawnN _ _)).mono ?_); rintro e wq ⟨rfl, rfl⟩))
          go_ret
          exact ⟨true, rfl, (fun h => by cases h), by first | exact HX0.out | exact HX0.out.trans ((drawn_below _ _).mono HX0.out.size)⟩
        · have h5i : ¬ (9000 : Int) < (b : Int) := by omega
          by_cases h6 : 9000 < c0
          · have h6i : (9000 : Int) < (c0 : Int) := by omega
            go_wp2_with (first
              | (go_at_call 46; (with_reducible refine (HDW.out _ (by first | exact Ext.refl _ | exact ext_drawnN _ _)).mono ?_); rintro e wq ⟨rfl, q, rfl⟩)
              | (go_at_call 47; (with_reducible refine (HPW.out _ (by first | exact Ext.refl _ | exact ext_drawnN _ _)).mono ?_); rintro e wq ⟨rfl, rfl⟩)
              | (go_at_call 47; (with_reducible refine (HNW.out _ (by first | exact Ext.refl _ | exact ext_drawnN _ _)).mono ?_); rintro e wq ⟨rfl, rfl⟩))
            go_ret
            exact ⟨true, rfl, (fun h => by cases h), by first | exact HX0.out | exact HX0.out.trans ((drawn_below _ _).mono HX0.out.size)⟩
          · have h6i : ¬ (9000 : Int) < (c0 : Int) := by omega
            go_wp2_with (first
              | (go_at_call 46; (with_reducible refine (HDW.out _ (by first | exact Ext.refl _ | exact ext_drawnN _ _)).mono ?_); rintro e wq ⟨rfl, q, rfl⟩)
              | (go_at_call 47; (with_reducible refine (HPW.out _ (by first | exact Ext.refl _ | exact ext_drawnN _ _)).mono ?_); rintro e wq ⟨rfl, rfl⟩)
              | (go_at_call 47; (with_reducible refine (HNW.out _ (by first | exact Ext.refl _ | exact ext_drawnN _ _)).mono ?_); rintro e wq ⟨rfl, rfl⟩))
            go_ret
            exact ⟨false, (by show Ending.returned (Value.bool _) = _; congr 2; simp only [Bool.or_eq_false_iff, decide_eq_false_iff_not]; omega), fun _ => HL.out ⟨by omega, by omega, by omega, by omega, by omega⟩, by first | exact HX0.out | exact HX0.out.trans ((drawn_below _ _).mono HX0.out.size)⟩
end Go.Proofs.Ytjpcfpffbicpnaa
