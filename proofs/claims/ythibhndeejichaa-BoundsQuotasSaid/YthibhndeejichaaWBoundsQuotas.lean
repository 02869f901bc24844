/- The walk of the law BoundsQuotas. -/
import Derived.Test.YthibhndeejichaaAsk7
set_option linter.unusedVariables false
set_option linter.unusedSimpArgs false
namespace Lec
def z64 : List Int := List.replicate 64 0
theorem ok64 : okI z64 := ⟨by decide, by decide, by decide⟩
theorem s64 : startI z64 64 = 64 := by decide
theorem no65 : ¬ okI (z64 ++ [0]) := fun h => absurd h.2.1 (by decide)
theorem l65 : lensI (z64 ++ [0]) = 2 := lensI_much (by decide) (.inl (by decide))
theorem okC : okI [131071] := ⟨by decide, by decide, by decide⟩
theorem noD : ¬ okI [131072] := fun h => absurd h.2.2 (by decide)
theorem lD : lensI [131072] = 2 := lensI_much (by decide) (.inr (by decide))
theorem okX : okI [65536, 65534] := ⟨by decide, by decide, by decide⟩
theorem noY : ¬ okI [65536, 65535] := fun h => absurd h.2.2 (by decide)
theorem lY : lensI [65536, 65535] = 2 := lensI_much (by decide) (.inr (by decide))
theorem okE : okI [] := ⟨by decide, by decide, by decide⟩
theorem noG : ¬ okI [4611686018427387904, 4611686018427387904] := fun h => absurd h.2.2 (by decide)
theorem lG : lensI [4611686018427387904, 4611686018427387904] = 2 := lensI_much (by decide) (.inr (by decide))
theorem sC : startI [131071] 1 = 131072 := by decide
theorem sC0 : startI [131071] 0 = 0 := by decide
theorem sE : startI [] 0 = 0 := by decide
end Lec
namespace Go.Proofs.Ythibhndeejichaa
open Go.RowKit Lec

set_option maxRecDepth 100000 in
set_option maxHeartbeats 1000000 in
theorem BoundsQuotas_walk (W : World) (A B : Option Addr) (c d : Nat) (L Is : List Int) (hr : Rds W A (intsI L)) (hw : ∀ x ∈ L, -9223372036854775808 ≤ x ∧ x ≤ 9223372036854775807) (hri : Rds W B (intsI Is)) (hwi : ∀ x ∈ Is, -9223372036854775808 ≤ x ∧ x ≤ 9223372036854775807) :
    Calls Try.prog 9 #[.agg #[.slice A L.length c, .slice B Is.length d]] W fun e w' => e = .returned (.bool true) ∧ Below W.heap.size W w' := by
  have HW := Lib.hid hw
  have HRL := Lib.hid hr
  have HRI := Lib.hid hri
  have HWI := Lib.hid hwi
  clear hr hw hri hwi
  go_enter Try.func9, Try.ntmps9
  obtain ⟨ii, hi64, hz64, hs64, hy64⟩ := info_parts info_i64
  have hby : ii.bytes * 64 ≤ 281474976710656 := by rw [hy64]; decide
  go_wp2_with (go_loud (refine wpList_make_full _ rfl _ _ _ rfl W.heap.size 3 _ (.int .i64 0) 1 Try.underlying34 hi64 hz64 hs64 .i64 .i64 64 64 64 rfl rfl rfl rfl hby (by decide) (by simp) ?_; intro w1 hown hg))
  have e64 : (madeCells (Value.int .i64 0).cells (64 * 1)).toList = intsI z64 := by
    show (madeCells #[Value.int .i64 0] 64).toList = _
    rw [toList_madeCells_one]; simp [z64]
  rw [e64, show (W.alloc (.cells #[.slice A L.length c, .slice B Is.length d] 53)).heap.size = W.heap.size + 1 by simp] at hown
  have hc1 : w1.cell? ⟨W.heap.size, 0, none⟩ = some (.slice A L.length c) := (World.cell?_of_block (hg.block _ (by simp) (fun e => by cases e))).trans (by rw [cell_of_row _ _ _ _ _ _ (heap_alloc_new _ _)]; rfl)
  have HK1 := Lib.hid hc1
  have HX1 : Hid (Below W.heap.size W w1) := ((Below.refl _ _).alloc (Nat.le_refl _) _).grown hg (by simp) (fun k h => by cases h)
  have HO1 := Lib.hid hown
  have HR1 : Hid (Rds w1 (some ⟨W.heap.size + 1, 0, none⟩) (intsI z64)) := by
    obtain ⟨A', c', e, _, _, _, h, _⟩ := own_rds hown
    have e2 : some (⟨W.heap.size + 1, 0, none⟩ : Addr) = A' := by simpa using (Value.slice.inj e).1
    rw [← e2] at h
    exact h
  have hbw : W.heap.size ≤ w1.heap.size := HX1.out.size
  clear hown hg hc1 e64
  refine (New_any w1 (some ⟨W.heap.size + 1, 0, none⟩) 64 64 z64 rfl (by omega) (by decide) HR1.out).mono ?_
  rintro e w2 ⟨hb, ⟨hok, pa, rfl, hbn⟩ | ⟨hok, _⟩⟩
  case inr => exact absurd ok64 hok
  have HA2 := Lib.hid hbn
  have hw1lt : W.heap.size + 1 < w1.heap.size := (HO1.out.lt (W.heap.size + 1) rfl).2
  have HK2 := Lib.hid (cell_ext hb (Nat.le_refl _) HK1.out)
  have HX2 : Hid (Below W.heap.size W w2) := HX1.out.trans (hb.mono hbw)
  have HO2 := Lib.hid (own_ext HO1.out hb (Nat.le_refl _))
  clear hb hok hbn HO1 HR1 HK1 HX1
  go_wp2_with (at_builtin; go_loud (refine wp_app1 (w0 := w2) rfl rfl _ _ 34 rfl W.heap.size 3 (.int .i64 0) 1 8 Try.underlying34 info_i64 rfl (by decide) (by decide) _ 64 _ rfl HO2.out rfl rfl (one_cell1 rfl) (by omega) HX2.out.size ?_; intro v' w3 hown' hg' hb'; obtain ⟨A3, c3, rfl, _, _, _, r4, _⟩ := own_rds hown'; have HXB := Lib.hid hb'; have HR3 := Lib.hid r4; have HG3 := Lib.hid hg'; clear hown' hg' hb' r4))
  have hg3 : (w2.alloc (.cells #[.int .i64 0] 3)).grownBy w3 (some (W.heap.size + 1)) := HG3.out
  have hal : w2.grownBy (w2.alloc (.cells #[.int .i64 0] 3)) none := grown_below ((Below.refl _ _).alloc (Nat.le_refl _) _) (Nat.le_refl _)
  have HA3 : Hid (Bnd w3 pa (startsI z64 (z64.length + 1))) := ((HA2.out.grown hal (fun k e => by cases e)).grown hg3 (fun k e => by cases e; exact hw1lt)).bnd
  have hw2s := HX2.out.size
  have HK3 : Hid (w3.cell? ⟨W.heap.size, 0, none⟩ = some (.slice A L.length c)) :=
    (World.cell?_of_block (hg3.block W.heap.size (by have := World.block_lt_of_cell? w2 _ HK2.out; simp at this ⊢; omega) (by simp))).trans (cell_ext ((Below.refl _ _).alloc (Nat.le_refl _) _) (Nat.le_refl _) HK2.out)
  have HX3 : Hid (Below W.heap.size W w3) := HX2.out.trans HXB.out
  have HR3' : Hid (Rds w3 A3 (intsI (z64 ++ [0]))) := by show Rds _ _ _; unfold intsI; rw [List.map_append]; exact HR3.out
  clear hg3 hal HG3 HA2 HK2 HX2 HXB HR3 HO2 hw1lt
  refine (New_any w3 A3 65 c3 (z64 ++ [0]) rfl (by omega) (by decide) HR3'.out).mono ?_
  rintro e w4 ⟨hb, ⟨hok, p, rfl, hbn⟩ | ⟨hok, rfl⟩⟩
  case inl => exact absurd hok no65
  rw [l65]
  have HA4 := Lib.hid (HA3.out.ext hb (Nat.le_refl _))
  have HK4 := Lib.hid (cell_ext hb (Nat.le_refl _) HK3.out)
  have HX4 : Hid (Below W.heap.size W w4) := HX3.out.trans (hb.mono HX3.out.size)
  clear hb hok HA3 HK3 HX3 HR3'
  go_wp2_with fail
  refine (New_any _ _ 1 1 [131071] rfl (by omega) (by decide) (rds_new_of (Value.int .i64) _ _ _ _ rfl)).mono ?_
  rintro e w5 ⟨hb, ⟨hok, pc, rfl, hbn⟩ | ⟨hok, rfl⟩⟩
  case inr => exact absurd okC hok
  have hs : Below w4.heap.size w4 w5 := ((Below.refl _ _).alloc (Nat.le_refl _) _).trans (hb.mono (by simp))
  have HA5 := Lib.hid (HA4.out.ext hs (Nat.le_refl _))
  have HK5 := Lib.hid (cell_ext hs (Nat.le_refl _) HK4.out)
  have HX5 : Hid (Below W.heap.size W w5) := HX4.out.trans (hs.mono HX4.out.size)
  have HC5 := Lib.hid hbn.bnd
  clear hs hb hok HA4 HK4 HX4 hbn
  go_wp2_with fail
  refine (New_any _ _ 1 1 [131072] rfl (by omega) (by decide) (rds_new_of (Value.int .i64) _ _ _ _ rfl)).mono ?_
  rintro e w6 ⟨hb, ⟨hok, p, rfl, hbn⟩ | ⟨hok, rfl⟩⟩
  case inl => exact absurd hok noD
  rw [lD]
  have hs : Below w5.heap.size w5 w6 := ((Below.refl _ _).alloc (Nat.le_refl _) _).trans (hb.mono (by simp))
  have HA6 := Lib.hid (HA5.out.ext hs (Nat.le_refl _))
  have HK6 := Lib.hid (cell_ext hs (Nat.le_refl _) HK5.out)
  have HX6 : Hid (Below W.heap.size W w6) := HX5.out.trans (hs.mono HX5.out.size)
  have HC6 := Lib.hid (HC5.out.ext hs (Nat.le_refl _))
  clear hs hb hok HA5 HK5 HX5 HC5
  go_wp2_with fail
  refine (New_any _ _ 2 2 [65536, 65534] rfl (by omega) (by decide) (rds_new_of (Value.int .i64) _ _ _ _ rfl)).mono ?_
  rintro e w7 ⟨hb, ⟨hok, px, rfl, hbn⟩ | ⟨hok, rfl⟩⟩
  case inr => exact absurd okX hok
  have hs : Below w6.heap.size w6 w7 := ((Below.refl _ _).alloc (Nat.le_refl _) _).trans (hb.mono (by simp))
  have HA7 := Lib.hid (HA6.out.ext hs (Nat.le_refl _))
  have HK7 := Lib.hid (cell_ext hs (Nat.le_refl _) HK6.out)
  have HX7 : Hid (Below W.heap.size W w7) := HX6.out.trans (hs.mono HX6.out.size)
  have HC7 := Lib.hid (HC6.out.ext hs (Nat.le_refl _))
  clear hs hb hok HA6 HK6 HX6 hbn HC6
  go_wp2_with fail
  refine (New_any _ _ 2 2 [65536, 65535] rfl (by omega) (by decide) (rds_new_of (Value.int .i64) _ _ _ _ rfl)).mono ?_
  rintro e w8 ⟨hb, ⟨hok, p, rfl, hbn⟩ | ⟨hok, rfl⟩⟩
  case inl => exact absurd hok noY
  rw [lY]
  have hs : Below w7.heap.size w7 w8 := ((Below.refl _ _).alloc (Nat.le_refl _) _).trans (hb.mono (by simp))
  have HA8 := Lib.hid (HA7.out.ext hs (Nat.le_refl _))
  have HK8 := Lib.hid (cell_ext hs (Nat.le_refl _) HK7.out)
  have HX8 : Hid (Below W.heap.size W w8) := HX7.out.trans (hs.mono HX7.out.size)
  have HC8 := Lib.hid (HC7.out.ext hs (Nat.le_refl _))
  clear hs hb hok HA7 HK7 HX7 HC7
  go_wp2_with fail
  refine (num7 _ _).mono ?_
  rintro e wq ⟨rfl, rfl⟩
  go_wp2_with fail
  refine (bAllS w8 pa z64 HA8.out).mono ?_
  rintro e w9 ⟨rfl, q, rfl⟩
  rw [show startI z64 z64.length = 64 from s64]
  have HC9 : Hid (Bnd (w8.drewN q) pc (startsI [131071] ([131071] : List Int).length.succ)) := HC8.out
  have HK9 : Hid ((w8.drewN q).cell? ⟨W.heap.size, 0, none⟩ = some (.slice A L.length c)) := HK8.out
  have HX9 : Hid (Below W.heap.size W (w8.drewN q)) := HX8.out.trans ((drawn_below w8 q).mono HX8.out.size)
  clear HA8 HC8 HK8 HX8
  generalize w8.drewN q = w9 at *
  go_wp2_with (go_at_call 34; refine (num7 _ _).mono ?_; rintro e wq ⟨rfl, rfl⟩)
  refine (bAllS w9 pc [131071] HC9.out).mono ?_
  rintro e w10 ⟨rfl, q, rfl⟩
  rw [show startI [131071] ([131071] : List Int).length = 131072 from sC]
  have HC10 : Hid (Bnd (w9.drewN q) pc (startsI [131071] ([131071] : List Int).length.succ)) := HC9.out
  have HK10 : Hid ((w9.drewN q).cell? ⟨W.heap.size, 0, none⟩ = some (.slice A L.length c)) := HK9.out
  have HX10 : Hid (Below W.heap.size W (w9.drewN q)) := HX9.out.trans ((drawn_below w9 q).mono HX9.out.size)
  clear HC9 HK9 HX9
  generalize w9.drewN q = w10 at *
  go_wp2_with (go_at_call 34; refine (num7 _ _).mono ?_; rintro e wq ⟨rfl, rfl⟩)
  refine (bWhere_any w10 pc [131071] okC 131071 0 (by decide) (by rw [sC0]; omega) (by rw [sC]; omega) HC10.out).mono ?_
  rintro e w11 ⟨rfl, hb⟩
  rw [sC0]
  have HK11 := Lib.hid (cell_ext hb (Nat.le_refl _) HK10.out)
  have HX11 : Hid (Below W.heap.size W w11) := HX10.out.trans (hb.mono HX10.out.size)
  clear hb HC10 HK10 HX10
  go_wp2_with fail
  refine (New_any w11 none 0 0 [] rfl (by omega) (by decide) (Rds.nil _ _)).mono ?_
  rintro e w12 ⟨hb, ⟨hok, pn, rfl, hbn⟩ | ⟨hok, rfl⟩⟩
  case inr => exact absurd okE hok
  have HN12 := Lib.hid hbn.bnd
  have HK12 := Lib.hid (cell_ext hb (Nat.le_refl _) HK11.out)
  have HX12 : Hid (Below W.heap.size W w12) := HX11.out.trans (hb.mono HX11.out.size)
  clear hb hbn hok HK11 HX11
  go_wp2_with fail
  refine (New_any _ _ 2 2 [4611686018427387904, 4611686018427387904] rfl (by omega) (by decide) (rds_new_of (Value.int .i64) _ _ _ _ rfl)).mono ?_
  rintro e w13 ⟨hb, ⟨hok, p, rfl, hbn⟩ | ⟨hok, rfl⟩⟩
  case inl => exact absurd hok noG
  rw [lG]
  have hs : Below w12.heap.size w12 w13 := ((Below.refl _ _).alloc (Nat.le_refl _) _).trans (hb.mono (by simp))
  have HN13 := Lib.hid (HN12.out.ext hs (Nat.le_refl _))
  have HK13 := Lib.hid (cell_ext hs (Nat.le_refl _) HK12.out)
  have HX13 : Hid (Below W.heap.size W w13) := HX12.out.trans (hs.mono HX12.out.size)
  clear hs hb hok HN12 HK12 HX12
  go_wp2_with (go_at_call 34; refine (num7 _ _).mono ?_; rintro e wq ⟨rfl, rfl⟩)
  refine (bCountS w13 pn [] HN13.out).mono ?_
  rintro e wq ⟨rfl, rfl⟩
  go_wp2_with fail
  refine (bAllS w13 pn [] HN13.out).mono ?_
  rintro e w14 ⟨rfl, q, rfl⟩
  rw [show startI [] ([] : List Int).length = 0 from sE]
  have HN14 : Hid (Bnd (w13.drewN q) pn (startsI [] ([] : List Int).length.succ)) := HN13.out
  have HK14 : Hid ((w13.drewN q).cell? ⟨W.heap.size, 0, none⟩ = some (.slice A L.length c)) := HK13.out
  have HX14 : Hid (Below W.heap.size W (w13.drewN q)) := HX13.out.trans ((drawn_below w13 q).mono HX13.out.size)
  clear HN13 HK13 HX13
  generalize w13.drewN q = w14 at *
  go_wp2_with (go_at_call 34; refine (num7 _ _).mono ?_; rintro e wq ⟨rfl, rfl⟩)
  refine (bWhere_none w14 pn [] okE 0 (.inr (by decide)) HN14.out).mono ?_
  rintro e w15 ⟨rfl, hb⟩
  have hc15 := cell_ext hb (Nat.le_refl _) HK14.out
  have HX15 : Hid (Below W.heap.size W w15) := HX14.out.trans (hb.mono HX14.out.size)
  clear hb HN14 HK14 HX14
  have hll : (0 : Int) ≤ (L.length : Int) := by omega
  go_wp2_with (first | (go_at_call 34; refine (num7 _ _).mono ?_; rintro e wq ⟨rfl, rfl⟩) | (go_at_call 31; refine (wakes7 _).mono ?_; rintro e w16 ⟨rfl, hb16⟩))
  go_ret
  exact ⟨rfl, HX15.out.trans (hb16.mono HX15.out.size)⟩
end Go.Proofs.Ythibhndeejichaa
