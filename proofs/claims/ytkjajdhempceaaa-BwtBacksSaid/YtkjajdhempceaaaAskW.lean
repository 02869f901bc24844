/- What the laws on rows share. -/
import Derived.Test.YtkjajdhempceaaaBwtM
import Derived.Test.YtkjajdhempceaaaAskS
set_option linter.unusedVariables false
set_option linter.unusedSimpArgs false
namespace Go.Proofs.Ytkjajdhempceaaa
open Go.RowKit Lec
abbrev AskW : Rep (List Int × Int) := Rep.pair (Rep.slice (Rep.int .i64) 8) (Rep.int .i64)
theorem askW_of : AskW.Of Try.prog 40 :=
  Rep.struct_of Try.underlying40 (by kernel_rfl) (FieldsOf.cons rfl (by kernel_rfl) (Rep.slice_of Try.underlying24 (by kernel_rfl) (by kernel_rfl) (Rep.int_of Try.underlying3)) (FieldsOf.one rfl (by kernel_rfl) (Rep.int_of Try.underlying3)))
theorem asksW_of : (Rep.slice AskW 32).Of Try.prog 37 := Rep.slice_of Try.underlying37 (by kernel_rfl) (by kernel_rfl) askW_of

theorem askW_at {w : World} {A : Option Addr} {xs : List (List Int × Int)} (h : Row AskW w A xs) (i : Nat) (hi : i < xs.length) :
    ∃ a B c, A = some a ∧ w.cell? (a.add (i * 2)) = some (.slice B xs[i].1.length c) ∧ w.cell? ⟨(a.add (i * 2)).block, (a.add (i * 2)).off + 1, none⟩ = some (.int .i64 xs[i].2) ∧
      xs[i].1.length ≤ c ∧ (B = none → xs[i].1.length = 0 ∧ c = 0) ∧ Rds w B (intsV xs[i].1) ∧ (-9223372036854775808 ≤ xs[i].2 ∧ xs[i].2 ≤ 9223372036854775807) := by
  obtain ⟨a, cs, e, hl, hc, c1, c2, rfl, _, ⟨B, c, rfl, b1, b2, b3, b4, b5⟩, ⟨rfl, hw⟩⟩ := h i hi
  refine ⟨a, B, c, e, by have := hc 0 _ rfl; rwa [show i * AskW.n + 0 = i * 2 from rfl] at this, ?_, b1, b3, b5.rds, wf_i64 hw⟩
  have := hc 1 _ rfl
  rwa [show i * AskW.n + 1 = i * 2 + 1 from rfl, add_fld _ _ _ (by omega)] at this

theorem num5 (w : World) (e : Int) : Calls Try.prog 22 #[.int .i64 e] w fun r w' => r = .returned (.int .i64 e) ∧ w = w' := by
  go_enter Try.func22, Try.ntmps22
  go_wp2
  go_ret
  exact ⟨rfl, rfl⟩

def heavyW (L : List Int) : Bool := decide (250 < L.length)
theorem heavyW_light {L : List Int} (h : heavyW L = false) : L.length ≤ 250 := by
  unfold heavyW at h
  simp only [decide_eq_false_iff_not] at h
  omega
theorem heavyW_any (w : World) (A : Option Addr) (n c : Nat) (at_ : Int) (L : List Int) (hn : L.length = n) :
    Calls Try.prog 20 #[.agg #[.slice A n c, .int .i64 at_]] w fun e w' => e = .returned (.bool (heavyW L)) ∧ Below w.heap.size w w' := by
  subst hn
  go_enter Try.func20, Try.ntmps20
  go_wp2
  go_ret
  exact ⟨by unfold heavyW; simp; omega, (Below.refl _ _).alloc (Nat.le_refl _) _⟩

theorem sa1010 : Sa.IsSA [1, 0, 1, 0] [3, 1, 2, 0] := ⟨rfl, by decide, by decide⟩
theorem out1010 : Sa.outL [1, 0, 1, 0] (Sa.rowsL [1, 0, 1, 0] [3, 1, 2, 0]) = [0, 1, 1, 0] := by decide
theorem at1010 : Sa.atK (Sa.rowsL [1, 0, 1, 0] [3, 1, 2, 0]) 5 = 4 := by decide

set_option maxRecDepth 100000 in
theorem wakes5 (w : World) : Calls Try.prog 24 #[] w fun e w' => e = .returned (.bool true) ∧ Below w.heap.size w w' := by
  go_enter Try.func24, Try.ntmps24
  go_wp2_with fail
  have HX0 : Hid (Below w.heap.size w (w.alloc (.cells #[.int .i64 1, .int .i64 0, .int .i64 1, .int .i64 0] 3))) := (Below.refl _ _).alloc (Nat.le_refl _) _
  refine (Make_any _ _ 4 [1, 0, 1, 0] (by decide) (lit_rds _ _) (fun e => by cases e) (by decide)).mono ?_
  rintro e w1 ⟨b, v, he, hsa, hown, hb⟩
  have hb10 : b = [3, 1, 2, 0] := hsa.eq sa1010
  subst hb10
  rw [show ([1, 0, 1, 0] : List Nat).length + 1 = 5 from rfl, at1010] at he
  rw [out1010, show ([1, 0, 1, 0] : List Nat).length = 4 from rfl] at hown
  subst he
  obtain ⟨A1, c1, rfl, p1, p2, p3, p4, p5⟩ := own_rds hown
  have HX1 : Hid (Below w.heap.size w w1) := HX0.out.trans (hb.mono HX0.out.size)
  have HP4 := Lib.hid p4
  clear hown hsa hb p1 p2 p3 p4 p5 HX0
  go_wp2_with (go_at_call 22; refine (num5 _ _).mono ?_; rintro e wq ⟨rfl, rfl⟩)
  have HX2 : Hid (Below w.heap.size w (w1.alloc (.cells #[.int .i64 0, .int .i64 1, .int .i64 1, .int .i64 0] 3))) := HX1.out.alloc HX1.out.size _
  refine (EqNumbers_any _ A1 4 c1 [0, 1, 1, 0] rfl (HP4.out.ext ((Below.refl w1.heap.size w1).alloc (Nat.le_refl _) _) (Nat.le_refl _)) _ 4 4 [0, 1, 1, 0] rfl (lit_rds _ _) (by omega)).mono ?_
  rintro e w3 ⟨rfl, q, rfl⟩
  go_wp2
  go_ret
  exact ⟨rfl, HX2.out.trans ((drawn_below _ q).mono HX2.out.size)⟩
end Go.Proofs.Ytkjajdhempceaaa
