/- What the laws on endings share. -/
import Derived.Test.YtkjajdhempceaaaRefN
import Derived.Test.YtkjajdhempceaaaRead
import Derived.Test.YtkjajdhempceaaaHelpEN
import Derived.Test.YtkjajdhempceaaaSpoilN
set_option linter.unusedVariables false
set_option linter.unusedSimpArgs false
namespace Lec
open Go Go.RowKit
theorem wf_i64 {x : Int} (hw : (Lit.int .i64 x).wf = true) : -9223372036854775808 ≤ x ∧ x ≤ 9223372036854775807 := by
  simp [Lit.wf, IntKind.min, IntKind.max, IntKind.bits, IntKind.signed] at hw; omega
end Lec
namespace Go.Proofs.Ytkjajdhempceaaa
open Go.RowKit Lec
abbrev AskS : Rep (List Int × List Int) := Rep.pair (Rep.slice (Rep.int .i64) 8) (Rep.slice (Rep.int .i64) 8)
theorem askS_of : AskS.Of Try.prog 26 :=
  Rep.struct_of Try.underlying26 (by kernel_rfl) (FieldsOf.cons rfl (by kernel_rfl) (Rep.slice_of Try.underlying24 (by kernel_rfl) (by kernel_rfl) (Rep.int_of Try.underlying3)) (FieldsOf.one rfl (by kernel_rfl) (Rep.slice_of Try.underlying24 (by kernel_rfl) (by kernel_rfl) (Rep.int_of Try.underlying3))))
theorem asksS_of : (Rep.slice AskS 48).Of Try.prog 22 := Rep.slice_of Try.underlying22 (by kernel_rfl) (by kernel_rfl) askS_of

theorem askS_at {w : World} {A : Option Addr} {xs : List (List Int × List Int)} (h : Row AskS w A xs) (i : Nat) (hi : i < xs.length) :
    ∃ a B c D d, A = some a ∧ w.cell? (a.add (i * 2)) = some (.slice B xs[i].1.length c) ∧ w.cell? ⟨(a.add (i * 2)).block, (a.add (i * 2)).off + 1, none⟩ = some (.slice D xs[i].2.length d) ∧
      xs[i].1.length ≤ c ∧ (B = none → xs[i].1.length = 0 ∧ c = 0) ∧ Rds w B (intsV xs[i].1) ∧ xs[i].2.length ≤ d ∧ (D = none → xs[i].2.length = 0 ∧ d = 0) ∧ Rds w D (intsV xs[i].2) := by
  obtain ⟨a, cs, e, hl, hc, c1, c2, rfl, _, ⟨B, c, rfl, b1, b2, b3, b4, b5⟩, ⟨D, d, rfl, d1, d2, d3, d4, d5⟩⟩ := h i hi
  refine ⟨a, B, c, D, d, e, by have := hc 0 _ rfl; rwa [show i * AskS.n + 0 = i * 2 from rfl] at this, ?_, b1, b3, b5.rds, d1, d3, d5.rds⟩
  have := hc 1 _ rfl
  rwa [show i * AskS.n + 1 = i * 2 + 1 from rfl, add_fld _ _ _ (by omega)] at this

theorem num4 (w : World) (e : Int) : Calls Try.prog 15 #[.int .i64 e] w fun r w' => r = .returned (.int .i64 e) ∧ w = w' := by
  go_enter Try.func15, Try.ntmps15
  go_wp2
  go_ret
  exact ⟨rfl, rfl⟩

def heavyS (L Is : List Int) : Bool := decide (250 < L.length) || decide (300 < Is.length)
theorem heavyS_light {L Is : List Int} (h : heavyS L Is = false) : L.length ≤ 250 ∧ Is.length ≤ 300 := by
  unfold heavyS at h
  simp only [Bool.or_eq_false_iff, decide_eq_false_iff_not] at h
  omega

theorem heavyS_any (w : World) (A : Option Addr) (n c : Nat) (B : Option Addr) (m d : Nat) (L Is : List Int) (hn : L.length = n) (hm : Is.length = m) :
    Calls Try.prog 11 #[.agg #[.slice A n c, .slice B m d]] w fun e w' => e = .returned (.bool (heavyS L Is)) ∧ Below w.heap.size w w' := by
  subst hn hm
  generalize ht : heavyS L Is = t
  unfold heavyS at ht
  have HT := Lib.hid ht
  clear ht
  go_enter Try.func11, Try.ntmps11
  by_cases h1 : 250 < L.length
  · have h1i : (250 : Int) < (L.length : Int) := by omega
    have HE : Hid (t = true) := by show _ = _; rw [← HT.out, decide_eq_true h1]; rfl
    clear HT
    go_wp2
    go_ret
    exact ⟨by rw [HE.out]; rfl, (Below.refl _ _).alloc (Nat.le_refl _) _⟩
  · have h1i : ¬ (250 : Int) < (L.length : Int) := by omega
    by_cases h2 : 300 < Is.length
    · have h2i : (300 : Int) < (Is.length : Int) := by omega
      have HE : Hid (t = true) := by show _ = _; rw [← HT.out, decide_eq_true h2]; simp
      clear HT
      go_wp2
      go_ret
      exact ⟨by rw [HE.out]; rfl, (Below.refl _ _).alloc (Nat.le_refl _) _⟩
    · have h2i : ¬ (300 : Int) < (Is.length : Int) := by omega
      have HE : Hid (t = false) := by show _ = _; rw [← HT.out, decide_eq_false h1, decide_eq_false h2]; rfl
      clear HT
      go_wp2
      go_ret
      exact ⟨by rw [HE.out]; rfl, (Below.refl _ _).alloc (Nat.le_refl _) _⟩

theorem lit_rds {w : World} (cs : Array Value) (T : TypeId) : Rds (w.alloc (.cells cs T)) (some ⟨w.heap.size, 0, none⟩) cs.toList := (Blk.new w cs T).rds
theorem sa10 : Sa.IsSA [1, 0] [1, 0] := ⟨rfl, by decide, by decide⟩

set_option maxRecDepth 100000 in
theorem wakes4 (w : World) : Calls Try.prog 19 #[] w fun e w' => e = .returned (.bool true) ∧ Below w.heap.size w w' := by
  go_enter Try.func19, Try.ntmps19
  go_wp2_with fail
  have HX0 : Hid (Below w.heap.size w (w.alloc (.cells #[.int .i64 1, .int .i64 0] 3))) := (Below.refl _ _).alloc (Nat.le_refl _) _
  refine (Sort_good _ _ 2 2 [1, 0] rfl (by omega) (lit_rds _ _) (fun e => by cases e) (by decide)).mono ?_
  rintro e w1 ⟨A, b, rfl, hown, hsa, hb⟩
  have hb10 : b = [1, 0] := hsa.eq sa10
  subst hb10
  obtain ⟨A1, c1, he1, p1, p2, p3, p4, p5⟩ := own_rds hown
  obtain ⟨rfl, _, rfl⟩ := Value.slice.inj he1
  have HX1 : Hid (Below w.heap.size w w1) := HX0.out.trans (hb.mono HX0.out.size)
  have HP4 := Lib.hid p4
  clear hown hsa hb p1 p2 p3 p4 p5 HX0 he1
  go_wp2_with (go_at_call 15; refine (num4 _ _).mono ?_; rintro e wq ⟨rfl, rfl⟩)
  have HX2 : Hid (Below w.heap.size w (w1.alloc (.cells #[.int .i64 1, .int .i64 0] 3))) := HX1.out.alloc HX1.out.size _
  refine (EqNumbers_any _ A 2 2 [1, 0] rfl (HP4.out.ext ((Below.refl w1.heap.size w1).alloc (Nat.le_refl _) _) (Nat.le_refl _)) _ 2 2 [1, 0] rfl (lit_rds _ _) (by omega)).mono ?_
  rintro e w3 ⟨rfl, q, rfl⟩
  go_wp2
  go_ret
  exact ⟨rfl, HX2.out.trans ((drawn_below _ q).mono HX2.out.size)⟩
end Go.Proofs.Ytkjajdhempceaaa
