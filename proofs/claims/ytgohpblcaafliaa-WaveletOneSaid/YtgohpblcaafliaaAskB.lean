/- What the laws on bits share. -/
import Derived.Test.YtgohpblcaafliaaVecN
import Derived.Test.YtgohpblcaafliaaSpoilQ
import Derived.Test.YtgohpblcaafliaaHelpCQ
import Derived.Test.YtgohpblcaafliaaRead
set_option linter.unusedVariables false
set_option linter.unusedSimpArgs false
namespace Lec
open Go Go.RowKit
theorem wf_i64 {x : Int} (hw : (Lit.int .i64 x).wf = true) : -9223372036854775808 ≤ x ∧ x ≤ 9223372036854775807 := by
  simp [Lit.wf, IntKind.min, IntKind.max, IntKind.bits, IntKind.signed] at hw; omega
end Lec
namespace Go.Proofs.Ytgohpblcaafliaa
open Go.RowKit Lec
abbrev AskB : Rep (List Bool × List Int) := Rep.pair (Rep.slice Rep.bool 1) (Rep.slice (Rep.int .i64) 8)
theorem askB_of : AskB.Of Try.prog 25 :=
  Rep.struct_of Try.underlying25 (by kernel_rfl) (FieldsOf.cons rfl (by kernel_rfl) (Rep.slice_of Try.underlying22 (by kernel_rfl) (by kernel_rfl) (Rep.bool_of Try.underlying4)) (FieldsOf.one rfl (by kernel_rfl) (Rep.slice_of Try.underlying23 (by kernel_rfl) (by kernel_rfl) (Rep.int_of Try.underlying3))))

theorem num1 (w : World) (e : Int) : Calls Try.prog 17 #[.int .i64 e] w fun r w' => r = .returned (.int .i64 e) ∧ w = w' := by
  go_enter Try.func17, Try.ntmps17
  go_wp2
  go_ret
  exact ⟨rfl, rfl⟩

def heavyB (L : List Bool) (Is : List Int) : Bool := decide (600 < L.length) || decide (60 < Is.length)
theorem heavyB_light {L : List Bool} {Is : List Int} (h : heavyB L Is = false) : L.length ≤ 600 ∧ Is.length ≤ 60 := by
  unfold heavyB at h
  simp only [Bool.or_eq_false_iff, decide_eq_false_iff_not] at h
  omega

theorem heavyB_any (w : World) (A : Option Addr) (n c : Nat) (B : Option Addr) (m d : Nat) (L : List Bool) (Is : List Int) (hn : L.length = n) (hm : Is.length = m) :
    Calls Try.prog 14 #[.agg #[.slice A n c, .slice B m d]] w fun e w' => e = .returned (.bool (heavyB L Is)) ∧ Below w.heap.size w w' := by
  subst hn hm
  generalize ht : heavyB L Is = t
  unfold heavyB at ht
  have HT := Lib.hid ht
  clear ht
  go_enter Try.func14, Try.ntmps14
  by_cases h1 : 600 < L.length
  · have h1i : (600 : Int) < (L.length : Int) := by omega
    have HE : Hid (t = true) := by show _ = _; rw [← HT.out, decide_eq_true h1]; rfl
    clear HT
    go_wp2
    go_ret
    exact ⟨by rw [HE.out]; rfl, (Below.refl _ _).alloc (Nat.le_refl _) _⟩
  · have h1i : ¬ (600 : Int) < (L.length : Int) := by omega
    by_cases h2 : 60 < Is.length
    · have h2i : (60 : Int) < (Is.length : Int) := by omega
      have HE : Hid (t = true) := by show _ = _; rw [← HT.out, decide_eq_true h2]; simp
      clear HT
      go_wp2
      go_ret
      exact ⟨by rw [HE.out]; rfl, (Below.refl _ _).alloc (Nat.le_refl _) _⟩
    · have h2i : ¬ (60 : Int) < (Is.length : Int) := by omega
      have HE : Hid (t = false) := by show _ = _; rw [← HT.out, decide_eq_false h1, decide_eq_false h2]; rfl
      clear HT
      go_wp2
      go_ret
      exact ⟨by rw [HE.out]; rfl, (Below.refl _ _).alloc (Nat.le_refl _) _⟩

theorem wakesB_lit {w : World} (T : TypeId) : Rds (w.alloc (.cells #[.bool true, .bool false, .bool true] T)) (some ⟨w.heap.size, 0, none⟩) (boolsV [true, false, true]) := by
  intro i v hv
  refine ⟨_, rfl, ?_⟩
  rw [Addr.add_lit, cell_of_row _ _ _ _ _ _ (heap_alloc_new _ _), Nat.zero_add, ← hv]
  simp [boolsV]

set_option maxRecDepth 100000 in
theorem wakesB (w : World) : Calls Try.prog 20 #[] w fun e w' => e = .returned (.bool true) ∧ Below w.heap.size w w' := by
  go_enter Try.func20, Try.ntmps20
  go_wp2_with fail
  have HX0 : Hid (Below w.heap.size w (w.alloc (.cells #[.bool true, .bool false, .bool true] 4))) := (Below.refl _ _).alloc (Nat.le_refl _) _
  refine (New_any _ _ 3 3 [true, false, true] rfl (by omega) (wakesB_lit 4)).mono ?_
  rintro e w1 ⟨p, rfl, _, _, hv, hb⟩
  have HV := Lib.hid hv.vec
  have HX : Hid (Below w.heap.size w w1) := HX0.out.trans (hb.mono HX0.out.size)
  clear hv hb HX0
  go_wp2_with (go_at_call 17; refine (num1 _ _).mono ?_; rintro e wq ⟨rfl, rfl⟩)
  refine (Rank_in w1 p [true, false, true] HV.out (by decide) 2 (by decide)).mono ?_
  rw [show rankB [true, false, true] 2 = 1 by decide]
  rintro e w2 ⟨rfl, q, rfl⟩
  go_wp2_with (go_at_call 17; refine (num1 _ _).mono ?_; rintro e wq ⟨rfl, rfl⟩)
  go_ret
  exact ⟨rfl, HX.out.trans ((drawn_below w1 q).mono HX.out.size)⟩

def MadeB (w : World) (L : List Bool) (e : Ending) (w' : World) : Prop := ∃ p, e = .returned (.pointer (some ⟨p, 0, none⟩)) ∧ Vec w' p L ∧ Below w.heap.size w w'

set_option maxRecDepth 100000 in
theorem madeB_any (w : World) (A : Option Addr) (n c : Nat) (B : Option Addr) (m d : Nat) (L : List Bool) (hn : L.length = n) (hm : n ≤ 600) (hr : Rds w A (boolsV L)) :
    Calls Try.prog 15 #[.agg #[.slice A n c, .slice B m d]] w (MadeB w L) := by
  have HR := Lib.hid hr
  have HN := Lib.hid hn
  clear hr hn
  go_enter Try.func15, Try.ntmps15
  go_wp2_with fail
  obtain ⟨w0, hw0⟩ : ∃ w0, w0 = w.alloc (.cells #[.slice A n c, .slice B m d] 25) := ⟨_, rfl⟩
  rw [← hw0]
  have HX0 : Hid (Below w.heap.size w w0) := by rw [hw0]; exact (Below.refl _ _).alloc (Nat.le_refl _) _
  have HC0 : Hid (w0.cell? ⟨w.heap.size, 0, none⟩ = some (.slice A n c)) := by rw [hw0]; show _ = _; rw [cell_of_row _ _ _ _ _ _ (heap_alloc_new _ _)]; rfl
  have hlt : w.heap.size < w0.heap.size := by rw [hw0]; simp
  clear hw0
  refine (CopyBools_any w0 A n c L HN.out (by omega) (HR.out.ext HX0.out (Nat.le_refl _))).mono ?_
  rintro e w1 ⟨v, rfl, hown, hb1⟩
  obtain ⟨A1, c1, rfl, p1, p2, p3, p4, p5⟩ := own_rds hown
  have HO1 := Lib.hid hown
  have HX1 : Hid (Below w.heap.size w w1) := HX0.out.trans (hb1.mono HX0.out.size)
  have HP4 := Lib.hid p4
  have HC1 := Lib.hid (cell_ext hb1 (Nat.le_refl _) HC0.out)
  have hs1 := hb1.size
  clear p1 p2 p3 p4 p5 hown hb1 HX0 HC0
  go_wp2_with fail
  refine (New_any w1 A1 n c1 L HN.out (by omega) HP4.out).mono ?_
  rintro e w2 ⟨p, rfl, hp1, hp2, hv, hb2⟩
  have HX2 : Hid (Below w.heap.size w w2) := HX1.out.trans (hb2.mono HX1.out.size)
  have HO2 := Lib.hid (own_ext HO1.out hb2 (Nat.le_refl _))
  have HC2 := Lib.hid (cell_ext hb2 (Nat.le_refl _) HC1.out)
  have hs2 := hb2.size
  have HO1b : Hid (∀ k, (Value.slice A1 n c1).ownBlock = some k → w0.heap.size ≤ k ∧ k < w1.heap.size) := fun k hk => HO1.out.lt k hk
  have HV := Lib.hid hv
  clear hb2 HO1 HC1 HP4 HX1 hv
  go_wp2_with fail
  refine (spoilQ_any w2 w0.heap.size _ n L HN.out (by omega) (by omega) HO2.out).mono ?_
  rintro e w3 ⟨rfl, hg⟩
  have HV3 : Hid (Vec w3 p L) := (HV.out.grown hg (fun k hk => (HO1b.out k hk).2)).vec
  have HX3 : Hid (Below w.heap.size w w3) := HX2.out.grown hg HX2.out.size (fun k hk => by have := (HO1b.out k hk).1; omega)
  have hc3 : w3.cell? ⟨w.heap.size, 0, none⟩ = some (.slice A n c) := (World.cell?_of_block (hg.block w.heap.size (by omega) (fun e => by have := (HO1b.out _ e.symm).1; omega))).trans HC2.out
  have HLN : Hid (∀ q, Calls Try.prog 43 #[.pointer (some ⟨p, 0, none⟩)] (w3.drewN q) fun e w' => e = .returned (.int .i64 (n : Int)) ∧ w3.drewN q = w') := fun q => by
    have h := len_any (w3.drewN q) p L (HV3.out.drew q)
    rwa [HN.out] at h
  have hnn : ((n : Int) != (n : Int)) = false := by simp
  clear hg HO2 HX2 HC2 HV
  go_wp2
  go_quiet (first
    | (go_at_call 17; first | exact Calls.q_same (num1 _ _) | exact Calls.quiet_of (num1 _ _))
    | (go_at_call 43; first | exact Calls.q_same (HLN.out _) | exact Calls.quiet_of (HLN.out 0)))
  go_wp2
  go_ret
  exact ⟨p, rfl, HV3.out.drew _, HX3.out.trans ((drawn_below w3 nq).mono HX3.out.size)⟩
end Go.Proofs.Ytgohpblcaafliaa
