/- What the laws on bounds share: heavy, made, wakes. -/
import Derived.Test.YthibhndeejichaaBndNew
import Derived.Test.YthibhndeejichaaBndWhere
import Derived.Test.YthibhndeejichaaBndRef
import Derived.Test.YthibhndeejichaaSpoilN
import Derived.Test.YthibhndeejichaaHelpCN
import Derived.Test.YthibhndeejichaaWakes10
import Derived.Test.YthibhndeejichaaRead
set_option linter.unusedVariables false
set_option linter.unusedSimpArgs false
namespace Go.Proofs.Ythibhndeejichaa
open Go.RowKit Lec

abbrev Ask7 : Rep (List Int × List Int) := Rep.pair (Rep.slice (Rep.int .i64) 8) (Rep.slice (Rep.int .i64) 8)
theorem ask7_of : Ask7.Of Try.prog 53 :=
  Rep.struct_of Try.underlying53 (by kernel_rfl) (FieldsOf.cons rfl (by kernel_rfl) (Rep.slice_of Try.underlying34 (by kernel_rfl) (by kernel_rfl) (Rep.int_of Try.underlying3)) (FieldsOf.one rfl (by kernel_rfl) (Rep.slice_of Try.underlying34 (by kernel_rfl) (by kernel_rfl) (Rep.int_of Try.underlying3))))
theorem wf_i64 {x : Int} (hw : (Lit.int .i64 x).wf = true) : -9223372036854775808 ≤ x ∧ x ≤ 9223372036854775807 := by
  simp [Lit.wf, IntKind.min, IntKind.max, IntKind.bits, IntKind.signed] at hw; omega

theorem num7 (w : World) (e : Int) : Calls Try.prog 34 #[.int .i64 e] w fun r w' => r = .returned (.int .i64 e) ∧ w = w' := by
  go_enter Try.func34, Try.ntmps34
  go_wp2
  go_ret
  exact ⟨rfl, rfl⟩

def heavy7 (L Is : List Int) : Bool := decide (200 < L.length) || decide (200 < Is.length)
theorem heavy7_light {L Is : List Int} (h : heavy7 L Is = false) : L.length ≤ 200 ∧ Is.length ≤ 200 := by
  unfold heavy7 at h
  simp only [Bool.or_eq_false_iff, decide_eq_false_iff_not] at h
  omega

theorem heavy7_any (w : World) (A : Option Addr) (n c : Nat) (B : Option Addr) (m d : Nat) (L Is : List Int) (hn : L.length = n) (hm : Is.length = m) :
    Calls Try.prog 29 #[.agg #[.slice A n c, .slice B m d]] w fun e w' => e = .returned (.bool (heavy7 L Is)) ∧ Below w.heap.size w w' := by
  subst hn hm
  generalize ht : heavy7 L Is = t
  unfold heavy7 at ht
  have HT := Lib.hid ht
  clear ht
  go_enter Try.func29, Try.ntmps29
  by_cases h1 : 200 < L.length
  · have h1i : (200 : Int) < (L.length : Int) := by omega
    have HE : Hid (t = true) := by show _ = _; rw [← HT.out, decide_eq_true h1]; rfl
    clear HT
    go_wp2
    go_ret
    exact ⟨by rw [HE.out]; rfl, (Below.refl _ _).alloc (Nat.le_refl _) _⟩
  · have h1i : ¬ (200 : Int) < (L.length : Int) := by omega
    by_cases h2 : 200 < Is.length
    · have h2i : (200 : Int) < (Is.length : Int) := by omega
      have HE : Hid (t = true) := by show _ = _; rw [← HT.out, decide_eq_true h2]; simp
      clear HT
      go_wp2
      go_ret
      exact ⟨by rw [HE.out]; rfl, (Below.refl _ _).alloc (Nat.le_refl _) _⟩
    · have h2i : ¬ (200 : Int) < (Is.length : Int) := by omega
      have HE : Hid (t = false) := by show _ = _; rw [← HT.out, decide_eq_false h1, decide_eq_false h2]; rfl
      clear HT
      go_wp2
      go_ret
      exact ⟨by rw [HE.out]; rfl, (Below.refl _ _).alloc (Nat.le_refl _) _⟩

def MadePost (L : List Int) (w : World) (e : Ending) (w' : World) : Prop :=
  Below w.heap.size w w' ∧
  ((okI L ∧ ∃ p, e = .returned (.tuple #[.pointer (some ⟨p, 0, none⟩), .int .i64 0]) ∧ Bnd w' p (startsI L (L.length + 1))) ∨
   (¬ okI L ∧ lensI L ≠ 0 ∧ e = .returned (.tuple #[.pointer none, .int .i64 (lensI L)])))

set_option maxRecDepth 100000 in
theorem made_any (w : World) (A : Option Addr) (n c : Nat) (B : Option Addr) (m d : Nat) (L : List Int) (hn : L.length = n) (hm : n ≤ 200) (hw : ∀ x ∈ L, -9223372036854775808 ≤ x ∧ x ≤ 9223372036854775807) (hr : Rds w A (intsI L)) :
    Calls Try.prog 30 #[.agg #[.slice A n c, .slice B m d]] w (MadePost L w) := by
  have HR := Lib.hid hr
  have HN := Lib.hid hn
  have HW := Lib.hid hw
  clear hr hn hw
  go_enter Try.func30, Try.ntmps30
  go_wp2_with fail
  have hb0 : Below w.heap.size w (w.alloc (.cells #[.slice A n c, .slice B m d] 53)) := (Below.refl _ _).alloc (Nat.le_refl _) _
  have hc0 : (w.alloc (.cells #[.slice A n c, .slice B m d] 53)).cell? ⟨w.heap.size, 0, none⟩ = some (.slice A n c) := by rw [cell_of_row _ _ _ _ _ _ (heap_alloc_new _ _)]; rfl
  have hlt : w.heap.size < (w.alloc (.cells #[.slice A n c, .slice B m d] 53)).heap.size := by simp
  have HX0 := Lib.hid hb0
  have HC0 := Lib.hid hc0
  clear hb0 hc0
  generalize w.alloc (.cells #[.slice A n c, .slice B m d] 53) = w0 at *
  refine (CopyNumbers_any w0 A n c L HN.out (by omega) (HR.out.ext HX0.out (Nat.le_refl _))).mono ?_
  rintro e w1 ⟨v, rfl, hown, hb1⟩
  obtain ⟨A1, c1, rfl, p1, p2, p3, p4, p5⟩ := own_rds hown
  have HO1 := Lib.hid hown
  have HX1 : Hid (Below w.heap.size w w1) := HX0.out.trans (hb1.mono HX0.out.size)
  have HP4 := Lib.hid p4
  have HC1 := Lib.hid (cell_ext hb1 (Nat.le_refl _) HC0.out)
  have hs1 := hb1.size
  clear p1 p2 p3 p4 p5 hown hb1 HX0 HC0
  go_wp2_with fail
  refine (New_any w1 A1 n c1 L HN.out (by omega) HW.out HP4.out).mono ?_
  rintro e w2 ⟨hb2, hpost⟩
  have HX2 : Hid (Below w.heap.size w w2) := HX1.out.trans (hb2.mono HX1.out.size)
  have HO2 := Lib.hid (own_ext HO1.out hb2 (Nat.le_refl _))
  have HC2 := Lib.hid (cell_ext hb2 (Nat.le_refl _) HC1.out)
  have hs2 := hb2.size
  have HO1b : Hid (∀ k, (Value.slice A1 n c1).ownBlock = some k → w0.heap.size ≤ k ∧ k < w1.heap.size) := fun k hk => HO1.out.lt k hk
  clear hb2 HO1 HC1 HP4 HX1
  rcases hpost with ⟨hok, p, rfl, hbn⟩ | ⟨hok, rfl⟩
  · have HBN := Lib.hid hbn
    have HOK := Lib.hid hok
    clear hbn hok
    go_wp2_with fail
    refine (spoilN_any w2 w0.heap.size _ n L HN.out (by omega) (by omega) HO2.out).mono ?_
    rintro e w3 ⟨rfl, hg⟩
    have HB3 : Hid (Bnd w3 p (startsI L (L.length + 1))) := (HBN.out.grown hg (fun k hk => (HO1b.out k hk).2)).bnd
    have HX3 : Hid (Below w.heap.size w w3) := HX2.out.grown hg HX2.out.size (fun k hk => by have := (HO1b.out k hk).1; omega)
    have hc3 : w3.cell? ⟨w.heap.size, 0, none⟩ = some (.slice A n c) := (World.cell?_of_block (hg.block w.heap.size (by omega) (fun e => by have := (HO1b.out _ e.symm).1; omega))).trans HC2.out
    clear hg HO2 HX2 HC2
    go_wp2_with fail
    refine (refLens_any w3 A n c L HN.out (by omega) HW.out (HR.out.ext HX3.out (Nat.le_refl _))).mono ?_
    rintro e w4 ⟨rfl, rfl⟩
    rw [lensI_ok HOK.out]
    go_wp2_with (go_at_call 34; refine (num7 _ _).mono ?_; rintro e wq ⟨rfl, rfl⟩)
    go_ret2
    exact ⟨HX3.out, .inl ⟨HOK.out, p, rfl, HB3.out⟩⟩
  · have HOK := Lib.hid hok
    have hl : lensI L ≠ 0 := by rcases lensI_cases L with h | h | h <;> first | exact absurd h.2 hok | (rw [h.1]; decide)
    have hl1 : (lensI L != 0) = true := by rw [bne_iff_ne]; exact hl
    have hl2 : (lensI L != lensI L) = false := by simp
    have HL := Lib.hid hl
    clear hok hl
    go_wp2_with fail
    refine (spoilN_any w2 w0.heap.size _ n L HN.out (by omega) (by omega) HO2.out).mono ?_
    rintro e w3 ⟨rfl, hg⟩
    have HX3 : Hid (Below w.heap.size w w3) := HX2.out.grown hg HX2.out.size (fun k hk => by have := (HO1b.out k hk).1; omega)
    have hc3 : w3.cell? ⟨w.heap.size, 0, none⟩ = some (.slice A n c) := (World.cell?_of_block (hg.block w.heap.size (by omega) (fun e => by have := (HO1b.out _ e.symm).1; omega))).trans HC2.out
    clear hg HO2 HX2 HC2
    go_wp2_with fail
    refine (refLens_any w3 A n c L HN.out (by omega) HW.out (HR.out.ext HX3.out (Nat.le_refl _))).mono ?_
    rintro e w4 ⟨rfl, rfl⟩
    generalize hlq : lensI L = lq at *
    go_wp2_with (go_at_call 34; refine (num7 _ _).mono ?_; rintro e wq ⟨rfl, rfl⟩)
    go_ret2
    exact ⟨HX3.out, .inr ⟨HOK.out, by rw [hlq]; exact HL.out, by rw [hlq]; rfl⟩⟩

theorem ok20 : okI [2, 0] := ⟨by decide, by decide, by decide⟩
theorem s20 : startI [2, 0] 1 = 3 ∧ startI [2, 0] 2 = 4 := by decide

set_option maxRecDepth 100000 in
theorem wakes7 (w : World) : Calls Try.prog 31 #[] w fun e w' => e = .returned (.bool true) ∧ Below w.heap.size w w' := by
  go_enter Try.func31, Try.ntmps31
  go_wp2_with fail
  refine (New_any _ _ 2 2 [2, 0] rfl (by omega) (by decide) (rds_new_of (Value.int .i64) _ _ _ _ rfl)).mono ?_
  rintro e w1 ⟨hb, ⟨hok, p, rfl, hbn⟩ | ⟨hok, _⟩⟩
  · have hb0 : Below w.heap.size w (w.alloc (.cells #[.int .i64 2, .int .i64 0] 3)) := (Below.refl _ _).alloc (Nat.le_refl _) _
    have HX1 : Hid (Below w.heap.size w w1) := hb0.trans (hb.mono (by simp))
    have HBN := Lib.hid hbn.bnd
    clear hb hb0 hok hbn
    go_wp2_with (go_at_call 34; refine (num7 _ _).mono ?_; rintro e wq ⟨rfl, rfl⟩)
    refine (bWhere_any w1 p [2, 0] ok20 3 1 (by decide) (by rw [s20.1]; omega) (by rw [s20.2]; omega) HBN.out).mono ?_
    rintro e w2 ⟨rfl, hb2⟩
    rw [s20.1]
    go_wp2_with (go_at_call 34; refine (num7 _ _).mono ?_; rintro e wq ⟨rfl, rfl⟩)
    go_ret
    exact ⟨rfl, HX1.out.trans (hb2.mono HX1.out.size)⟩
  · exact absurd ok20 hok

theorem Bnd.drew {w : World} {p : Nat} {xs : List Int} (h : Bnd w p xs) (n : Nat) : Bnd (w.drewN n) p xs := h
theorem Calls.q_same {P : Program} {f : FuncId} {args : Array Value} {w : World} {n : Nat} {v : Value} (h : Calls P f args (w.drewN n) fun e w' => e = .returned v ∧ w.drewN n = w') :
    Calls P f args (w.drewN n) fun e w'' => e = .returned v ∧ ∃ m, w'' = w.drewN m := h.mono fun _ _ ⟨he, hm⟩ => ⟨he, n, hm.symm⟩
theorem Calls.q_drawn {P : Program} {f : FuncId} {args : Array Value} {w : World} {n : Nat} {v : Value} (h : Calls P f args (w.drewN n) fun e w' => e = .returned v ∧ ∃ q, (w.drewN n).drewN q = w') :
    Calls P f args (w.drewN n) fun e w'' => e = .returned v ∧ ∃ m, w'' = w.drewN m := h.mono fun _ _ ⟨he, q, hm⟩ => ⟨he, n + q, by rw [← hm, World.drewN_drewN]⟩
theorem bCountS (w : World) (p : Nat) (L : List Int) (hb : Bnd w p (startsI L (L.length + 1))) :
    Calls Try.prog 38 #[.pointer (some ⟨p, 0, none⟩)] w fun e w' => e = .returned (.int .i64 (L.length : Int)) ∧ w = w' := by
  refine (bCount_any w p _ hb).mono ?_
  rintro e w' ⟨rfl, rfl⟩
  exact ⟨by rw [startsI_len]; congr 2; omega, rfl⟩
theorem bAllS (w : World) (p : Nat) (L : List Int) (hb : Bnd w p (startsI L (L.length + 1))) :
    Calls Try.prog 37 #[.pointer (some ⟨p, 0, none⟩)] w fun e w' => e = .returned (.int .i64 (startI L L.length)) ∧ ∃ q, w.drewN q = w' := bAll_any w p _ _ (by rw [startsI_snoc]; simp) hb
theorem bStartS (w : World) (p : Nat) (L : List Int) (i : Nat) (hi : i < L.length) (hb : Bnd w p (startsI L (L.length + 1))) :
    Calls Try.prog 39 #[.pointer (some ⟨p, 0, none⟩), .int .i64 i] w fun e w' => e = .returned (.tuple #[.int .i64 (startI L i), .int .i64 0]) ∧ w = w' := by
  have := bStart_any w p _ i (by rw [startsI_len]; omega) hb
  rwa [startsI_at] at this
theorem bSizeS (w : World) (p : Nat) (L : List Int) (hok : okI L) (i : Nat) (hi : i < L.length) (hb : Bnd w p (startsI L (L.length + 1))) :
    Calls Try.prog 40 #[.pointer (some ⟨p, 0, none⟩), .int .i64 i] w fun e w' => e = .returned (.tuple #[.int .i64 L[i], .int .i64 0]) ∧ ∃ q, w.drewN q = w' := by
  have hst := startI_step hi
  have h0 := nonneg_at hok.1 hi
  have hlo := startI_nonneg hok.1 (show i ≤ L.length by omega)
  have hhi := startI_le hok.1 (show i + 1 ≤ L.length by omega) (Nat.le_refl _)
  have hal := hok.2.2
  refine (bSize_any w p _ i (by rw [startsI_len]; omega) (startI L i) (startI L (i + 1)) (startsI_at _ _ _ _) (startsI_at _ _ _ _) (by omega) hb).mono ?_
  rintro e w' ⟨rfl, h⟩
  exact ⟨by rw [hst, show startI L i + (L[i] + 1) - startI L i - 1 = L[i] by omega], h⟩
theorem bStartN (w : World) (p : Nat) (L : List Int) (i : Int) (hi : i < 0 ∨ (L.length : Int) ≤ i) (hb : Bnd w p (startsI L (L.length + 1))) :
    Calls Try.prog 39 #[.pointer (some ⟨p, 0, none⟩), .int .i64 i] w fun e w' => e = .returned (.tuple #[.int .i64 0, .int .i64 3]) ∧ w = w' := bStart_none w p _ i (by rw [startsI_len]; omega) hb
theorem bSizeN (w : World) (p : Nat) (L : List Int) (i : Int) (hi : i < 0 ∨ (L.length : Int) ≤ i) (hb : Bnd w p (startsI L (L.length + 1))) :
    Calls Try.prog 40 #[.pointer (some ⟨p, 0, none⟩), .int .i64 i] w fun e w' => e = .returned (.tuple #[.int .i64 0, .int .i64 3]) ∧ w = w' := bSize_none w p _ i (by rw [startsI_len]; omega) hb
end Go.Proofs.Ythibhndeejichaa
