/- What the laws on indexes share: the question, heavy, made, wakes, asks. -/
import Derived.Test.YtfiioobdknbacaaFmB
import Derived.Test.YtfiioobdknbacaaFmF
import Derived.Test.YtfiioobdknbacaaRefF
import Derived.Test.YtfiioobdknbacaaRefT
import Derived.Test.YtfiioobdknbacaaHelpN
import Derived.Test.YtfiioobdknbacaaRead
set_option linter.unusedVariables false
set_option linter.unusedSimpArgs false
namespace Go.Proofs.Ytfiioobdknbacaa
open Go.RowKit Lec Lec.Fm
abbrev RepIs : Rep (List Int) := Rep.slice (Rep.int .i64) 8
abbrev AskF : Rep (Int × (List Int × (List (List Int) × List Int))) := Rep.pair (Rep.int .i64) (Rep.pair RepIs (Rep.pair (Rep.slice RepIs 24) RepIs))
theorem repIs_of : RepIs.Of Try.prog 45 := Rep.slice_of Try.underlying45 (by kernel_rfl) (by kernel_rfl) (Rep.int_of Try.underlying3)
theorem askF_of : AskF.Of Try.prog 48 :=
  Rep.struct_of Try.underlying48 (by kernel_rfl) (FieldsOf.cons rfl (by kernel_rfl) (Rep.int_of Try.underlying3) (FieldsOf.cons rfl (by kernel_rfl) repIs_of (FieldsOf.cons rfl (by kernel_rfl) (Rep.slice_of Try.underlying46 (by kernel_rfl) (by kernel_rfl) repIs_of) (FieldsOf.one rfl (by kernel_rfl) repIs_of))))
theorem wfF {x : Int} (hw : (Lit.int .i64 x).wf = true) : -9223372036854775808 ≤ x ∧ x ≤ 9223372036854775807 := by
  simp [Lit.wf, IntKind.min, IntKind.max, IntKind.bits, IntKind.signed] at hw; omega
/-- A list of lists, as it is read. -/
def Pats (w : World) (B : Option Addr) (P : List (List Int)) : Prop :=
  ∀ i (h : i < P.length), ∃ a A c, B = some a ∧ w.cell? (a.add i) = some (.slice A P[i].length c) ∧ P[i].length ≤ c ∧ (A = none → P[i].length = 0 ∧ c = 0) ∧ Rds w A (intsV P[i])
theorem pats_of {w : World} {B : Option Addr} {P : List (List Int)} (h : Row RepIs w B P) : Pats w B P := fun i hi => by
  obtain ⟨a, cs, e, hl, hc, A, c, rfl, h1, h2, h3, h4, h5⟩ := h i hi
  refine ⟨a, A, c, e, ?_, h1, h3, h5.rds⟩
  have := hc 0 _ rfl
  rwa [show i * RepIs.n + 0 = i from by show i * 1 + 0 = i; omega] at this
theorem reach_len {n c : Nat} (h1 : n ≤ c) (h2 : c * 8 ≤ reachBytes) : n ≤ 1152921504606846976 := by unfold reachBytes at h2; omega
theorem pats_len {w : World} {B : Option Addr} {P : List (List Int)} (h : Row RepIs w B P) : ∀ p ∈ P, p.length ≤ 1152921504606846976 := fun p hp => by
  obtain ⟨i, hi, rfl⟩ := List.getElem_of_mem hp
  obtain ⟨a, cs, e, hl, hc, A, c, rfl, h1, h2, h3, h4, h5⟩ := h i hi
  exact reach_len h1 h4
theorem Pats.ext {w w' : World} {B : Option Addr} {P : List (List Int)} {D : Nat} (h : Pats w B P) (hb : Below D w w') (hD : w.heap.size ≤ D) : Pats w' B P := fun i hi => by
  obtain ⟨a, A, c, e, h1, h2, h3, h4⟩ := h i hi
  exact ⟨a, A, c, e, cell_ext hb hD h1, h2, h3, h4.ext hb hD⟩
theorem num6 (w : World) (e : Int) : Calls Try.prog 28 #[.int .i64 e] w fun r w' => r = .returned (.int .i64 e) ∧ w = w' := by
  go_enter Try.func28, Try.ntmps28
  go_wp2
  go_ret
  exact ⟨rfl, rfl⟩
def lightF (L : List Int) (P : List (List Int)) (Is : List Int) : Prop := L.length ≤ 400 ∧ (∀ p ∈ P, p.length ≤ 400) ∧ P.length ≤ 40 ∧ Is.length ≤ 30
def HeavyF (w : World) (L : List Int) (P : List (List Int)) (Is : List Int) (r : Ending) (w' : World) : Prop := ∃ t, r = .returned (.bool t) ∧ (t = false → lightF L P Is) ∧ Below w.heap.size w w'
theorem heavyF_any (w : World) (K : Int) (A B C : Option Addr) (c d e : Nat) (L : List Int) (P : List (List Int)) (Is : List Int) (hL : L.length ≤ 1152921504606846976) (hPl : ∀ p ∈ P, p.length ≤ 1152921504606846976) (hPn : P.length ≤ 1152921504606846976) (hp : Pats w B P) :
    Calls Try.prog 21 #[.agg #[.int .i64 K, .slice A L.length c, .slice B P.length d, .slice C Is.length e]] w (HeavyF w L P Is) := by
  have HP := Lib.hid hp
  have HPL := Lib.hid hPl
  clear hp hPl
  go_enter Try.func21, Try.ntmps21
  go_wp2
  obtain ⟨w0, hw0⟩ : ∃ w0, w0 = w.alloc (.cells #[.int .i64 K, .slice A L.length c, .slice B P.length d, .slice C Is.length e] 48) := ⟨_, rfl⟩
  rw [← hw0]
  have HX0 : Hid (Below w.heap.size w w0) := by rw [hw0]; exact (Below.refl _ _).alloc (Nat.le_refl _) _
  have c2 : w0.cell? ⟨w.heap.size, 2, none⟩ = some (.slice B P.length d) := by rw [hw0, cell_of_row _ _ _ _ _ _ (heap_alloc_new _ _)]; rfl
  have c3 : w0.cell? ⟨w.heap.size, 3, none⟩ = some (.slice C Is.length e) := by rw [hw0, cell_of_row _ _ _ _ _ _ (heap_alloc_new _ _)]; rfl
  have HP0 := Lib.hid (HP.out.ext HX0.out (Nat.le_refl _))
  clear hw0 HP
  go_loop [3, 4] (fun n i => ∃ j m : Nat, j ≤ P.length ∧ i = .int .i64 (j : Int) ∧ n = .int .i64 (m : Int) ∧ m ≤ 1152921504606846976 + 1152921504606848000 ∧ Hid (L.length ≤ m ∧ ∀ p ∈ P.take j, p.length ≤ m)) (fun _ i => P.length - (intOf i).toNat)
  case atStart => exact ⟨0, L.length, by omega, rfl, rfl, by omega, Lib.hid ⟨Nat.le_refl _, by simp⟩⟩
  case round =>
    obtain ⟨j, m, hj, rfl, rfl, hm, HG⟩ := hrel
    by_cases h1 : j < P.length
    · have h1i : (j : Int) < (P.length : Int) := by omega
      by_cases h2 : m < 1000
      · have h2i : (m : Int) < 1000 := by omega
        obtain ⟨a, PA, pc, rfl, cp, _, _, _⟩ := HP0.out j h1
        have hpl := HPL.out _ (List.getElem_mem h1)
        have HT : Hid (P.take (j + 1) = P.take j ++ [P[j]]) := List.take_succ_eq_append_getElem h1
        generalize P[j] = p at *
        go_wp2
        go_round
        case rel => exact ⟨j + 1, m + p.length + 1, by omega, by go_num, by go_num, by omega, Lib.hid ⟨by have := HG.out.1; omega, fun z hz => by
            rw [HT.out, List.mem_append] at hz
            rcases hz with hz | hz
            · have := HG.out.2 z hz; omega
            · simp at hz; subst hz; omega⟩⟩
        case measure => simp [intOf]; omega
      · have h2i : ¬ (m : Int) < 1000 := by omega
        have h3i : (400 : Int) < (m : Int) := by omega
        go_wp2
        go_ret
        exact ⟨true, rfl, (fun h => by cases h), HX0.out⟩
    · obtain rfl : j = P.length := by omega
      have h1i : ¬ (P.length : Int) < (P.length : Int) := by omega
      have HG2 : Hid (L.length ≤ m ∧ ∀ p ∈ P, p.length ≤ m) := Lib.hid (by have := HG.out; rwa [List.take_length] at this)
      by_cases h3 : 400 < m
      · have h3i : (400 : Int) < (m : Int) := by omega
        go_wp2
        go_ret
        exact ⟨true, rfl, (fun h => by cases h), HX0.out⟩
      · have h3i : ¬ (400 : Int) < (m : Int) := by omega
        by_cases h4 : 40 < P.length
        · have h4i : (40 : Int) < (P.length : Int) := by omega
          go_wp2
          go_ret
          exact ⟨true, rfl, (fun h => by cases h), HX0.out⟩
        · have h4i : ¬ (40 : Int) < (P.length : Int) := by omega
          by_cases h5 : 30 < Is.length
          · have h5i : (30 : Int) < (Is.length : Int) := by omega
            go_wp2
            go_ret
            exact ⟨true, rfl, (fun h => by cases h), HX0.out⟩
          · have h5i : ¬ (30 : Int) < (Is.length : Int) := by omega
            go_wp2
            go_ret
            exact ⟨false, rfl, fun _ => ⟨by have := HG2.out.1; omega, fun p hp => by have := HG2.out.2 p hp; omega, by omega, by omega⟩, HX0.out⟩
theorem asks_any (w : World) (k : Nat) (A : Option Addr) (c : Nat) (P : List Int) (hP : P.length ≤ 1000000) (hr : Rds w A (intsV P)) :
    Calls Try.prog 25 #[.int .i64 (k : Int), .slice A P.length c] w fun e w' => e = .returned (.int .i64 (wrongE k P : Int)) ∧ w = w' := by
  have HM := Lib.hid (refMay_any w (k : Int) A c P hP hr)
  clear hr
  go_enter Try.func25, Try.ntmps25
  by_cases h0 : P.length = 0
  · have h0i : ((P.length : Int) == 0) = true := by rw [beq_iff_eq]; omega
    have HE : Hid (wrongE k P = 5) := Lib.hid (by unfold wrongE; rw [if_pos (by rw [List.isEmpty_iff]; exact List.length_eq_zero_iff.1 h0)])
    rw [h0] at *
    go_wp2_with (go_at_call 60; refine HM.out.mono ?_; rintro e w1 ⟨rfl, rfl⟩)
    go_ret
    exact ⟨by rw [HE.out]; rfl, rfl⟩
  · have h0i : ((P.length : Int) == 0) = false := by rw [beq_eq_false_iff_ne]; omega
    have HNE : Hid (¬ P.isEmpty = true) := Lib.hid (fun h => h0 (by rw [List.isEmpty_iff.1 h]; rfl))
    clear h0
    cases hb : allIn (k : Int) P with
    | true =>
      have HE : Hid (wrongE k P = 0) := Lib.hid (by unfold wrongE; rw [if_neg HNE.out, if_pos (show patB k P = true from hb)])
      rw [hb] at HM
      clear hb
      go_wp2_with (go_at_call 60; refine HM.out.mono ?_; rintro e w1 ⟨rfl, rfl⟩)
      go_ret
      exact ⟨by rw [HE.out]; rfl, rfl⟩
    | false =>
      have HE : Hid (wrongE k P = 1) := Lib.hid (by unfold wrongE; rw [if_neg HNE.out, if_neg (by rw [show patB k P = false from hb]; simp)])
      rw [hb] at HM
      clear hb
      go_wp2_with (go_at_call 60; refine HM.out.mono ?_; rintro e w1 ⟨rfl, rfl⟩)
      go_ret
      exact ⟨by rw [HE.out]; rfl, rfl⟩
def MadeF (w : World) (K : Int) (L : List Int) (e : Ending) (w' : World) : Prop :=
  Below w.heap.size w w' ∧ ((¬ okTree K L ∧ e = .returned (.tuple #[.pointer none, .int .i64 1])) ∨
    (okTree K L ∧ ∃ x D b lo, e = .returned (.tuple #[.pointer (some ⟨x, 0, none⟩), .int .i64 0]) ∧ FmC K.toNat D (L.map Int.toNat) b ∧ FmN w' x K.toNat D (L.map Int.toNat) b lo))
set_option maxRecDepth 100000 in
theorem madeF_any (w : World) (K : Int) (A : Option Addr) (c : Nat) (B : Option Addr) (m d : Nat) (C : Option Addr) (n e : Nat) (L : List Int) (hm : L.length ≤ 400) (hr : Rds w A (intsV L)) :
    Calls Try.prog 22 #[.agg #[.int .i64 K, .slice A L.length c, .slice B m d, .slice C n e]] w (MadeF w K L) := by
  have HR := Lib.hid hr
  clear hr
  go_enter Try.func22, Try.ntmps22
  go_wp2_with fail
  obtain ⟨w0, hw0⟩ : ∃ w0, w0 = w.alloc (.cells #[.int .i64 K, .slice A L.length c, .slice B m d, .slice C n e] 48) := ⟨_, rfl⟩
  rw [← hw0]
  have HX0 : Hid (Below w.heap.size w w0) := by rw [hw0]; exact (Below.refl _ _).alloc (Nat.le_refl _) _
  have HC00 : Hid (w0.cell? ⟨w.heap.size, 0, none⟩ = some (.int .i64 K)) := by rw [hw0]; show _ = _; rw [cell_of_row _ _ _ _ _ _ (heap_alloc_new _ _)]; rfl
  have HC0 : Hid (w0.cell? ⟨w.heap.size, 1, none⟩ = some (.slice A L.length c)) := by rw [hw0]; show _ = _; rw [cell_of_row _ _ _ _ _ _ (heap_alloc_new _ _)]; rfl
  have hlt : w.heap.size < w0.heap.size := by rw [hw0]; simp
  clear hw0
  refine (CopyNumbers_any w0 A L.length c L rfl (by omega) (HR.out.ext HX0.out (Nat.le_refl _))).mono ?_
  rintro e w1 ⟨v, rfl, hown, hb1⟩
  obtain ⟨A1, c1, rfl, p1, p2, p3, p4, p5⟩ := own_rds hown
  have HO1 := Lib.hid hown
  have HX1 : Hid (Below w.heap.size w w1) := HX0.out.trans (hb1.mono HX0.out.size)
  have HP4 := Lib.hid p4
  have HP3 := Lib.hid p3
  have HC1 := Lib.hid (cell_ext hb1 (Nat.le_refl _) HC0.out)
  have HC01 := Lib.hid (cell_ext hb1 (Nat.le_refl _) HC00.out)
  have hs1 := hb1.size
  have c01 := HC01.out
  clear p1 p2 p3 p4 p5 hown hb1 HX0 HC0 HC00
  go_wp2_with fail
  refine (Build_any w1 A1 c1 K L (by omega) HP4.out HP3.out).mono ?_
  rintro e w2 ⟨hb2, hpost⟩
  have HX2 : Hid (Below w.heap.size w w2) := HX1.out.trans (hb2.mono HX1.out.size)
  have HO2 := Lib.hid (own_ext HO1.out hb2 (Nat.le_refl _))
  have HC2 := Lib.hid (cell_ext hb2 (Nat.le_refl _) HC1.out)
  have HC02 := Lib.hid (cell_ext hb2 (Nat.le_refl _) HC01.out)
  have hs2 := hb2.size
  have HO1b : Hid (∀ k, (Value.slice A1 L.length c1).ownBlock = some k → w0.heap.size ≤ k ∧ k < w1.heap.size) := fun k hk => HO1.out.lt k hk
  have HRT : Hid (∀ w3, Below w.heap.size w w3 → Calls Try.prog 59 #[.int .i64 K, .slice A L.length c] w3 fun e w' => e = .returned (.int .i64 (badT K L)) ∧ w3 = w') := Lib.hid fun w3 h => refTree_any w3 K A c L (by omega) (HR.out.ext h (Nat.le_refl _))
  clear hb2 HO1 HC1 HC01 HP4 HX1 c01
  rcases hpost with ⟨hno, rfl⟩ | ⟨hok, x, D, b, rfl, hc, hx⟩
  · have HNO := Lib.hid hno
    clear hno
    go_wp2_with fail
    refine (spoilN_any w2 w0.heap.size _ _ L rfl (by omega) (by omega) HO2.out).mono ?_
    rintro e w3 ⟨rfl, hg⟩
    have HX3 : Hid (Below w.heap.size w w3) := HX2.out.grown hg HX2.out.size (fun k hk => by have := (HO1b.out k hk).1; omega)
    have hc3 : w3.cell? ⟨w.heap.size, 1, none⟩ = some (.slice A L.length c) := (World.cell?_of_block (hg.block w.heap.size (by omega) (fun e => by have := (HO1b.out _ e.symm).1; omega))).trans HC2.out
    have hc30 : w3.cell? ⟨w.heap.size, 0, none⟩ = some (.int .i64 K) := (World.cell?_of_block (hg.block w.heap.size (by omega) (fun e => by have := (HO1b.out _ e.symm).1; omega))).trans HC02.out
    have HT := Lib.hid (HRT.out w3 HX3.out)
    rw [badT_no HNO.out] at HT
    clear hg HO2 HX2 HC2 HC02
    go_wp2_with (first | (go_at_call 59; refine HT.out.mono ?_; rintro e w4 ⟨rfl, rfl⟩) | (go_at_call 28; refine (num6 _ _).mono ?_; rintro e wq ⟨rfl, rfl⟩))
    go_ret2
    exact ⟨HX3.out, .inl ⟨HNO.out, rfl⟩⟩
  · have HOK := Lib.hid hok
    have HC := Lib.hid hc
    have HX := Lib.hid hx
    clear hok hc hx
    go_wp2_with fail
    refine (spoilN_any w2 w0.heap.size _ _ L rfl (by omega) (by omega) HO2.out).mono ?_
    rintro e w3 ⟨rfl, hg⟩
    have HX3 : Hid (Below w.heap.size w w3) := HX2.out.grown hg HX2.out.size (fun k hk => by have := (HO1b.out k hk).1; omega)
    have hc3 : w3.cell? ⟨w.heap.size, 1, none⟩ = some (.slice A L.length c) := (World.cell?_of_block (hg.block w.heap.size (by omega) (fun e => by have := (HO1b.out _ e.symm).1; omega))).trans HC2.out
    have hc30 : w3.cell? ⟨w.heap.size, 0, none⟩ = some (.int .i64 K) := (World.cell?_of_block (hg.block w.heap.size (by omega) (fun e => by have := (HO1b.out _ e.symm).1; omega))).trans HC02.out
    have HT := Lib.hid (HRT.out w3 HX3.out)
    rw [badT_ok HOK.out] at HT
    have hx3 := HX.out.grown hg (fun k hk => (HO1b.out k hk).2)
    have HX4 := Lib.hid hx3
    obtain ⟨p, kp, AA, cc, BB, c', X, x0, _⟩ := hx3.out
    clear hg HO2 HX2 HC2 HC02 hx3 HX
    go_wp2_with (first | (go_at_call 59; refine HT.out.mono ?_; rintro e w4 ⟨rfl, rfl⟩) | (go_at_call 28; refine (num6 _ _).mono ?_; rintro e wq ⟨rfl, rfl⟩))
    go_ret2
    exact ⟨HX3.out, .inr ⟨HOK.out, x, D, b, _, rfl, HC.out, HX4.out⟩⟩
set_option maxRecDepth 100000 in
theorem wakesF (w : World) : Calls Try.prog 23 #[] w fun e w' => e = .returned (.bool true) ∧ Below w.heap.size w w' := by
  go_enter Try.func23, Try.ntmps23
  go_wp2_with fail
  have HX0 : Hid (Below w.heap.size w (w.alloc (.cells #[.int .i64 1, .int .i64 0, .int .i64 1, .int .i64 0] 3))) := (Below.refl _ _).alloc (Nat.le_refl _) _
  refine (Build_any _ _ 4 2 [1, 0, 1, 0] (by decide) (show Rds _ _ (intsV [1, 0, 1, 0]) from rds_litM _ _ _) (fun e => by cases e)).mono ?_
  rintro e w1 ⟨hb, ⟨hno, _⟩ | ⟨hok, x, D, b, rfl, hc, hx⟩⟩
  · exact absurd ⟨by decide, by decide, by decide⟩ hno
  have HX1 : Hid (Below w.heap.size w w1) := HX0.out.trans (hb.mono HX0.out.size)
  have HB2 : Hid (Below w1.heap.size w1 (w1.alloc (.cells #[.int .i64 1, .int .i64 0] 3))) := (Below.refl _ _).alloc (Nat.le_refl _) _
  have HF := Lib.hid (Find_any hc (hx.ext HB2.out (Nat.le_refl _)) (some ⟨w1.heap.size, 0, none⟩) 2 [1, 0] (by decide) (show Rds _ _ (intsV [1, 0]) from rds_litM _ _ _))
  clear hb hok hc hx
  go_wp2_with (go_at_call 28; refine (num6 _ _).mono ?_; rintro e wq ⟨rfl, rfl⟩)
  refine HF.out.mono ?_
  rintro e w2 ⟨v, rfl, hown, hb2⟩
  have hfe : findE (Int.toNat 2) (([1, 0, 1, 0] : List Int).map Int.toNat) [1, 0] = [0, 2] := by decide
  have hwe : wrongE (Int.toNat 2) [1, 0] = 0 := by decide
  rw [hfe] at hown
  rw [hwe]
  obtain ⟨A2, c2, rfl, _, _, _, r4, _⟩ := own_rds hown
  have HX2 : Hid (Below w.heap.size w w2) := (HX1.out.trans (HB2.out.mono HX1.out.size)).trans (hb2.mono (HX1.out.trans (HB2.out.mono HX1.out.size)).size)
  have HB3 : Hid (Below w2.heap.size w2 (w2.alloc (.cells #[.int .i64 0, .int .i64 2] 3))) := (Below.refl _ _).alloc (Nat.le_refl _) _
  have HE := Lib.hid (EqNumbers_any (w2.alloc (.cells #[.int .i64 0, .int .i64 2] 3)) A2 2 c2 [0, 2] rfl (r4.ext HB3.out (Nat.le_refl _)) (some ⟨w2.heap.size, 0, none⟩) 2 2 [0, 2] rfl (show Rds _ _ (intsV [0, 2]) from rds_litM _ _ _) (by decide))
  rw [decide_eq_true rfl] at HE
  clear hown hb2 r4 hfe hwe
  go_wp2_with (first | (go_at_call 28; refine (num6 _ _).mono ?_; rintro e wq ⟨rfl, rfl⟩) | (go_at_call 29; refine HE.out.mono ?_; rintro e wq ⟨rfl, q, rfl⟩))
  go_ret
  exact ⟨rfl, (HX2.out.trans (HB3.out.mono HX2.out.size)).trans ((drawn_below _ q).mono (HX2.out.trans (HB3.out.mono HX2.out.size)).size)⟩
end Go.Proofs.Ytfiioobdknbacaa
