/- What the laws on wavelet trees share: the question, heavy, made, wakes, told. -/
import Derived.Test.YtgohpblcaafliaaWavU
import Derived.Test.YtgohpblcaafliaaSpoilN
import Derived.Test.YtgohpblcaafliaaHelpCN
import Derived.Test.YtgohpblcaafliaaRead
set_option linter.unusedVariables false
set_option linter.unusedSimpArgs false
namespace Lec
open Go Go.RowKit
theorem okTree_nats {K : Int} {ys : List Int} (h : okTree K ys) : natsC (ys.map Int.toNat) = intsV ys := by
  rw [natsC_ints, List.map_map]
  congr 1
  refine (List.map_congr_left (fun y hy => ?_)).trans (List.map_id _)
  have := (h.2.2 y hy).1
  show ((y.toNat : Nat) : Int) = y
  omega
theorem okTree_lt {K : Int} {ys : List Int} (h : okTree K ys) : ∀ x ∈ ys.map Int.toNat, x < K.toNat := fun x hx => by
  obtain ⟨y, hy, rfl⟩ := List.mem_map.1 hx
  have := h.2.2 y hy
  omega
def allIn (K : Int) (ys : List Int) : Bool := ys.all fun y => decide (0 ≤ y ∧ y < K)
theorem allIn_iff (K : Int) (ys : List Int) : allIn K ys = true ↔ ∀ y ∈ ys, 0 ≤ y ∧ y < K := by
  unfold allIn; simp [List.all_eq_true]
def badT (K : Int) (L : List Int) : Int := if decide (1 ≤ K ∧ K ≤ 512) && allIn K L then 0 else 1
theorem okT_iff (K : Int) (L : List Int) : (decide (1 ≤ K ∧ K ≤ 512) && allIn K L) = true ↔ okTree K L := by
  rw [Bool.and_eq_true, allIn_iff, decide_eq_true_iff]; unfold okTree
  exact ⟨fun h => ⟨h.1.1, h.1.2, h.2⟩, fun h => ⟨⟨h.1, h.2.1⟩, h.2.2⟩⟩
theorem badT_ok {K : Int} {L : List Int} (h : okTree K L) : badT K L = 0 := by unfold badT; rw [if_pos ((okT_iff K L).2 h)]
theorem badT_no {K : Int} {L : List Int} (h : ¬ okTree K L) : badT K L = 1 := by unfold badT; rw [if_neg (fun h2 => h ((okT_iff K L).1 h2))]
end Lec
namespace Go.Proofs.Ytgohpblcaafliaa
open Go.RowKit Lec
abbrev AskV : Rep (Int × (List Int × List Int)) := Rep.pair (Rep.int .i64) (Rep.pair (Rep.slice (Rep.int .i64) 8) (Rep.slice (Rep.int .i64) 8))
theorem askV_of : AskV.Of Try.prog 43 :=
  Rep.struct_of Try.underlying43 (by kernel_rfl) (FieldsOf.cons rfl (by kernel_rfl) (Rep.int_of Try.underlying3) (FieldsOf.cons rfl (by kernel_rfl) (Rep.slice_of Try.underlying23 (by kernel_rfl) (by kernel_rfl) (Rep.int_of Try.underlying3)) (FieldsOf.one rfl (by kernel_rfl) (Rep.slice_of Try.underlying23 (by kernel_rfl) (by kernel_rfl) (Rep.int_of Try.underlying3)))))
theorem wfV {x : Int} (hw : (Lit.int .i64 x).wf = true) : -9223372036854775808 ≤ x ∧ x ≤ 9223372036854775807 := by
  simp [Lit.wf, IntKind.min, IntKind.max, IntKind.bits, IntKind.signed] at hw; omega
theorem num3 (w : World) (e : Int) : Calls Try.prog 40 #[.int .i64 e] w fun r w' => r = .returned (.int .i64 e) ∧ w = w' := by
  go_enter Try.func40, Try.ntmps40
  go_wp2
  go_ret
  exact ⟨rfl, rfl⟩
def heavyV (L Is : List Int) : Bool := decide (300 < L.length) || decide (30 < Is.length)
theorem heavyV_light {L Is : List Int} (h : heavyV L Is = false) : L.length ≤ 300 ∧ Is.length ≤ 30 := by
  unfold heavyV at h
  simp only [Bool.or_eq_false_iff, decide_eq_false_iff_not] at h
  omega
theorem heavyV_any (w : World) (K : Int) (A : Option Addr) (c : Nat) (B : Option Addr) (d : Nat) (L Is : List Int) :
    Calls Try.prog 26 #[.agg #[.int .i64 K, .slice A L.length c, .slice B Is.length d]] w fun e w' => e = .returned (.bool (heavyV L Is)) ∧ Below w.heap.size w w' := by
  generalize ht : heavyV L Is = t
  unfold heavyV at ht
  have HT := Lib.hid ht
  clear ht
  go_enter Try.func26, Try.ntmps26
  by_cases h1 : 300 < L.length
  · have h1i : (300 : Int) < (L.length : Int) := by omega
    have HE : Hid (t = true) := by show _ = _; rw [← HT.out, decide_eq_true h1]; rfl
    clear HT
    go_wp2
    go_ret
    exact ⟨by rw [HE.out]; rfl, (Below.refl _ _).alloc (Nat.le_refl _) _⟩
  · have h1i : ¬ (300 : Int) < (L.length : Int) := by omega
    by_cases h2 : 30 < Is.length
    · have h2i : (30 : Int) < (Is.length : Int) := by omega
      have HE : Hid (t = true) := by show _ = _; rw [← HT.out, decide_eq_true h2]; simp
      clear HT
      go_wp2
      go_ret
      exact ⟨by rw [HE.out]; rfl, (Below.refl _ _).alloc (Nat.le_refl _) _⟩
    · have h2i : ¬ (30 : Int) < (Is.length : Int) := by omega
      have HE : Hid (t = false) := by show _ = _; rw [← HT.out, decide_eq_false h1, decide_eq_false h2]; rfl
      clear HT
      go_wp2
      go_ret
      exact ⟨by rw [HE.out]; rfl, (Below.refl _ _).alloc (Nat.le_refl _) _⟩
theorem refMay_any (w : World) (K : Int) (A : Option Addr) (c : Nat) (L : List Int) (hm : L.length ≤ 1000000) (hr : Rds w A (intsV L)) :
    Calls Try.prog 62 #[.int .i64 K, .slice A L.length c] w fun e w' => e = .returned (.bool (allIn K L)) ∧ w = w' := by
  have HR := Lib.hid hr
  clear hr
  go_enter Try.func62, Try.ntmps62
  go_wp2
  go_loop [5] (fun i => ∃ k : Nat, k ≤ L.length ∧ i = .int .i64 (k : Int) ∧ Hid (∀ y ∈ L.take k, 0 ≤ y ∧ y < K)) (fun i => L.length - (intOf i).toNat)
  case atStart => exact ⟨0, by omega, rfl, Lib.hid (by simp)⟩
  case round =>
    obtain ⟨k, hk, rfl, HG⟩ := hrel
    by_cases h8 : k < L.length
    · have h8i : (k : Int) < (L.length : Int) := by omega
      obtain ⟨a, rfl, hc⟩ := HR.out.map k h8
      have HT : Hid (L.take (k + 1) = L.take k ++ [L[k]]) := List.take_succ_eq_append_getElem h8
      have HM : Hid (L[k] ∈ L) := Lib.hid (List.getElem_mem h8)
      generalize L[k] = y at *
      have HBAD : Hid (¬ (0 ≤ y ∧ y < K) → allIn K L = false) := Lib.hid fun h => by
        rw [Bool.eq_false_iff]; intro h2; exact h ((allIn_iff K L).1 h2 y HM.out)
      by_cases h1 : y < 0
      · go_wp2
        go_ret
        exact ⟨by rw [HBAD.out (by omega)]; rfl, rfl⟩
      · by_cases h2 : K ≤ y
        · go_wp2
          go_ret
          exact ⟨by rw [HBAD.out (by omega)]; rfl, rfl⟩
        · go_wp2
          go_round
          case rel => exact ⟨k + 1, by omega, by go_num, Lib.hid (fun z hz => by
              rw [HT.out, List.mem_append] at hz
              rcases hz with hz | hz
              · exact HG.out z hz
              · simp at hz; subst hz; omega)⟩
          case measure => simp [intOf]; omega
    · obtain rfl : k = L.length := by omega
      have h8i : ¬ (L.length : Int) < (L.length : Int) := by omega
      have HE : Hid (allIn K L = true) := Lib.hid ((allIn_iff K L).2 (by have := HG.out; rwa [List.take_length] at this))
      go_wp2
      go_ret
      exact ⟨by rw [HE.out]; rfl, rfl⟩
theorem refTree_any (w : World) (K : Int) (A : Option Addr) (c : Nat) (L : List Int) (hm : L.length ≤ 131072) (hr : Rds w A (intsV L)) :
    Calls Try.prog 52 #[.int .i64 K, .slice A L.length c] w fun e w' => e = .returned (.int .i64 (badT K L)) ∧ w = w' := by
  have HM := Lib.hid (refMay_any w K A c L (by omega) hr)
  have hl : ¬ (131072 : Int) < (L.length : Int) := by omega
  clear hr
  go_enter Try.func52, Try.ntmps52
  by_cases h1 : K < 1
  · have HE : Hid (badT K L = 1) := Lib.hid (badT_no (fun h => by have := h.1; omega))
    go_wp2_with (go_at_call 62; refine HM.out.mono ?_; rintro e w1 ⟨rfl, rfl⟩)
    go_ret
    exact ⟨by rw [HE.out]; rfl, rfl⟩
  · by_cases h2 : 512 < K
    · have HE : Hid (badT K L = 1) := Lib.hid (badT_no (fun h => by have := h.2.1; omega))
      go_wp2_with (go_at_call 62; refine HM.out.mono ?_; rintro e w1 ⟨rfl, rfl⟩)
      go_ret
      exact ⟨by rw [HE.out]; rfl, rfl⟩
    · cases hb : allIn K L with
      | true =>
        have HE : Hid (badT K L = 0) := Lib.hid (badT_ok ⟨by omega, by omega, (allIn_iff K L).1 hb⟩)
        rw [hb] at HM
        clear hb
        go_wp2_with (go_at_call 62; refine HM.out.mono ?_; rintro e w1 ⟨rfl, rfl⟩)
        go_ret
        exact ⟨by rw [HE.out]; rfl, rfl⟩
      | false =>
        have HE : Hid (badT K L = 1) := Lib.hid (badT_no (fun h => by have := (allIn_iff K L).2 h.2.2; rw [hb] at this; cases this))
        rw [hb] at HM
        clear hb
        go_wp2_with (go_at_call 62; refine HM.out.mono ?_; rintro e w1 ⟨rfl, rfl⟩)
        go_ret
        exact ⟨by rw [HE.out]; rfl, rfl⟩
theorem toldV_bad (w : World) (x b : Int) (hb : b ≠ 0) : Calls Try.prog 31 #[.int .i64 0, .int .i64 b, .int .i64 x, .int .i64 b] w fun e w' => e = .returned (.bool true) ∧ w = w' := by
  have h1 : (b != 0) = true := by simpa using hb
  have h2 : (b == b) = true := by simp
  clear hb
  go_enter Try.func31, Try.ntmps31
  go_wp2_with (go_at_call 40; refine (num3 _ _).mono ?_; rintro e wq ⟨rfl, rfl⟩)
  go_ret
  exact ⟨rfl, rfl⟩
theorem toldV_ok (w : World) (x : Int) : Calls Try.prog 31 #[.int .i64 x, .int .i64 0, .int .i64 x, .int .i64 0] w fun e w' => e = .returned (.bool true) ∧ w = w' := by
  have hx : (x == x) = true := by simp
  go_enter Try.func31, Try.ntmps31
  go_wp2_with (go_at_call 40; refine (num3 _ _).mono ?_; rintro e wq ⟨rfl, rfl⟩)
  go_ret
  exact ⟨rfl, rfl⟩
def MadeV (w : World) (K : Int) (L : List Int) (e : Ending) (w' : World) : Prop :=
  Below w.heap.size w w' ∧ ((¬ okTree K L ∧ e = .returned (.tuple #[.pointer none, .int .i64 1])) ∨
    (okTree K L ∧ ∃ p D lo, e = .returned (.tuple #[.pointer (some ⟨p, 0, none⟩), .int .i64 0]) ∧ K.toNat ≤ 2 ^ D ∧ D ≤ 9 ∧ TreeN w' p K.toNat D (L.map Int.toNat) lo))
set_option maxRecDepth 100000 in
theorem madeV_any (w : World) (K : Int) (A : Option Addr) (c : Nat) (B : Option Addr) (m d : Nat) (L : List Int) (hm : L.length ≤ 300) (hr : Rds w A (intsV L)) :
    Calls Try.prog 27 #[.agg #[.int .i64 K, .slice A L.length c, .slice B m d]] w (MadeV w K L) := by
  have HR := Lib.hid hr
  clear hr
  go_enter Try.func27, Try.ntmps27
  go_wp2_with fail
  obtain ⟨w0, hw0⟩ : ∃ w0, w0 = w.alloc (.cells #[.int .i64 K, .slice A L.length c, .slice B m d] 43) := ⟨_, rfl⟩
  rw [← hw0]
  have HX0 : Hid (Below w.heap.size w w0) := by rw [hw0]; exact (Below.refl _ _).alloc (Nat.le_refl _) _
  have HC00 : Hid (w0.cell? ⟨w.heap.size, 0, none⟩ = some (.int .i64 K)) := by rw [hw0]; show _ = _; rw [cell_of_row _ _ _ _ _ _ (heap_alloc_new _ _)]; rfl
  have HC0 : Hid (w0.cell? ⟨w.heap.size, 1, none⟩ = some (.slice A L.length c)) := by rw [hw0]; show _ = _; rw [cell_of_row _ _ _ _ _ _ (heap_alloc_new _ _)]; rfl
  have hlt : w.heap.size < w0.heap.size := by rw [hw0]; simp
  clear hw0
  refine (CopyNumbers_any w0 A L.length c L rfl (by omega) (HR.out.ext HX0.out (Nat.le_refl _))).mono ?_
  rintro e w1 ⟨v, rfl, hown, hb1⟩
  obtain ⟨A1, c1, rfl, p1, p2, p3, p4, p5⟩ := own_rds hown
  have HO1 := Lib.hid hown
  have HX1 : Hid (Below w.heap.size w w1) := HX0.out.trans (hb1.mono HX0.out.size)
  have HP4 := Lib.hid p4
  have HC1 := Lib.hid (cell_ext hb1 (Nat.le_refl _) HC0.out)
  have HC01 := Lib.hid (cell_ext hb1 (Nat.le_refl _) HC00.out)
  have hs1 := hb1.size
  have c01 := HC01.out
  clear p1 p2 p3 p4 p5 hown hb1 HX0 HC0 HC00
  go_wp2_with fail
  refine (NewW_any w1 A1 c1 K L (by omega) HP4.out).mono ?_
  rintro e w2 ⟨hb2, hpost⟩
  have HX2 : Hid (Below w.heap.size w w2) := HX1.out.trans (hb2.mono HX1.out.size)
  have HO2 := Lib.hid (own_ext HO1.out hb2 (Nat.le_refl _))
  have HC2 := Lib.hid (cell_ext hb2 (Nat.le_refl _) HC1.out)
  have HC02 := Lib.hid (cell_ext hb2 (Nat.le_refl _) HC01.out)
  have hs2 := hb2.size
  have HO1b : Hid (∀ k, (Value.slice A1 L.length c1).ownBlock = some k → w0.heap.size ≤ k ∧ k < w1.heap.size) := fun k hk => HO1.out.lt k hk
  have HRT : Hid (∀ w3, Below w.heap.size w w3 → Calls Try.prog 52 #[.int .i64 K, .slice A L.length c] w3 fun e w' => e = .returned (.int .i64 (badT K L)) ∧ w3 = w') := Lib.hid fun w3 h => refTree_any w3 K A c L (by omega) (HR.out.ext h (Nat.le_refl _))
  clear hb2 HO1 HC1 HC01 HP4 HX1 c01
  rcases hpost with ⟨hno, rfl⟩ | ⟨hok, p, D, rfl, hkD, hD9, ht⟩
  · have HNO := Lib.hid hno
    clear hno
    go_wp2_with fail
    refine (spoilN_any w2 w0.heap.size _ _ L rfl (by omega) (by omega) HO2.out).mono ?_
    rintro e w3 ⟨rfl, hg⟩
    have HX3 : Hid (Below w.heap.size w w3) := HX2.out.grown hg HX2.out.size (fun k hk => by have := (HO1b.out k hk).1; omega)
    have hc3 : w3.cell? ⟨w.heap.size, 1, none⟩ = some (.slice A L.length c) := (World.cell?_of_block (hg.block w.heap.size (by omega) (fun e => by have := (HO1b.out _ e.symm).1; omega))).trans HC2.out
    have hc30 : w3.cell? ⟨w.heap.size, 0, none⟩ = some (.int .i64 K) := (World.cell?_of_block (hg.block w.heap.size (by omega) (fun e => by have := (HO1b.out _ e.symm).1; omega))).trans HC02.out
    have HT := Lib.hid (HRT.out w3 HX3.out)
    rw [badT_no HNO.out] at HT
    clear hg HO2 HX2 HC2 HC02
    go_wp2_with (first | (go_at_call 52; refine HT.out.mono ?_; rintro e w4 ⟨rfl, rfl⟩) | (go_at_call 40; refine (num3 _ _).mono ?_; rintro e wq ⟨rfl, rfl⟩))
    go_ret2
    exact ⟨HX3.out, .inl ⟨HNO.out, rfl⟩⟩
  · have HOK := Lib.hid hok
    have HT := Lib.hid ht
    clear hok ht
    go_wp2_with fail
    refine (spoilN_any w2 w0.heap.size _ _ L rfl (by omega) (by omega) HO2.out).mono ?_
    rintro e w3 ⟨rfl, hg⟩
    have HX3 : Hid (Below w.heap.size w w3) := HX2.out.grown hg HX2.out.size (fun k hk => by have := (HO1b.out k hk).1; omega)
    have hc3 : w3.cell? ⟨w.heap.size, 1, none⟩ = some (.slice A L.length c) := (World.cell?_of_block (hg.block w.heap.size (by omega) (fun e => by have := (HO1b.out _ e.symm).1; omega))).trans HC2.out
    have hc30 : w3.cell? ⟨w.heap.size, 0, none⟩ = some (.int .i64 K) := (World.cell?_of_block (hg.block w.heap.size (by omega) (fun e => by have := (HO1b.out _ e.symm).1; omega))).trans HC02.out
    have HT3 := Lib.hid (HT.out.grown hg (fun k hk => (HO1b.out k hk).2))
    have HTR := Lib.hid (HRT.out w3 HX3.out)
    rw [badT_ok HOK.out] at HTR
    clear hg HO2 HX2 HC2 HC02 HT
    go_wp2_with (first | (go_at_call 52; refine HTR.out.mono ?_; rintro e w4 ⟨rfl, rfl⟩) | (go_at_call 40; refine (num3 _ _).mono ?_; rintro e wq ⟨rfl, rfl⟩))
    go_ret2
    exact ⟨HX3.out, .inr ⟨HOK.out, p, D, _, rfl, hkD, hD9, HT3.out⟩⟩
set_option maxRecDepth 100000 in
theorem wakesV (w : World) : Calls Try.prog 28 #[] w fun e w' => e = .returned (.bool true) ∧ Below w.heap.size w w' := by
  go_enter Try.func28, Try.ntmps28
  go_wp2_with fail
  have HX0 : Hid (Below w.heap.size w (w.alloc (.cells #[.int .i64 2, .int .i64 0, .int .i64 2] 3))) := (Below.refl _ _).alloc (Nat.le_refl _) _
  refine (NewW_any _ _ 3 3 [2, 0, 2] (by decide) (show Rds _ _ (intsV [2, 0, 2]) from rds_litM _ _ _)).mono ?_
  rintro e w1 ⟨hb, ⟨hno, _⟩ | ⟨hok, p, D, rfl, hkD, hD9, ht⟩⟩
  · exact absurd ⟨by decide, by decide, by decide⟩ hno
  have HT := Lib.hid (tRank_in ht hD9 (by decide) hkD (by decide) (by decide) 2 (by decide) 3 (by decide))
  rw [show Wv.eqs ((([2, 0, 2] : List Int).map Int.toNat).take 3) 2 = 2 by decide] at HT
  have HX : Hid (Below w.heap.size w w1) := HX0.out.trans (hb.mono HX0.out.size)
  clear hb HX0 hok hkD ht
  go_wp2_with (go_at_call 40; refine (num3 _ _).mono ?_; rintro e wq ⟨rfl, rfl⟩)
  refine HT.out.mono ?_
  rintro e w2 ⟨rfl, hb2⟩
  have HX2 : Hid (Below w.heap.size w w2) := HX.out.trans (hb2.mono HX.out.size)
  clear hb2
  go_wp2_with (go_at_call 40; refine (num3 _ _).mono ?_; rintro e wq ⟨rfl, rfl⟩)
  go_ret
  exact ⟨rfl, HX2.out⟩
end Go.Proofs.Ytgohpblcaafliaa
