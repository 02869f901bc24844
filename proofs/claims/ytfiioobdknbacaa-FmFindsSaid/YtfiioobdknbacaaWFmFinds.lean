/- The walk of the law FmFinds. -/
import Derived.Test.YtfiioobdknbacaaAskF
set_option linter.unusedVariables false
set_option linter.unusedSimpArgs false
namespace Go.Proofs.Ytfiioobdknbacaa
open Go.RowKit Lec Lec.Fm

set_option maxRecDepth 100000 in
set_option maxHeartbeats 4000000 in
theorem FmFinds_walk (W : World) (K : Int) (A B C : Option Addr) (c d e0 : Nat) (L : List Int) (P : List (List Int)) (Is : List Int) (hL : L.length ≤ 1152921504606846976) (hPl : ∀ p ∈ P, p.length ≤ 1152921504606846976) (hPn : P.length ≤ 1152921504606846976) (hcA : L.length ≤ c) (hnA : A = none → L.length = 0 ∧ c = 0)
    (hl : Rds W A (intsV L)) (hpt : Pats W B P) (hi : Rds W C (intsV Is)) (hwf : ∀ y ∈ Is, -9223372036854775808 ≤ y ∧ y ≤ 9223372036854775807) :
    Calls Try.prog 5 #[.agg #[.int .i64 K, .slice A L.length c, .slice B P.length d, .slice C Is.length e0]] W fun e w' => e = .returned (.bool true) ∧ Below W.heap.size W w' := by
  have HL := Lib.hid hl
  have HPT := Lib.hid hpt
  have HI := Lib.hid hi
  have HW := Lib.hid hwf
  have HV : Hid (∀ w', Below W.heap.size W w' → Calls Try.prog 21 #[.agg #[.int .i64 K, .slice A L.length c, .slice B P.length d, .slice C Is.length e0]] w' (HeavyF w' L P Is)) := Lib.hid fun w' h => heavyF_any w' K A B C c d e0 L P Is hL hPl hPn (hpt.ext h (Nat.le_refl _))
  clear hl hi hwf hpt hL hPl hPn
  go_enter Try.func5, Try.ntmps5
  go_wp2_with fail
  obtain ⟨w0, hw0⟩ : ∃ w0, w0 = W.alloc (.cells #[.int .i64 K, .slice A L.length c, .slice B P.length d, .slice C Is.length e0] 48) := ⟨_, rfl⟩
  rw [← hw0]
  have HX0 : Hid (Below W.heap.size W w0) := by rw [hw0]; exact (Below.refl _ _).alloc (Nat.le_refl _) _
  have HC0 : Hid (w0.cell? ⟨W.heap.size, 0, none⟩ = some (.int .i64 K)) := by rw [hw0]; show _ = _; rw [cell_of_row _ _ _ _ _ _ (heap_alloc_new _ _)]; rfl
  have HC1 : Hid (w0.cell? ⟨W.heap.size, 1, none⟩ = some (.slice A L.length c)) := by rw [hw0]; show _ = _; rw [cell_of_row _ _ _ _ _ _ (heap_alloc_new _ _)]; rfl
  have HC2 : Hid (w0.cell? ⟨W.heap.size, 2, none⟩ = some (.slice B P.length d)) := by rw [hw0]; show _ = _; rw [cell_of_row _ _ _ _ _ _ (heap_alloc_new _ _)]; rfl
  have HC3 : Hid (w0.cell? ⟨W.heap.size, 3, none⟩ = some (.slice C Is.length e0)) := by rw [hw0]; show _ = _; rw [cell_of_row _ _ _ _ _ _ (heap_alloc_new _ _)]; rfl
  clear hw0
  refine (HV.out w0 HX0.out).mono ?_
  rintro e w1 ⟨u, rfl, hlight, hb⟩
  have HLI := Lib.hid hlight
  have HX1 : Hid (Below W.heap.size W w1) := HX0.out.trans (hb.mono HX0.out.size)
  have HC01 := Lib.hid (cell_ext hb (Nat.le_refl _) HC0.out)
  have HC11 := Lib.hid (cell_ext hb (Nat.le_refl _) HC1.out)
  have HC21 := Lib.hid (cell_ext hb (Nat.le_refl _) HC2.out)
  have HC31 := Lib.hid (cell_ext hb (Nat.le_refl _) HC3.out)
  clear hb hlight HC0 HC1 HC2 HC3 HX0 HV
  have k0 := HC01.out
  have k1 := HC11.out
  have k2 := HC21.out
  have k3 := HC31.out
  cases u with
  | true =>
    go_wp2
    go_ret
    exact ⟨rfl, HX1.out⟩
  | false =>
    obtain ⟨hl4, hp4, hpn, hin⟩ := HLI.out rfl
    clear HLI
    go_wp2_with fail
    clear k0 k1 k2 k3
    refine (madeF_any w1 K A c B P.length d C Is.length e0 L hl4 (HL.out.ext HX1.out (Nat.le_refl _))).mono ?_
    rintro e w2 ⟨hb, hpost⟩
    have HX2 : Hid (Below W.heap.size W w2) := HX1.out.trans (hb.mono HX1.out.size)
    have HK0 := Lib.hid (cell_ext hb (Nat.le_refl _) HC01.out)
    have HK1 := Lib.hid (cell_ext hb (Nat.le_refl _) HC11.out)
    have HK2 := Lib.hid (cell_ext hb (Nat.le_refl _) HC21.out)
    have HK3 := Lib.hid (cell_ext hb (Nat.le_refl _) HC31.out)
    replace HL := Lib.hid (HL.out.ext HX2.out (Nat.le_refl _))
    replace HPT := Lib.hid (HPT.out.ext HX2.out (Nat.le_refl _))
    replace HI := Lib.hid (HI.out.ext HX2.out (Nat.le_refl _))
    clear hb HX1 HC01 HC11 HC21 HC31
    rcases hpost with ⟨hno, rfl⟩ | ⟨hok, x, D, b, lo, rfl, hfc, hfm⟩
    · clear hno
      have HXF := HX2
      go_wp2_with fail
      refine (wakesF _).mono ?_
      rintro e w9 ⟨rfl, hb⟩
      go_wp2
      go_ret
      exact ⟨rfl, HXF.out.trans (hb.mono HXF.out.size)⟩
    · have hnats := okTree_nats hok
      obtain ⟨k, rfl⟩ : ∃ k : Nat, K = (k : Int) := ⟨K.toNat, by have := hok.1; omega⟩
      obtain ⟨s, hM⟩ : ∃ s, s = L.map Int.toNat := ⟨_, rfl⟩
      rw [← hM] at hfc hfm hnats
      have hml : s.length = L.length := by rw [hM, List.length_map]
      rw [Int.toNat_natCast] at hfc hfm
      have HSL := Lib.hid hml
      have HNA := Lib.hid hnats
      have HFC := Lib.hid hfc
      have HFM : Hid (∀ w', Below w2.heap.size w2 w' → FmN w' x k D s b lo) := Lib.hid fun w' h => hfm.ext h (Nat.le_refl _)
      have HLS : Hid (∀ w', Below w2.heap.size w2 w' → Rds w' A (natsC s)) := Lib.hid fun w' h => by rw [HNA.out]; exact HL.out.ext h (Nat.le_refl _)
      have HPE : Hid (∀ i (h : i < P.length), ∃ a PA pc, B = some a ∧ P[i].length ≤ pc ∧ (PA = none → P[i].length = 0 ∧ pc = 0) ∧ ∀ w', Below w2.heap.size w2 w' → w'.cell? (a.add i) = some (.slice PA P[i].length pc) ∧ Rds w' PA (intsV P[i])) := Lib.hid fun i h => by
        obtain ⟨a, PA, pc, e, h1, h2, h3, h4⟩ := HPT.out i h
        exact ⟨a, PA, pc, e, h2, h3, fun w' hb => ⟨cell_ext hb (Nat.le_refl _) h1, h4.ext hb (Nat.le_refl _)⟩⟩
      have hsl4 : s.length ≤ 400 := by rw [HSL.out]; exact hl4
      have hk5 := hfc.k5
      have hk1 : 1 ≤ k := by have := hok.1; omega
      clear hM hml hnats hfc hfm hok HPT
      rw [← HSL.out] at HK1
      go_wp2
      go_loopw [5] (fun i wr => ∃ n : Nat, n ≤ P.length ∧ i = .int .i64 (n : Int) ∧ Hid (Below w2.heap.size w2 wr)) (fun i _ => P.length - (intOf i).toNat)
      case atStart => exact ⟨0, by omega, rfl, Lib.hid (Below.refl _ _)⟩
      case round =>
        obtain ⟨i, hi, rfl, HB⟩ := hrel
        have c2 := cell_ext HB.out (Nat.le_refl _) HK2.out
        by_cases h1 : i < P.length
        · have h1i : (i : Int) < (P.length : Int) := by omega
          have hi0 : (0 : Int) ≤ (i : Int) := by omega
          obtain ⟨a, PA, pc, rfl, hpc, hpn0, hcp⟩ := HPE.out i h1
          have hp4i := hp4 _ (List.getElem_mem h1)
          generalize P[i] = p at *
          have HCP := Lib.hid hcp
          have cp := (hcp _ HB.out).1
          have hrp := (hcp _ HB.out).2
          clear hcp
          have HFL : Hid ((findE k s p).length ≤ 400) := Lib.hid (by
            unfold findE
            split
            · unfold findS
              have := List.length_filter_le (inP s (p.map Int.toNat)) (List.range s.length)
              rw [List.length_range] at this
              omega
            · simp)
          go_wp2_with fail
          refine (CopyNumbers_any wr PA p.length pc p rfl (by omega) hrp).mono ?_
          rintro e w3 ⟨v3, rfl, hown3, hb3⟩
          have HB3 : Hid (Below w2.heap.size w2 w3) := Lib.hid (HB.out.trans (hb3.mono HB.out.size))
          obtain ⟨A3, c3, rfl, _, _, _, r3, _⟩ := own_rds hown3
          have HR3 : Hid (∀ w', Ext w3 w' → Rds w' A3 (intsV p)) := Lib.hid fun w' h => r3.ext h.below (Nat.le_refl _)
          have HAS := Lib.hid (asks_any w3 k A3 c3 p (by omega) r3)
          have HFD : Hid (∀ w', Below w3.heap.size w3 w' → _) := Lib.hid fun w' h => Find_any HFC.out (HFM.out w' (HB3.out.trans (h.mono HB3.out.size))) A3 c3 p (by omega) (r3.ext h (Nat.le_refl _))
          clear hown3 hb3 r3 hrp c2 cp
          have c0 := cell_ext HB3.out (Nat.le_refl _) HK0.out
          have c1 := cell_ext HB3.out (Nat.le_refl _) HK1.out
          have c2 := cell_ext HB3.out (Nat.le_refl _) HK2.out
          have cp := (HCP.out _ HB3.out).1
          by_cases hw : wrongE k p = 0
          · have hpq : intsV p = natsC (p.map Int.toNat) := by
              rw [natsC_ints, List.map_map]
              congr 1
              refine ((List.map_congr_left (fun y hy => ?_)).trans (List.map_id _)).symm
              have hpb : patB k p = true := by
                unfold wrongE at hw
                split at hw
                · omega
                · cases h : patB k p
                  · rw [h] at hw; simp at hw
                  · rfl
              have := (patB_iff k p).1 hpb y hy
              show ((y.toNat : Nat) : Int) = y
              omega
            have HRF : Hid (Calls Try.prog 26 #[.slice A s.length c, .slice A3 p.length c3] w3 fun e w' => ∃ v, e = .returned v ∧ w'.ownsRow w3.heap.size 3 1 v (findE k s p).length (natsC (findE k s p)) ∧ Below w3.heap.size w3 w') := Lib.hid (by
              have := refFind_any w3 A c s (by omega) (HLS.out _ HB3.out) A3 c3 (p.map Int.toNat) (by rw [List.length_map]; omega) (by rw [← hpq]; exact HR3.out _ (Ext.refl _))
              rw [List.length_map] at this
              have hfe : findE k s p = findS s (p.map Int.toNat) := by unfold findE; rw [if_pos hw]
              rw [hfe]
              exact this)
            unfold FindPost at HFD
            rw [hw] at HAS HFD
            clear hw hpq
            go_wp2_with fail
            refine HAS.out.mono ?_
            rintro e w4 ⟨rfl, rfl⟩
            go_wp2_with fail
            refine HRF.out.mono ?_
            rintro e w5 ⟨v5, rfl, hown5, hb5⟩
            have HB5 : Hid (Below w3.heap.size w3 w5) := Lib.hid hb5
            obtain ⟨A5, c5, rfl, _, _, _, r5, _⟩ := own_rds hown5
            have HR5 := Lib.hid r5
            clear hown5 hb5 r5
            go_wp2_with fail
            refine (HFD.out _ HB5.out).mono ?_
            rintro e w6 ⟨lv, rfl, hown6, hb6⟩
            have HE36 : Hid (Ext w3 w6) := Lib.hid (Ext.trans HB5.out hb6)
            have HB6 : Hid (Below w2.heap.size w2 w6) := Lib.hid (HB3.out.trans (HE36.out.below.mono HB3.out.size))
            have HO6 := Lib.hid hown6
            obtain ⟨A6, c6, rfl, _, _, _, r6, _⟩ := own_rds hown6
            have HEQ1 : Hid (Calls Try.prog 29 #[.slice A6 (findE k s p).length c6, .slice A5 (findE k s p).length c5] w6 fun e w' => e = .returned (.bool true) ∧ ∃ q, w6.drewN q = w') := Lib.hid (by
              have h := EqNumbers_any w6 A6 (findE k s p).length c6 ((findE k s p).map fun v : Nat => (v : Int)) (by simp) (by have := r6; rwa [natsC_ints] at this) A5 (findE k s p).length c5 ((findE k s p).map fun v : Nat => (v : Int)) (by simp) (by have := HR5.out.ext hb6 (Nat.le_refl _); rwa [natsC_ints] at this) (by have := HFL.out; omega)
              rwa [decide_eq_true rfl] at h)
            have HSPL : Hid (∀ w', Ext w6 w' → _) := Lib.hid fun w' h => spoilN_any w' w5.heap.size (.slice A6 (findE k s p).length c6) (findE k s p).length ((findE k s p).map fun v : Nat => (v : Int)) (by simp) (by have := HFL.out; omega) (Nat.le_trans hb6.size h.below.size) (by have h3 := own_ext HO6.out h.below (Nat.le_refl _); rw [natsC_ints] at h3; exact h3)
            have HLT : Hid (∀ g, (Value.slice A6 (findE k s p).length c6).ownBlock = some g → w2.heap.size ≤ g) := Lib.hid fun g h => Nat.le_trans (Nat.le_trans HB3.out.size HB5.out.size) (HO6.out.lt g h).1
            have HEQ2 : Hid (∀ w', Ext w6 w' → Calls Try.prog 29 #[.slice A3 p.length c3, .slice PA p.length pc] w' fun e w'' => e = .returned (.bool true) ∧ ∃ q, w'.drewN q = w'') := Lib.hid fun w' h => by
              have h2 := EqNumbers_any w' A3 p.length c3 p rfl ((HR3.out _ HE36.out).ext h.below (Nat.le_refl _)) PA p.length pc p rfl (HCP.out w' (HB6.out.trans (h.below.mono HB6.out.size))).2 (by omega)
              rwa [decide_eq_true rfl] at h2
            have HEQ3 := Lib.hid (fun q => HEQ2.out (w6.drewN q) (drawn_below w6 q))
            clear r6 hown6 hb6 c0 c1 c2 cp
            have c2 := cell_ext HB6.out (Nat.le_refl _) HK2.out
            have cp := (HCP.out _ HB6.out).1
            have HQ2 : Hid (∀ w', Ext w6 w' → w'.cell? ⟨W.heap.size, 2, none⟩ = some (.slice (some a) P.length d) ∧ w'.cell? (a.add i) = some (.slice PA p.length pc)) := Lib.hid fun w' h => ⟨h.cell c2, h.cell cp⟩
            go_wp2_with (first
              | (go_at_call 28; refine (num6 _ _).mono ?_; rintro e wq ⟨rfl, rfl⟩)
              | (go_at_call 29; (with_reducible refine HEQ1.out.mono ?_); rintro e wq ⟨rfl, q1, rfl⟩; clear c2 cp; have c2 := (HQ2.out _ (drawn_below w6 q1)).1; have cp := (HQ2.out _ (drawn_below w6 q1)).2)
              | (go_at_call 29; (with_reducible refine (HEQ3.out q1).mono ?_); rintro e wq ⟨rfl, q2, rfl⟩))
            refine (HSPL.out _ (drawn_below w6 (q1 + q2))).mono ?_
            rintro e w8 ⟨rfl, hg⟩
            have HB7 := HB6.out.trans ((drawn_below w6 (q1 + q2)).mono HB6.out.size)
            have HB8 : Hid (Below w2.heap.size w2 w8) := Lib.hid (HB7.grown hg HB7.size HLT.out)
            clear HB7
            clear hg c2 cp
            go_wp2
            go_roundw
            case rel => exact ⟨i + 1, by omega, by go_num, HB8⟩
            case measure => simp [intOf]; omega
          · have hwi : ((wrongE k p : Int) == 0) = false := by rw [beq_eq_false_iff_ne]; omega
            have hfe : findE k s p = [] := by unfold findE; rw [if_neg hw]
            unfold FindPost at HFD
            rw [hfe] at HFD HFL
            clear hfe hw
            generalize wrongE k p = er at *
            have hee : ((er : Int) != (er : Int)) = false := by simp
            go_wp2_with fail
            refine HAS.out.mono ?_
            rintro e w4 ⟨rfl, rfl⟩
            go_wp2_with fail
            refine (HFD.out _ (Below.refl _ _)).mono ?_
            rintro e w6 ⟨lv, rfl, hown6, hb6⟩
            have HE36 : Hid (Ext w3 w6) := Lib.hid hb6
            have HB6 : Hid (Below w2.heap.size w2 w6) := Lib.hid (HB3.out.trans (HE36.out.below.mono HB3.out.size))
            have HO6 := Lib.hid hown6
            obtain ⟨A6, c6, rfl, _, _, _, r6, _⟩ := own_rds hown6
            obtain ⟨fe, HFE⟩ : ∃ fe : List Nat, Hid (fe = []) := ⟨_, Lib.hid rfl⟩
            have HEQ1 : Hid (Calls Try.prog 29 #[.slice A6 0 c6, .slice none 0 0] w6 fun e w' => e = .returned (.bool true) ∧ ∃ q, w6.drewN q = w') := Lib.hid (by
              have h := EqNumbers_any w6 A6 0 c6 [] rfl (Rds.nil _ _) none 0 0 [] rfl (Rds.nil _ _) (by omega)
              rwa [decide_eq_true rfl] at h)
            have HSPL : Hid (∀ w', Ext w6 w' → _) := Lib.hid fun w' h => spoilN_any w' w3.heap.size (.slice A6 0 c6) 0 [] rfl (by omega) (Nat.le_trans hb6.size h.below.size) (own_ext HO6.out h.below (Nat.le_refl _))
            have HLT : Hid (∀ g, (Value.slice A6 0 c6).ownBlock = some g → w2.heap.size ≤ g) := Lib.hid fun g h => Nat.le_trans HB3.out.size (HO6.out.lt g h).1
            have HEQ2 : Hid (∀ w', Ext w6 w' → Calls Try.prog 29 #[.slice A3 p.length c3, .slice PA p.length pc] w' fun e w'' => e = .returned (.bool true) ∧ ∃ q, w'.drewN q = w'') := Lib.hid fun w' h => by
              have h2 := EqNumbers_any w' A3 p.length c3 p rfl ((HR3.out _ HE36.out).ext h.below (Nat.le_refl _)) PA p.length pc p rfl (HCP.out w' (HB6.out.trans (h.below.mono HB6.out.size))).2 (by omega)
              rwa [decide_eq_true rfl] at h2
            have HEQ3 := Lib.hid (fun q => HEQ2.out (w6.drewN q) (drawn_below w6 q))
            clear r6 hown6 hb6 c0 c1 c2 cp
            have c2 := cell_ext HB6.out (Nat.le_refl _) HK2.out
            have cp := (HCP.out _ HB6.out).1
            have HQ2 : Hid (∀ w', Ext w6 w' → w'.cell? ⟨W.heap.size, 2, none⟩ = some (.slice (some a) P.length d) ∧ w'.cell? (a.add i) = some (.slice PA p.length pc)) := Lib.hid fun w' h => ⟨h.cell c2, h.cell cp⟩
            go_wp2_with (first
              | (go_at_call 28; refine (num6 _ _).mono ?_; rintro e wq ⟨rfl, rfl⟩)
              | (go_at_call 29; (with_reducible refine HEQ1.out.mono ?_); rintro e wq ⟨rfl, q1, rfl⟩; clear c2 cp; have c2 := (HQ2.out _ (drawn_below w6 q1)).1; have cp := (HQ2.out _ (drawn_below w6 q1)).2)
              | (go_at_call 29; (with_reducible refine (HEQ3.out q1).mono ?_); rintro e wq ⟨rfl, q2, rfl⟩))
            refine (HSPL.out _ (drawn_below w6 (q1 + q2))).mono ?_
            rintro e w8 ⟨rfl, hg⟩
            have HB7 := HB6.out.trans ((drawn_below w6 (q1 + q2)).mono HB6.out.size)
            have HB8 : Hid (Below w2.heap.size w2 w8) := Lib.hid (HB7.grown hg HB7.size HLT.out)
            clear HB7
            clear hg c2 cp
            go_wp2
            go_roundw
            case rel => exact ⟨i + 1, by omega, by go_num, HB8⟩
            case measure => simp [intOf]; omega
        · have h1i : ¬ (i : Int) < (P.length : Int) := by omega
          have HXF : Hid (Below W.heap.size W wr) := HX2.out.trans (HB.out.mono HX2.out.size)
          go_wp2_with fail
          refine (wakesF _).mono ?_
          rintro e w9 ⟨rfl, hb⟩
          go_wp2
          go_ret
          exact ⟨rfl, HXF.out.trans (hb.mono HXF.out.size)⟩
end Go.Proofs.Ytfiioobdknbacaa
