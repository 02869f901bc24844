/- The walk of the law SegmentSearches. -/
import Derived.Test.YtjpcfpffbicpnaaAskH
set_option linter.unusedVariables false
set_option linter.unusedSimpArgs false
namespace Go.Proofs.Ytjpcfpffbicpnaa
open Go.RowKit Lec

theorem search_len {D : List Doc} (h : Sg.chkD D = 0) (p : ByteArray) : (Sg.searchH D p).length ≤ 20000 := by
  have h1 := (chk_none h).1
  have h2 := (chk_none h).2
  have h3 := symLen D
  unfold Sg.searchH
  split
  · rw [List.length_map]
    unfold Fm.findS
    have := List.length_filter_le (Fm.inP (Sg.symD D) (Sg.bytesN p)) (List.range (Sg.symD D).length)
    rw [List.length_range] at this
    omega
  · simp
set_option maxRecDepth 100000 in
set_option maxHeartbeats 4000000 in
theorem SegmentSearches_walk (W : World) (A B C : Option Addr) (c d e0 : Nat) (D : List Doc) (P N : List ByteArray) (hDl : D.length ≤ 4611686018427387903) (hPl : P.length ≤ 4611686018427387903) (hNl : N.length ≤ 4611686018427387903)
    (hDs : ∀ d ∈ D, d.id.size ≤ 1152921504606846976 ∧ d.text.size ≤ 1152921504606846976) (hPs : ∀ d ∈ P, d.size ≤ 1152921504606846976) (hNs : ∀ d ∈ N, d.size ≤ 1152921504606846976)
    (hd : Rds W A (docsC D)) (hp : Rds W B (P.map Value.string)) (hn : Rds W C (N.map Value.string)) :
    Calls Try.prog 4 #[.agg #[.slice A D.length c, .slice B P.length d, .slice C N.length e0]] W fun e w' => e = .returned (.bool true) ∧ Below W.heap.size W w' := by
  have HD := Lib.hid hd
  have HP := Lib.hid hp
  have HN := Lib.hid hn
  have HV : Hid (∀ w', Below W.heap.size W w' → Calls Try.prog 17 #[.agg #[.slice A D.length c, .slice B P.length d, .slice C N.length e0]] w' (HeavyG w' D P N)) := Lib.hid fun w' h => heavyG_any w' A B C c d e0 D P N hDl hPl hNl hDs hPs hNs (hd.ext h (Nat.le_refl _)) (hp.ext h (Nat.le_refl _)) (hn.ext h (Nat.le_refl _))
  clear hd hp hn hDs hPs hNs
  go_enter Try.func4, Try.ntmps4
  go_wp2_with fail
  obtain ⟨w0, hw0⟩ : ∃ w0, w0 = W.alloc (.cells #[.slice A D.length c, .slice B P.length d, .slice C N.length e0] 40) := ⟨_, rfl⟩
  rw [← hw0]
  have HX0 : Hid (Below W.heap.size W w0) := by rw [hw0]; exact (Below.refl _ _).alloc (Nat.le_refl _) _
  have HC0 : Hid (w0.cell? ⟨W.heap.size, 0, none⟩ = some (.slice A D.length c)) := by rw [hw0]; show _ = _; rw [cell_of_row _ _ _ _ _ _ (heap_alloc_new _ _)]; rfl
  have HC1 : Hid (w0.cell? ⟨W.heap.size, 1, none⟩ = some (.slice B P.length d)) := by rw [hw0]; show _ = _; rw [cell_of_row _ _ _ _ _ _ (heap_alloc_new _ _)]; rfl
  have HC2 : Hid (w0.cell? ⟨W.heap.size, 2, none⟩ = some (.slice C N.length e0)) := by rw [hw0]; show _ = _; rw [cell_of_row _ _ _ _ _ _ (heap_alloc_new _ _)]; rfl
  clear hw0
  have k0 := HC0.out
  have k1 := HC1.out
  have k2 := HC2.out
  refine (HV.out w0 HX0.out).mono ?_
  rintro e w1 ⟨u, rfl, hlight, hb⟩
  have HLI := Lib.hid hlight
  have HX1 : Hid (Below W.heap.size W w1) := HX0.out.trans (hb.mono HX0.out.size)
  have HC01 := Lib.hid (cell_ext hb (Nat.le_refl _) HC0.out)
  have HC11 := Lib.hid (cell_ext hb (Nat.le_refl _) HC1.out)
  have HC21 := Lib.hid (cell_ext hb (Nat.le_refl _) HC2.out)
  clear hb hlight HC0 HC1 HC2 HX0 HV k0 k1 k2
  have k0 := HC01.out
  have k1 := HC11.out
  have k2 := HC21.out
  cases u with
  | true =>
    go_wp2
    go_ret
    exact ⟨rfl, HX1.out⟩
  | false =>
    obtain ⟨hdw, hdl, hp9, hn9, hp30, hn30⟩ := HLI.out rfl
    have HDW := Lib.hid hdw
    have HP9 := Lib.hid hp9
    have HN9 := Lib.hid hn9
    clear HLI hp9 hn9 hDl hPl hNl
    go_wp2_with fail
    clear k0 k1 k2
    refine (madeG_any w1 A B C c P.length d N.length e0 D hdl hdw (HD.out.ext HX1.out (Nat.le_refl _))).mono ?_
    clear hdw
    rintro e w2 ⟨hb, hpost⟩
    have HX2 : Hid (Below W.heap.size W w2) := HX1.out.trans (hb.mono HX1.out.size)
    have HK0 := Lib.hid (cell_ext hb (Nat.le_refl _) HC01.out)
    have HK1 := Lib.hid (cell_ext hb (Nat.le_refl _) HC11.out)
    have HK2 := Lib.hid (cell_ext hb (Nat.le_refl _) HC21.out)
    replace HD := Lib.hid (HD.out.ext HX2.out (Nat.le_refl _))
    replace HP := Lib.hid (HP.out.ext HX2.out (Nat.le_refl _))
    replace HN := Lib.hid (HN.out.ext HX2.out (Nat.le_refl _))
    clear hb HX1 HC01 HC11 HC21
    rcases hpost with ⟨hno, rfl⟩ | ⟨hok, x, lo, rfl, hsg⟩
    · generalize Sg.chkD D = cd at *
      have hne : ((cd : Int) != 0) = true := by rw [bne_iff_ne]; omega
      clear hno
      have HXF := HX2
      go_wp2_with fail
      refine (wakesG _).mono ?_
      rintro e w9 ⟨rfl, hb⟩
      go_wp2
      go_ret
      exact ⟨rfl, HXF.out.trans (hb.mono HXF.out.size)⟩
    · have HOK := Lib.hid hok
      have HSZ : Hid (Sg.sizeD D ≤ 16384) := (chk_none hok).2
      have hd64 : D.length ≤ 64 := (chk_none hok).1
      have HSG : Hid (∀ w', Below w2.heap.size w2 w' → SegN w' x D lo) := Lib.hid fun w' h => hsg.ext h (Nat.le_refl _)
      have HDE : Hid (∀ w', Below w2.heap.size w2 w' → Rds w' A (docsC D)) := Lib.hid fun w' h => HD.out.ext h (Nat.le_refl _)
      have HPE : Hid (∀ i (h : i < P.length), ∃ a, B = some a ∧ ∀ w', Below w2.heap.size w2 w' → w'.cell? (a.add i) = some (.string P[i])) := Lib.hid fun i h => by
        obtain ⟨a, e, hc⟩ := HP.out.map i h
        exact ⟨a, e, fun w' hb => cell_ext hb (Nat.le_refl _) hc⟩
      have HNE : Hid (∀ i (h : i < N.length), ∃ a, C = some a ∧ ∀ w', Below w2.heap.size w2 w' → w'.cell? (a.add i) = some (.string N[i])) := Lib.hid fun i h => by
        obtain ⟨a, e, hc⟩ := HN.out.map i h
        exact ⟨a, e, fun w' hb => cell_ext hb (Nat.le_refl _) hc⟩
      clear hok hsg hdl HD HP HN
      go_wp2
      go_loopw [5] (fun i wr => ∃ n : Nat, n ≤ P.length ∧ i = .int .i64 (n : Int) ∧ Hid (Below w2.heap.size w2 wr)) (fun i _ => P.length - (intOf i).toNat)
      case atStart => exact ⟨0, by omega, rfl, Lib.hid (Below.refl _ _)⟩
      case round =>
        obtain ⟨i, hi, rfl, HB⟩ := hrel
        have c0 := cell_ext HB.out (Nat.le_refl _) HK0.out
        have c1 := cell_ext HB.out (Nat.le_refl _) HK1.out
        by_cases h1 : i < P.length
        · have h1i : (i : Int) < (P.length : Int) := by omega
          obtain ⟨a, rfl, hcp⟩ := HPE.out i h1
          have hp9 := HP9.out _ (List.getElem_mem h1)
          have HSE : Hid (∀ w', Below w2.heap.size w2 w' → Calls Try.prog 22 #[.pointer (some ⟨x, 0, none⟩), .string P[i]] w' (SearchPost w' D P[i])) := Lib.hid fun w' h => Search_any w' x D lo HOK.out (HSG.out w' h) P[i] (by omega)
          generalize P[i] = p at *
          have HCP := Lib.hid hcp
          have cp := hcp _ HB.out
          clear hcp
          go_wp2_with fail
          refine (refAsks_any wr p).mono ?_
          rintro e w3 ⟨rfl, rfl⟩
          unfold SearchPost at HSE
          by_cases hw : Sg.asksP p = 0
          · obtain ⟨F, hF⟩ : ∃ F, F = Sg.searchH D p := ⟨_, rfl⟩
            have HRF : Hid (∀ w', Below w2.heap.size w2 w' → Calls Try.prog 21 #[.slice A D.length c, .string p] w' fun e w'' => ∃ v, e = .returned v ∧ w''.ownsRow w'.heap.size 56 2 v F.length (hitsC F) ∧ Below w'.heap.size w' w'') := Lib.hid fun w' h => by
              have h2 := refHits_any w' A c D.length D rfl (by omega) (by have := HSZ.out; omega) (HDE.out w' h) p (by omega)
              rw [← Sg.search_eq hw, ← hF] at h2
              exact h2
            have HFL : Hid (F.length ≤ 20000) := Lib.hid (by rw [hF]; exact search_len HOK.out p)
            rw [hw, ← hF] at HSE
            rw [hw]
            clear hF hw
            go_upto_region 12 with (fail)
            have HBD : Hid (Below w2.heap.size w2 wr.drew) := Lib.hid (below_drewA HB.out)
            go_region_held3 (fun w' => w'.cell? ⟨W.heap.size, 0, none⟩ = some (.slice A D.length c) ∧ w'.cell? ⟨W.heap.size, 1, none⟩ = some (.slice (some a) P.length d) ∧ w'.cell? (a.add i) = some (.string p))
              (first | (with_reducible exact ⟨c0, c1, cp⟩) | (with_reducible exact ⟨d0, d1, dp⟩) | go_keep)
              (first | (go_at_call 21; (with_reducible refine (HRF.out _ HBD.out).mono ?_)
                        rintro e w5 ⟨v5, rfl, hown5, hb5⟩
                        have HB5 : Hid (Below w2.heap.size w2 w5) := Lib.hid (HBD.out.trans (hb5.mono HBD.out.size))
                        obtain ⟨A5, c5, rfl, _, _, _, r5, _⟩ := own_rds hown5
                        have HR5 := Lib.hid r5
                        have d0 := cell_ext HB5.out (Nat.le_refl _) HK0.out
                        have d1 := cell_ext HB5.out (Nat.le_refl _) HK1.out
                        have dp := HCP.out _ HB5.out
                        clear hown5 hb5 r5 c0 c1 cp))
            have c0 := d0
            have c1 := d1
            have cp := dp
            clear d0 d1 dp
            have HR6 : Hid (∀ w', Below w5.heap.size w5 w' → Rds w' A5 (hitsC F)) := Lib.hid fun w' h => HR5.out.ext h (Nat.le_refl _)
            go_wp2_with fail
            refine (HSE.out _ HB5.out).mono ?_
            rintro e w6 ⟨lv, rfl, hown6, hb6⟩
            have HB6 : Hid (Below w2.heap.size w2 w6) := Lib.hid (HB5.out.trans (hb6.mono HB5.out.size))
            have HO6 := Lib.hid hown6
            obtain ⟨A6, c6, rfl, _, _, _, r6, _⟩ := own_rds hown6
            have HEQ1 : Hid (Calls Try.prog 24 #[.slice A6 F.length c6, (.slice A5 F.length c5)] w6 fun e w' => e = .returned (.bool true) ∧ ∃ q, w6.drewN q = w') := Lib.hid (by
              have h := EqHits_any w6 A6 F.length c6 F rfl r6 A5 F.length c5 F rfl (HR6.out _ hb6) (by have := HFL.out; omega)
              rwa [decide_eq_true rfl] at h)
            have HSPL : Hid (∀ w', Ext w6 w' → _) := Lib.hid fun w' h => spoilH_any w' w5.heap.size (.slice A6 F.length c6) F.length (hitsC F) (hitsC_len F) (by have := HFL.out; omega) (Nat.le_trans hb6.size h.below.size) (own_ext HO6.out h.below (Nat.le_refl _))
            have HLT : Hid (∀ g, (Value.slice A6 F.length c6).ownBlock = some g → w2.heap.size ≤ g) := Lib.hid fun g h => Nat.le_trans HB5.out.size (HO6.out.lt g h).1
            clear r6 hown6 hb6 c0 c1 cp
            go_wp2_with (first
              | (go_at_call 23; refine (num8 _ _).mono ?_; rintro e wq ⟨rfl, rfl⟩)
              | (go_at_call 24; (with_reducible refine HEQ1.out.mono ?_); rintro e wq ⟨rfl, q1, rfl⟩))
            refine (HSPL.out _ (drawn_below w6 q1)).mono ?_
            rintro e w8 ⟨rfl, hg⟩
            have HB7 := HB6.out.trans ((drawn_below w6 q1).mono HB6.out.size)
            have HB8 : Hid (Below w2.heap.size w2 w8) := Lib.hid (HB7.grown hg HB7.size HLT.out)
            clear HB7 hg
            go_wp2
            go_roundw
            case rel => exact ⟨i + 1, by omega, by go_num, HB8⟩
            case measure => simp [intOf]; omega
          · have hwi : ((Sg.asksP p : Int) == 0) = false := by rw [beq_eq_false_iff_ne]; omega
            have hs := Sg.search_no (ds := D) hw
            obtain ⟨F, hF⟩ : ∃ F : List Sg.Hit, F = [] := ⟨_, rfl⟩
            rw [hs, ← hF] at HSE
            have HFL : Hid (F.length ≤ 20000) := Lib.hid (by rw [hF]; simp)
            have HF := Lib.hid hF
            clear hF hs hw
            generalize Sg.asksP p = er at *
            have hee : ((er : Int) != (er : Int)) = false := by simp
            obtain ⟨w5, hw5⟩ : ∃ w5, w5 = wr := ⟨_, rfl⟩
            have HB5 : Hid (Below w2.heap.size w2 w5) := by rw [hw5]; exact HB
            rw [← hw5] at c0 c1 cp ⊢
            clear hw5
            go_wp2_with fail
            refine (HSE.out _ HB5.out).mono ?_
            rintro e w6 ⟨lv, rfl, hown6, hb6⟩
            have HB6 : Hid (Below w2.heap.size w2 w6) := Lib.hid (HB5.out.trans (hb6.mono HB5.out.size))
            have HO6 := Lib.hid hown6
            obtain ⟨A6, c6, rfl, _, _, _, r6, _⟩ := own_rds hown6
            have HEQ1 : Hid (Calls Try.prog 24 #[.slice A6 F.length c6, (.slice none 0 0)] w6 fun e w' => e = .returned (.bool true) ∧ ∃ q, w6.drewN q = w') := Lib.hid (by
              have h := EqHits_any w6 A6 F.length c6 F rfl r6 none 0 0 F (by rw [HF.out]; rfl) (by rw [HF.out]; exact Rds.nil _ _) (by have := HFL.out; omega)
              rwa [decide_eq_true rfl] at h)
            have HSPL : Hid (∀ w', Ext w6 w' → _) := Lib.hid fun w' h => spoilH_any w' w5.heap.size (.slice A6 F.length c6) F.length (hitsC F) (hitsC_len F) (by have := HFL.out; omega) (Nat.le_trans hb6.size h.below.size) (own_ext HO6.out h.below (Nat.le_refl _))
            have HLT : Hid (∀ g, (Value.slice A6 F.length c6).ownBlock = some g → w2.heap.size ≤ g) := Lib.hid fun g h => Nat.le_trans HB5.out.size (HO6.out.lt g h).1
            clear r6 hown6 hb6 c0 c1 cp
            go_wp2_with (first
              | (go_at_call 23; refine (num8 _ _).mono ?_; rintro e wq ⟨rfl, rfl⟩)
              | (go_at_call 24; (with_reducible refine HEQ1.out.mono ?_); rintro e wq ⟨rfl, q1, rfl⟩))
            refine (HSPL.out _ (drawn_below w6 q1)).mono ?_
            rintro e w8 ⟨rfl, hg⟩
            have HB7 := HB6.out.trans ((drawn_below w6 q1).mono HB6.out.size)
            have HB8 : Hid (Below w2.heap.size w2 w8) := Lib.hid (HB7.grown hg HB7.size HLT.out)
            clear HB7 hg
            go_wp2
            go_roundw
            case rel => exact ⟨i + 1, by omega, by go_num, HB8⟩
            case measure => simp [intOf]; omega
        · have h1i : ¬ (i : Int) < (P.length : Int) := by omega
          have HXF : Hid (Below W.heap.size W wr) := HX2.out.trans (HB.out.mono HX2.out.size)
          go_wp2_with fail
          refine (wakesG _).mono ?_
          rintro e w9 ⟨rfl, hb⟩
          go_wp2
          go_ret
          exact ⟨rfl, HXF.out.trans (hb.mono HXF.out.size)⟩
end Go.Proofs.Ytjpcfpffbicpnaa
