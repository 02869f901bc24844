/- The walk of the law SegmentDocs. -/
import Derived.Test.YtjpcfpffbicpnaaAskH
import Derived.Test.YtjpcfpffbicpnaaSegF
set_option linter.unusedVariables false
set_option linter.unusedSimpArgs false
namespace Go.Proofs.Ytjpcfpffbicpnaa
open Go.RowKit Lec

theorem doc_place {ds : List Doc} (hr : Rises (ds.map Doc.id)) (id : ByteArray) : (Sg.placeI ds id = -1 ∧ docAns ds id = (⟨#[]⟩, 3)) ∨ (∃ k, ∃ h : k < ds.length, Sg.placeI ds id = (k : Int) ∧ docAns ds id = (ds[k].text, 0)) := by
  unfold Sg.placeI
  cases hf : ds.findIdx? (fun d => d.id.toList == id.toList) with
  | none =>
    refine .inl ⟨rfl, docAns_no fun d hd e => ?_⟩
    have := (List.findIdx?_eq_none_iff.1 hf) d hd
    rw [e] at this
    simp at this
  | some k =>
    obtain ⟨hk, hp, _⟩ := List.findIdx?_eq_some_iff_getElem.1 hf
    have he : ds[k].id = id := txt_inj (by simpa using hp)
    exact .inr ⟨k, hk, rfl, by rw [← he]; exact docAns_at hr hk⟩
set_option maxRecDepth 100000 in
set_option maxHeartbeats 1000000 in
theorem SegmentDocs_walk (W : World) (A B C : Option Addr) (c d e0 : Nat) (D : List Doc) (P N : List ByteArray) (hDl : D.length ≤ 4611686018427387903) (hPl : P.length ≤ 4611686018427387903) (hNl : N.length ≤ 4611686018427387903)
    (hDs : ∀ d ∈ D, d.id.size ≤ 1152921504606846976 ∧ d.text.size ≤ 1152921504606846976) (hPs : ∀ d ∈ P, d.size ≤ 1152921504606846976) (hNs : ∀ d ∈ N, d.size ≤ 1152921504606846976)
    (hd : Rds W A (docsC D)) (hp : Rds W B (P.map Value.string)) (hn : Rds W C (N.map Value.string)) :
    Calls Try.prog 8 #[.agg #[.slice A D.length c, .slice B P.length d, .slice C N.length e0]] W fun e w' => e = .returned (.bool true) ∧ Below W.heap.size W w' := by
  have HD := Lib.hid hd
  have HP := Lib.hid hp
  have HN := Lib.hid hn
  have HV : Hid (∀ w', Below W.heap.size W w' → Calls Try.prog 17 #[.agg #[.slice A D.length c, .slice B P.length d, .slice C N.length e0]] w' (HeavyG w' D P N)) := Lib.hid fun w' h => heavyG_any w' A B C c d e0 D P N hDl hPl hNl hDs hPs hNs (hd.ext h (Nat.le_refl _)) (hp.ext h (Nat.le_refl _)) (hn.ext h (Nat.le_refl _))
  clear hd hp hn hDs hPs hNs
  go_enter Try.func8, Try.ntmps8
  go_wp2_with fail
  obtain ⟨w0, hw0⟩ : ∃ w0, w0 = W.alloc (.cells #[.slice A D.length c, .slice B P.length d, .slice C N.length e0] 40) := ⟨_, rfl⟩
  rw [← hw0]
  have HX0 : Hid (Below W.heap.size W w0) := by rw [hw0]; exact (Below.refl _ _).alloc (Nat.le_refl _) _
  have HC0 : Hid (w0.cell? ⟨W.heap.size, 0, none⟩ = some (.slice A D.length c)) := by rw [hw0]; show _ = _; rw [cell_of_row _ _ _ _ _ _ (heap_alloc_new _ _)]; rfl
  have HC1 : Hid (w0.cell? ⟨W.heap.size, 1, none⟩ = some (.slice B P.length d)) := by rw [hw0]; show _ = _; rw [cell_of_row _ _ _ _ _ _ (heap_alloc_new _ _)]; rfl
  have HC2 : Hid (w0.cell? ⟨W.heap.size, 2, none⟩ = some (.slice C N.length e0)) := by rw [hw0]; show _ = _; rw [cell_of_row _ _ _ _ _ _ (heap_alloc_new _ _)]; rfl
  clear hw0
  have k0 := HC0.out
  have k1 := HC1.out
  have k2 := HC2.out
  refine (HV.out w0 HX0.out).mono ?_
  rintro e w1 ⟨u, rfl, hlight, hb⟩
  have HLI := Lib.hid hlight
  have HX1 : Hid (Below W.heap.size W w1) := HX0.out.trans (hb.mono HX0.out.size)
  have HC01 := Lib.hid (cell_ext hb (Nat.le_refl _) HC0.out)
  have HC11 := Lib.hid (cell_ext hb (Nat.le_refl _) HC1.out)
  have HC21 := Lib.hid (cell_ext hb (Nat.le_refl _) HC2.out)
  clear hb hlight HC0 HC1 HC2 HX0 HV k0 k1 k2
  have k0 := HC01.out
  have k1 := HC11.out
  have k2 := HC21.out
  cases u with
  | true =>
    go_wp2
    go_ret
    exact ⟨rfl, HX1.out⟩
  | false =>
    obtain ⟨hdw, hdl, hp9, hn9, hp30, hn30⟩ := HLI.out rfl
    have HDW := Lib.hid hdw
    have HP9 := Lib.hid hp9
    have HN9 := Lib.hid hn9
    clear HLI hp9 hn9 hDl hPl hNl
    go_wp2_with fail
    clear k0 k1 k2
    refine (madeG_any w1 A B C c P.length d N.length e0 D hdl hdw (HD.out.ext HX1.out (Nat.le_refl _))).mono ?_
    clear hdw
    rintro e w2 ⟨hb, hpost⟩
    have HX2 : Hid (Below W.heap.size W w2) := HX1.out.trans (hb.mono HX1.out.size)
    have HK0 := Lib.hid (cell_ext hb (Nat.le_refl _) HC01.out)
    have HK1 := Lib.hid (cell_ext hb (Nat.le_refl _) HC11.out)
    have HK2 := Lib.hid (cell_ext hb (Nat.le_refl _) HC21.out)
    replace HD := Lib.hid (HD.out.ext HX2.out (Nat.le_refl _))
    replace HP := Lib.hid (HP.out.ext HX2.out (Nat.le_refl _))
    replace HN := Lib.hid (HN.out.ext HX2.out (Nat.le_refl _))
    clear hb HX1 HC01 HC11 HC21
    rcases hpost with ⟨hno, rfl⟩ | ⟨hok, x, lo, rfl, hsg⟩
    · generalize Sg.chkD D = cd at *
      have hne : ((cd : Int) != 0) = true := by rw [bne_iff_ne]; omega
      clear hno
      have HXF := HX2
      go_wp2_with fail
      refine (wakesG _).mono ?_
      rintro e w9 ⟨rfl, hb⟩
      go_wp2
      go_ret
      exact ⟨rfl, HXF.out.trans (hb.mono HXF.out.size)⟩
    · have HOK := Lib.hid hok
      have HSZ : Hid (Sg.sizeD D ≤ 16384) := (chk_none hok).2
      have hd64 : D.length ≤ 64 := (chk_none hok).1
      have HSG : Hid (∀ w', Below w2.heap.size w2 w' → SegN w' x D lo) := Lib.hid fun w' h => hsg.ext h (Nat.le_refl _)
      have HDE : Hid (∀ w', Below w2.heap.size w2 w' → Rds w' A (docsC D)) := Lib.hid fun w' h => HD.out.ext h (Nat.le_refl _)
      have HPE : Hid (∀ i (h : i < P.length), ∃ a, B = some a ∧ ∀ w', Below w2.heap.size w2 w' → w'.cell? (a.add i) = some (.string P[i])) := Lib.hid fun i h => by
        obtain ⟨a, e, hc⟩ := HP.out.map i h
        exact ⟨a, e, fun w' hb => cell_ext hb (Nat.le_refl _) hc⟩
      have HNE : Hid (∀ i (h : i < N.length), ∃ a, C = some a ∧ ∀ w', Below w2.heap.size w2 w' → w'.cell? (a.add i) = some (.string N[i])) := Lib.hid fun i h => by
        obtain ⟨a, e, hc⟩ := HN.out.map i h
        exact ⟨a, e, fun w' hb => cell_ext hb (Nat.le_refl _) hc⟩
      clear hok hsg hdl HD HP HN
      have HDO : Hid (∀ w', Below w2.heap.size w2 w' → Calls Try.prog 14 #[.pointer (some ⟨x, 0, none⟩)] w' fun e w'' => ∃ v, e = .returned v ∧ w''.ownsRow w'.heap.size 52 2 v D.length (docsC D) ∧ Below w'.heap.size w' w'') := Lib.hid fun w' h => segDocs_any w' x D lo HOK.out (HSG.out w' h)
      have HDC : Hid (∀ w', Below w2.heap.size w2 w' → ∀ id, _) := Lib.hid fun w' h id => segDoc_any w' x D lo HOK.out (HSG.out w' h) id
      have HRI := Lib.hid (form_rises HOK.out)
      go_wp2_with fail
      refine (HDO.out w2 (Below.refl _ _)).mono ?_
      rintro e w3 ⟨v3, rfl, hown3, hb3⟩
      obtain ⟨A3, c3, rfl, _, _, _, r3, _⟩ := own_rds hown3
      have HB3 := Lib.hid hb3
      have HO3 := Lib.hid hown3
      have k0 := cell_ext hb3 (Nat.le_refl _) HK0.out
      have HQ : Hid (∀ w', Ext w3 w' → w'.cell? ⟨W.heap.size, 0, none⟩ = some (.slice A D.length c)) := Lib.hid fun w' h => h.cell k0
      have HEQ : Hid (∀ w', Ext w3 w' → Calls Try.prog 37 #[.slice A3 D.length c3, .slice A D.length c] w' fun e w'' => e = .returned (.bool true) ∧ ∃ q, w'.drewN q = w'') := Lib.hid fun w' h => by
        have h2 := EqDocs_any w' A3 D.length c3 D rfl (h.rds r3) A D.length c D rfl (HDE.out w' (hb3.trans (h.below.mono hb3.size))) (by omega)
        rwa [decide_eq_true rfl] at h2
      have HSZ1 : Hid (∀ w', Ext w3 w' → Calls Try.prog 38 #[.pointer (some ⟨x, 0, none⟩)] w' fun e w'' => e = .returned (.int .i64 (Sg.sizeD D : Int)) ∧ w' = w'') := Lib.hid fun w' h => segSize_any w' x D lo (HSG.out w' (hb3.trans (h.below.mono hb3.size)))
      have HSZ2 : Hid (∀ w', Ext w3 w' → Calls Try.prog 39 #[.slice A D.length c] w' fun e w'' => e = .returned (.int .i64 (Sg.sizeD D : Int)) ∧ w' = w'') := Lib.hid fun w' h => sSize_any w' A c D.length D rfl (by omega) (by have := HSZ.out; omega) (HDE.out w' (hb3.trans (h.below.mono hb3.size)))
      clear hown3 hb3 r3 k0
      generalize Sg.sizeD D = sz at *
      have hss : ((sz : Int) != (sz : Int)) = false := by simp
      go_upto_region 7 with (fail)
      refine wp_region_cls (Ext w3) (by kernel_rfl) (by kernel_rfl) (Ext.drawn _) ?_
      repeat (go_big_quiet_step (first
        | (intro _; rfl)
        | (intro hC; rw [HQ.out _ hC]; exact ⟨rfl, rfl⟩)
        | (intro hC; go_at_call 37; with_reducible exact Calls.cls_drawn hC (HEQ.out _ hC))
        | (intro hC; go_at_call 38; with_reducible exact Calls.cls_same hC (HSZ1.out _ hC))
        | (intro hC; go_at_call 39; with_reducible exact Calls.cls_same hC (HSZ2.out _ hC))))
      refine wpQuiet_nil ?_
      intro w4 hC4
      have HX4 : Hid (Ext w3 w4) := Lib.hid hC4
      have HB4 : Hid (Below w2.heap.size w2 w4) := Lib.hid (HB3.out.trans (hC4.below.mono HB3.out.size))
      have HSP := Lib.hid (spoilD_any w4 w2.heap.size (.slice A3 D.length c3) D.length (docsC D) (docsC_len D) (by omega) HB4.out.size (own_ext HO3.out hC4.below (Nat.le_refl _)))
      have HLT : Hid (∀ g, (Value.slice A3 D.length c3).ownBlock = some g → w2.heap.size ≤ g) := Lib.hid fun g h => (HO3.out.lt g h).1
      clear hC4 HEQ HSZ1 HSZ2 HQ
      go_wp2_with fail
      refine HSP.out.mono ?_
      rintro e w5 ⟨rfl, hg⟩
      have HB5 : Hid (Below w2.heap.size w2 w5) := Lib.hid (HB4.out.grown hg HB4.out.size HLT.out)
      clear hg HSP HX4 HB4 HB3 HO3 HLT
      go_wp2
      go_loopw [6] (fun i wr => ∃ n : Nat, n ≤ D.length ∧ i = .int .i64 (n : Int) ∧ Hid (Below w2.heap.size w2 wr)) (fun i _ => D.length - (intOf i).toNat)
      case atStart => exact ⟨0, by omega, rfl, HB5⟩
      case round =>
        obtain ⟨i, hi, rfl, HB⟩ := hrel
        have k0 := cell_ext HB.out (Nat.le_refl _) HK0.out
        by_cases h1 : i < D.length
        · have h1i : (i : Int) < (D.length : Int) := by omega
          have HCE : Hid (∀ w', Below w2.heap.size w2 w' → ∃ a, A = some a ∧ w'.cell? (a.add (i * 2)) = some (.string D[i].id) ∧ w'.cell? ⟨(a.add (i * 2)).block, (a.add (i * 2)).off + 1, none⟩ = some (.string D[i].text)) := Lib.hid fun w' h => docs_cells (HDE.out w' h) i h1
          have HD1 := Lib.hid (HDC.out wr HB.out D[i].id)
          rw [docAns_at HRI.out h1] at HD1
          generalize D[i] = dd at *
          obtain ⟨a, rfl, hc0, hc1⟩ := HCE.out wr HB.out
          have htt : (dd.text.toList == dd.text.toList) = true := by simp
          go_wp2_with fail
          refine HD1.out.mono ?_
          rintro e w6 ⟨rfl, hb6⟩
          have HB6 : Hid (Below w2.heap.size w2 w6) := Lib.hid (HB.out.trans (hb6.mono HB.out.size))
          have k6 := cell_ext hb6 (Nat.le_refl _) k0
          have c6 := cell_ext hb6 (Nat.le_refl _) hc1
          clear hb6 k0 hc0 hc1
          go_wp2_with (go_at_call 23; refine (num8 _ _).mono ?_; rintro e wq ⟨rfl, rfl⟩)
          go_roundw
          case rel => exact ⟨i + 1, by omega, by go_num, HB6⟩
          case measure => simp [intOf]; omega
        · have h1i : ¬ (i : Int) < (D.length : Int) := by omega
          go_upto_region 16 with (fail)
          clear k0
          obtain ⟨w5, rfl⟩ : ∃ z, z = wr := ⟨_, rfl⟩
          have HB5 := HB
          go_wp2
          go_loopw [9] (fun i wr => ∃ n : Nat, n ≤ N.length ∧ i = .int .i64 (n : Int) ∧ Hid (Below w2.heap.size w2 wr)) (fun i _ => N.length - (intOf i).toNat)
          case atStart => exact ⟨0, by omega, rfl, HB5⟩
          case round =>
            obtain ⟨i, hi, rfl, HB⟩ := hrel
            have k2 := cell_ext HB.out (Nat.le_refl _) HK2.out
            by_cases h1 : i < N.length
            · have h1i : (i : Int) < (N.length : Int) := by omega
              obtain ⟨a, rfl, hcp⟩ := HNE.out i h1
              generalize N[i] = nm at *
              have HCP := Lib.hid hcp
              have cp := hcp _ HB.out
              have HD1 := Lib.hid (HDC.out wr HB.out nm)
              have HPL := Lib.hid (doc_place HRI.out nm)
              clear hcp
              go_wp2_with fail
              refine HD1.out.mono ?_
              rintro e w6 ⟨rfl, hb6⟩
              have HB6 : Hid (Below w2.heap.size w2 w6) := Lib.hid (HB.out.trans (hb6.mono HB.out.size))
              have HX6 : Hid (∀ w', Ext w6 w' → Below w2.heap.size w2 w') := Lib.hid fun w' h => HB6.out.trans (h.below.mono HB6.out.size)
              have HQ : Hid (∀ w', Ext w6 w' → w'.cell? ⟨W.heap.size, 0, none⟩ = some (.slice A D.length c)) := Lib.hid fun w' h => cell_ext (HX6.out w' h) (Nat.le_refl _) HK0.out
              have HQ2 : Hid (∀ w', Ext w6 w' → w'.cell? ⟨W.heap.size, 2, none⟩ = some (.slice (some a) N.length e0)) := Lib.hid fun w' h => cell_ext (HX6.out w' h) (Nat.le_refl _) HK2.out
              have HQ3 : Hid (∀ w', Ext w6 w' → w'.cell? (a.add i) = some (.string nm)) := Lib.hid fun w' h => HCP.out w' (HX6.out w' h)
              have HFI : Hid (∀ w', Ext w6 w' → Calls Try.prog 41 #[.slice A D.length c, .string nm] w' fun e w'' => e = .returned (.int .i64 (Sg.placeI D nm)) ∧ w' = w'') := Lib.hid fun w' h => refFind8_any w' A c D.length D rfl (by omega) (HDE.out w' (HX6.out w' h)) nm
              clear hb6 k2 cp HD1
              go_upto_region 20 with (fail)
              refine wp_region_cls (Ext w6) (by kernel_rfl) (by kernel_rfl) (Ext.drawn _) ?_
              repeat (go_big_quiet_step (first
                | (intro _; rfl)
                | (intro hC; rw [HQ.out _ hC]; exact ⟨rfl, rfl⟩)
                | (intro hC; rw [HQ2.out _ hC]; exact ⟨rfl, rfl⟩)
                | (intro hC; rw [HQ3.out _ hC]; exact ⟨rfl, rfl⟩)
                | (intro hC; go_at_call 41; with_reducible exact Calls.cls_same hC (HFI.out _ hC))))
              refine wpQuiet_nil ?_
              intro w7 hC7
              have HB7 : Hid (Below w2.heap.size w2 w7) := Lib.hid (HX6.out w7 hC7)
              clear hC7 HQ HQ2 HQ3 HFI HX6
              rcases HPL.out with ⟨hpl, hda⟩ | ⟨k, hk, hpl, hda⟩
              · rw [hpl, hda]
                obtain ⟨emp, hemp⟩ : ∃ emp : ByteArray, emp = ⟨#[]⟩ := ⟨_, rfl⟩
                clear hpl hda HPL
                go_wp2_with (go_at_call 23; refine (num8 _ _).mono ?_; rintro e wq ⟨rfl, rfl⟩)
                go_roundw
                case rel => exact ⟨i + 1, by omega, by go_num, HB7⟩
                case measure => simp [intOf]; omega
              · rw [hpl, hda]
                have hki : (k : Int) < (D.length : Int) := by omega
                have hk0 : ¬ (k : Int) < 0 := by omega
                have hk1 : (0 : Int) ≤ (k : Int) := by omega
                obtain ⟨a5, rfl, _, hc1⟩ := docs_cells (HDE.out w7 HB7.out) k hk
                have k0 := cell_ext HB7.out (Nat.le_refl _) HK0.out
                generalize D[k] = dd at *
                have htt : (dd.text.toList == dd.text.toList) = true := by simp
                clear hpl hda HPL
                go_wp2_with (go_at_call 23; refine (num8 _ _).mono ?_; rintro e wq ⟨rfl, rfl⟩)
                go_roundw
                case rel => exact ⟨i + 1, by omega, by go_num, HB7⟩
                case measure => simp [intOf]; omega
            · have h1i : ¬ (i : Int) < (N.length : Int) := by omega
              go_upto_region 23 with (fail)
              clear k2
              have k0 := cell_ext HB.out (Nat.le_refl _) HK0.out
              have HBD : Hid (Below w2.heap.size w2 wr.drew) := Lib.hid (below_drewA HB.out)
              go_region_held3 (fun w' => w'.cell? ⟨W.heap.size, 0, none⟩ = some (.slice A D.length c))
                (first | (with_reducible exact k0) | (with_reducible exact k8) | (with_reducible exact k9 _) | (with_reducible exact k10) | go_keep)
                (first | (go_at_call 14; (with_reducible refine (HDO.out _ HBD.out).mono ?_)
                          rintro e w8 ⟨v8, rfl, hown8, hb8⟩
                          obtain ⟨A8, c8, rfl, _, _, _, r8, _⟩ := own_rds hown8
                          have HB8 : Hid (Below w2.heap.size w2 w8) := Lib.hid (HBD.out.trans (hb8.mono HBD.out.size))
                          have k8 := cell_ext HB8.out (Nat.le_refl _) HK0.out
                          have k9 := fun q => cell_ext (HB8.out.trans ((drawn_below w8 q).mono HB8.out.size)) (Nat.le_refl _) HK0.out
                          have HE8 : Hid (Calls Try.prog 37 #[.slice A8 D.length c8, .slice A D.length c] w8 fun e w'' => e = .returned (.bool true) ∧ ∃ q, w8.drewN q = w'') := Lib.hid (by
                            have h2 := EqDocs_any w8 A8 D.length c8 D rfl r8 A D.length c D rfl (HDE.out w8 HB8.out) (by omega)
                            rwa [decide_eq_true rfl] at h2)
                          clear hown8 hb8 r8 k0)
                       | (go_at_call 37; (with_reducible refine HE8.out.mono ?_); rintro e wq ⟨rfl, q8, rfl⟩)
                       | (go_at_call 19; refine (wakesG _).mono ?_; rintro e w10 ⟨rfl, hb10⟩
                          have HB10 : Hid (Below w2.heap.size w2 w10) := Lib.hid ((HB8.out.trans ((drawn_below w8 q8).mono HB8.out.size)).trans (hb10.mono (HB8.out.trans ((drawn_below w8 q8).mono HB8.out.size)).size))
                          have k10 := cell_ext HB10.out (Nat.le_refl _) HK0.out))
              all_goals
                go_wp2
                go_ret
                exact ⟨rfl, HX2.out.trans (HB10.out.mono HX2.out.size)⟩
end Go.Proofs.Ytjpcfpffbicpnaa
