/- The walk of the law SegmentIndex. -/
import Derived.Test.YtjpcfpffbicpnaaAskH
import Derived.Test.YtjpcfpffbicpnaaFmT
import Derived.Test.YtjpcfpffbicpnaaRefF
import Derived.Test.YtjpcfpffbicpnaaHelpEN
set_option linter.unusedVariables false
set_option linter.unusedSimpArgs false
namespace Go.Proofs.Ytjpcfpffbicpnaa
open Go.RowKit Lec

theorem zero_hits (ds : List Doc) : (Fm.findS (Sg.symD ds) [0]).length = ds.length := by
  induction ds with
  | nil => rfl
  | cons d ds ih =>
    have hq : ∀ (t r : List Nat), (∀ z ∈ t, z ≠ 0) → (Fm.findS (t ++ 0 :: r) [0]).length = (Fm.findS r [0]).length + 1 := by
      intro t r ht
      unfold Fm.findS
      rw [List.length_append, List.length_cons, show t.length + (r.length + 1) = (t.length + 1) + r.length by omega, List.range_add, List.filter_append, List.filter_map, List.length_append, List.length_map]
      have h1 : ((List.range (t.length + 1)).filter (Fm.inP (t ++ 0 :: r) [0])) = [t.length] := by
        rw [List.range_succ, List.filter_append]
        have h2 : (List.range t.length).filter (Fm.inP (t ++ 0 :: r) [0]) = [] := by
          rw [List.filter_eq_nil_iff]
          intro k hk
          have hk := List.mem_range.1 hk
          unfold Fm.inP
          rw [List.isPrefixOf_iff_prefix, List.drop_append_of_le_length (by omega), List.drop_eq_getElem_cons hk]
          intro h
          obtain ⟨h3, _⟩ := List.cons_prefix_cons.1 h
          exact ht _ (List.getElem_mem hk) h3.symm
        have h3 : Fm.inP (t ++ 0 :: r) [0] t.length = true := by
          unfold Fm.inP
          rw [List.drop_left]
          simp
        rw [h2, List.filter_cons, if_pos h3]; rfl
      have h4 : ((List.range r.length).filter ((Fm.inP (t ++ 0 :: r) [0]) ∘ (fun x => t.length + 1 + x))) = (List.range r.length).filter (Fm.inP r [0]) := List.filter_congr (fun k _ => Sg.in_rest)
      rw [h1, h4, List.length_singleton]; omega
    rw [Sg.symD_cons, hq _ _ (Sg.bytesN_ne d.text), ih]; rfl
set_option maxRecDepth 100000 in
set_option maxHeartbeats 1000000 in
theorem SegmentIndex_walk (W : World) (A B C : Option Addr) (c d e0 : Nat) (D : List Doc) (P N : List ByteArray) (hDl : D.length ≤ 4611686018427387903) (hPl : P.length ≤ 4611686018427387903) (hNl : N.length ≤ 4611686018427387903)
    (hDs : ∀ d ∈ D, d.id.size ≤ 1152921504606846976 ∧ d.text.size ≤ 1152921504606846976) (hPs : ∀ d ∈ P, d.size ≤ 1152921504606846976) (hNs : ∀ d ∈ N, d.size ≤ 1152921504606846976)
    (hd : Rds W A (docsC D)) (hp : Rds W B (P.map Value.string)) (hn : Rds W C (N.map Value.string)) :
    Calls Try.prog 6 #[.agg #[.slice A D.length c, .slice B P.length d, .slice C N.length e0]] W fun e w' => e = .returned (.bool true) ∧ Below W.heap.size W w' := by
  have HD := Lib.hid hd
  have HP := Lib.hid hp
  have HN := Lib.hid hn
  have HV : Hid (∀ w', Below W.heap.size W w' → Calls Try.prog 17 #[.agg #[.slice A D.length c, .slice B P.length d, .slice C N.length e0]] w' (HeavyG w' D P N)) := Lib.hid fun w' h => heavyG_any w' A B C c d e0 D P N hDl hPl hNl hDs hPs hNs (hd.ext h (Nat.le_refl _)) (hp.ext h (Nat.le_refl _)) (hn.ext h (Nat.le_refl _))
  clear hd hp hn hDs hPs hNs
  go_enter Try.func6, Try.ntmps6
  go_wp2_with fail
  obtain ⟨w0, hw0⟩ : ∃ w0, w0 = W.alloc (.cells #[.slice A D.length c, .slice B P.length d, .slice C N.length e0] 40) := ⟨_, rfl⟩
  rw [← hw0]
  have HX0 : Hid (Below W.heap.size W w0) := by rw [hw0]; exact (Below.refl _ _).alloc (Nat.le_refl _) _
  have HC0 : Hid (w0.cell? ⟨W.heap.size, 0, none⟩ = some (.slice A D.length c)) := by rw [hw0]; show _ = _; rw [cell_of_row _ _ _ _ _ _ (heap_alloc_new _ _)]; rfl
  have HC1 : Hid (w0.cell? ⟨W.heap.size, 1, none⟩ = some (.slice B P.length d)) := by rw [hw0]; show _ = _; rw [cell_of_row _ _ _ _ _ _ (heap_alloc_new _ _)]; rfl
  have HC2 : Hid (w0.cell? ⟨W.heap.size, 2, none⟩ = some (.slice C N.length e0)) := by rw [hw0]; show _ = _; rw [cell_of_row _ _ _ _ _ _ (heap_alloc_new _ _)]; rfl
  clear hw0
  have k0 := HC0.out
  have k1 := HC1.out
  have k2 := HC2.out
  refine (HV.out w0 HX0.out).mono ?_
  rintro e w1 ⟨u, rfl, hlight, hb⟩
  have HLI := Lib.hid hlight
  have HX1 : Hid (Below W.heap.size W w1) := HX0.out.trans (hb.mono HX0.out.size)
  have HC01 := Lib.hid (cell_ext hb (Nat.le_refl _) HC0.out)
  have HC11 := Lib.hid (cell_ext hb (Nat.le_refl _) HC1.out)
  have HC21 := Lib.hid (cell_ext hb (Nat.le_refl _) HC2.out)
  clear hb hlight HC0 HC1 HC2 HX0 HV k0 k1 k2
  have k0 := HC01.out
  have k1 := HC11.out
  have k2 := HC21.out
  cases u with
  | true =>
    go_wp2
    go_ret
    exact ⟨rfl, HX1.out⟩
  | false =>
    obtain ⟨hdw, hdl, hp9, hn9, hp30, hn30⟩ := HLI.out rfl
    have HDW := Lib.hid hdw
    have HP9 := Lib.hid hp9
    have HN9 := Lib.hid hn9
    clear HLI hp9 hn9 hDl hPl hNl
    go_wp2_with fail
    clear k0 k1 k2
    refine (madeG_any w1 A B C c P.length d N.length e0 D hdl hdw (HD.out.ext HX1.out (Nat.le_refl _))).mono ?_
    clear hdw
    rintro e w2 ⟨hb, hpost⟩
    have HX2 : Hid (Below W.heap.size W w2) := HX1.out.trans (hb.mono HX1.out.size)
    have HK0 := Lib.hid (cell_ext hb (Nat.le_refl _) HC01.out)
    have HK1 := Lib.hid (cell_ext hb (Nat.le_refl _) HC11.out)
    have HK2 := Lib.hid (cell_ext hb (Nat.le_refl _) HC21.out)
    replace HD := Lib.hid (HD.out.ext HX2.out (Nat.le_refl _))
    replace HP := Lib.hid (HP.out.ext HX2.out (Nat.le_refl _))
    replace HN := Lib.hid (HN.out.ext HX2.out (Nat.le_refl _))
    clear hb HX1 HC01 HC11 HC21
    rcases hpost with ⟨hno, rfl⟩ | ⟨hok, x, lo, rfl, hsg⟩
    · generalize Sg.chkD D = cd at *
      have hne : ((cd : Int) != 0) = true := by rw [bne_iff_ne]; omega
      clear hno
      have HXF := HX2
      go_wp2_with fail
      refine (wakesG _).mono ?_
      rintro e w9 ⟨rfl, hb⟩
      go_wp2
      go_ret
      exact ⟨rfl, HXF.out.trans (hb.mono HXF.out.size)⟩
    · have HOK := Lib.hid hok
      have HSZ : Hid (Sg.sizeD D ≤ 16384) := (chk_none hok).2
      have hd64 : D.length ≤ 64 := (chk_none hok).1
      have HSG : Hid (∀ w', Below w2.heap.size w2 w' → SegN w' x D lo) := Lib.hid fun w' h => hsg.ext h (Nat.le_refl _)
      have HDE : Hid (∀ w', Below w2.heap.size w2 w' → Rds w' A (docsC D)) := Lib.hid fun w' h => HD.out.ext h (Nat.le_refl _)
      have HPE : Hid (∀ i (h : i < P.length), ∃ a, B = some a ∧ ∀ w', Below w2.heap.size w2 w' → w'.cell? (a.add i) = some (.string P[i])) := Lib.hid fun i h => by
        obtain ⟨a, e, hc⟩ := HP.out.map i h
        exact ⟨a, e, fun w' hb => cell_ext hb (Nat.le_refl _) hc⟩
      have HNE : Hid (∀ i (h : i < N.length), ∃ a, C = some a ∧ ∀ w', Below w2.heap.size w2 w' → w'.cell? (a.add i) = some (.string N[i])) := Lib.hid fun i h => by
        obtain ⟨a, e, hc⟩ := HN.out.map i h
        exact ⟨a, e, fun w' hb => cell_ext hb (Nat.le_refl _) hc⟩
      clear hok hsg hdl HD HP HN
      have HSN := symLen D
      have hsl : (Sg.symD D).length ≤ 131072 := by have := HSZ.out; omega
      have HEX : Hid (∀ w', Below w2.heap.size w2 w' → ∃ ix AN cN bp Dd b p, w'.cell? ⟨x, 0, none⟩ = some (.pointer (some ⟨ix, 0, none⟩)) ∧ w'.cell? ⟨ix, 0, none⟩ = some (.pointer (some ⟨p, 0, none⟩))) := Lib.hid fun w' h => by
        obtain ⟨ix, AN, cN, bp, Dd, b, h1, h2, h3, _⟩ := HSG.out w' h
        obtain ⟨p, _, _, _, _, _, _, x0, _⟩ := h3.out
        exact ⟨ix, AN, cN, bp, Dd, b, p, h1.cell (o := 0) rfl, x0⟩
      obtain ⟨ix, AN, cN, bp, D9, b, hk, hfc, hf, _⟩ := HSG.out w2 (Below.refl _ _)
      obtain ⟨tp, kp, _, _, _, _, _, hx0, _, _, _, _, htr, _⟩ := hf.out
      have HFC := Lib.hid hfc
      have HFM : Hid (∀ w', Below w2.heap.size w2 w' → FmN w' ix 257 D9 (Sg.symD D) b lo) := Lib.hid fun w' h => hf.ext h (Nat.le_refl _)
      have HTR : Hid (∀ w', Below w2.heap.size w2 w' → TreeN w' tp 257 D9 (Fm.L (Sg.symD D) b) lo) := Lib.hid fun w' h => htr.ext h (Nat.le_refl _)
      have HP0 : Hid (∀ w', Below w2.heap.size w2 w' → w'.cell? ⟨x, 0, none⟩ = some (.pointer (some ⟨ix, 0, none⟩)) ∧ w'.cell? ⟨ix, 0, none⟩ = some (.pointer (some ⟨tp, 0, none⟩))) := Lib.hid fun w' h => ⟨cell_ext h (Nat.le_refl _) (hk.cell (o := 0) rfl), cell_ext h (Nat.le_refl _) hx0⟩
      clear hk hfc hf hx0 htr HEX HSN
      have k0 := HK0.out
      go_wp2_with fail
      clear k0
      refine (refSymbols_any w2 A c D.length D rfl (by omega) (by have := HSZ.out; omega) (HDE.out _ (Below.refl _ _))).mono ?_
      rintro e w3 ⟨v3, rfl, hown3, hb3⟩
      have HB3 := Lib.hid hb3
      obtain ⟨A3, c3, rfl, _, _, _, r3, _⟩ := own_rds hown3
      have HR3 := Lib.hid r3
      clear hown3 hb3 r3
      have k0 := HK0.out
      have k1 := HK1.out
      have p0 := (HP0.out _ HB3.out).1
      have HTX := Lib.hid (Text_in HFC.out (HFM.out _ HB3.out) 0 (Sg.symD D).length (by omega))
      unfold TextPost at HTX
      rw [show ((0 : Nat) : Int) = (0 : Int) from rfl, List.drop_zero, List.take_length] at HTX
      go_wp2_with fail
      refine HTX.out.mono ?_
      rintro e w4 ⟨A4, c4, rfl, r4, hb4⟩
      have HB4 : Hid (Below w2.heap.size w2 w4) := Lib.hid (HB3.out.trans (hb4.mono HB3.out.size))
      have HR4 := Lib.hid r4
      have HR34 := Lib.hid (HR3.out.ext hb4 (Nat.le_refl _))
      clear r4 hb4 p0 k0 k1 HTX
      have HEQ : Hid (Calls Try.prog 30 #[.slice A4 (Sg.symD D).length c4, .slice A3 (Sg.symD D).length c3] w4 fun e w' => e = .returned (.bool true) ∧ ∃ q, w4.drewN q = w') := Lib.hid (by
        have h := EqNumbers_any w4 A4 (Sg.symD D).length c4 ((Sg.symD D).map fun v : Nat => (v : Int)) (by simp) (by have := HR4.out; rwa [natsC_ints] at this) A3 (Sg.symD D).length c3 ((Sg.symD D).map fun v : Nat => (v : Int)) (by simp) (by have := HR34.out; rwa [natsC_ints] at this) (by omega)
        rwa [decide_eq_true rfl] at h)
      have HRQ : Hid (∀ w', Below w4.heap.size w4 w' → Rds w' A3 (natsC (Sg.symD D))) := Lib.hid fun w' h => HR34.out.ext h (Nat.le_refl _)
      have HLN : Hid (∀ w', Below w2.heap.size w2 w' → Calls Try.prog 31 #[.pointer (some ⟨tp, 0, none⟩)] w' fun e w'' => e = .returned (.int .i64 ((Sg.symD D).length : Int)) ∧ w' = w'') := Lib.hid fun w' h => by
        have := tLen_any (HTR.out w' h)
        rwa [HFC.out.llen] at this
      have HKN : Hid (∀ w', Below w2.heap.size w2 w' → Calls Try.prog 32 #[.pointer (some ⟨tp, 0, none⟩)] w' fun e w'' => e = .returned (.int .i64 257) ∧ w' = w'') := Lib.hid fun w' h => tKinds_any (k := 257) (HTR.out w' h) (by decide)
      have HLNq : Hid (∀ q, Calls Try.prog 31 #[.pointer (some ⟨tp, 0, none⟩)] (w4.drewN q) fun e w'' => e = .returned (.int .i64 ((Sg.symD D).length : Int)) ∧ w4.drewN q = w'') := Lib.hid fun q => HLN.out _ (HB4.out.trans ((drawn_below w4 q).mono HB4.out.size))
      have HKNq : Hid (∀ q, Calls Try.prog 32 #[.pointer (some ⟨tp, 0, none⟩)] (w4.drewN q) fun e w'' => e = .returned (.int .i64 257) ∧ w4.drewN q = w'') := Lib.hid fun q => HKN.out _ (HB4.out.trans ((drawn_below w4 q).mono HB4.out.size))
      have HPQ : Hid (∀ q, (w4.drewN q).cell? ⟨x, 0, none⟩ = some (.pointer (some ⟨ix, 0, none⟩)) ∧ (w4.drewN q).cell? ⟨ix, 0, none⟩ = some (.pointer (some ⟨tp, 0, none⟩)) ∧ (w4.drewN q).cell? ⟨W.heap.size, 0, none⟩ = some (.slice A D.length c)) := Lib.hid fun q =>
        have h := HB4.out.trans ((drawn_below w4 q).mono HB4.out.size)
        ⟨(HP0.out _ h).1, (HP0.out _ h).2, cell_ext h (Nat.le_refl _) HK0.out⟩
      clear HLN HKN HR3 HB3
      generalize hnn : (Sg.symD D).length = n at *
      have HNN := Lib.hid hnn
      clear hnn
      go_upto_region 8 with (fail)
      have p0 := (HP0.out _ HB4.out).1
      have p1 := (HP0.out _ HB4.out).2
      have k0 := cell_ext HB4.out (Nat.le_refl _) HK0.out
      go_upto_region 10 with (first
        | (go_at_call 23; refine (num8 _ _).mono ?_; rintro e wq ⟨rfl, rfl⟩)
        | (go_at_call 30; (with_reducible refine HEQ.out.mono ?_); rintro e wq ⟨rfl, q, rfl⟩; clear p0 p1 k0; have p0 := (HPQ.out q).1; have p1 := (HPQ.out q).2.1; have k0 := (HPQ.out q).2.2)
        | (go_at_call 31; (with_reducible refine (HLNq.out _).mono ?_); rintro e wq ⟨rfl, rfl⟩)
        | (go_at_call 32; (with_reducible refine (HKNq.out _).mono ?_); rintro e wq ⟨rfl, rfl⟩))
      have HB5 : Hid (Below w2.heap.size w2 (w4.drewN q)) := Lib.hid (HB4.out.trans ((drawn_below w4 q).mono HB4.out.size))
      have HR5 : Hid (∀ w', Below (w4.drewN q).heap.size (w4.drewN q) w' → Rds w' A3 (natsC (Sg.symD D))) := Lib.hid fun w' h => HRQ.out w' (Below.trans (drawn_below w4 q) h)
      obtain ⟨w5, hw5⟩ : ∃ w5, w5 = w4.drewN q := ⟨_, rfl⟩
      rw [← hw5] at HB5 HR5 p0 p1 k0 ⊢
      clear hw5 HPQ HKNq HLNq HRQ HEQ HR34 HR4 HTR
      by_cases hd0 : 0 < D.length
      · have hd0i : (0 : Int) < (D.length : Int) := by omega
        go_upto_region 11 with (fail)
        have HB6 : Hid (Below w5.heap.size w5 (w5.alloc (.cells #[.int .i64 0] 3))) := (Below.refl _ _).alloc (Nat.le_refl _) _
        have HFZ := Lib.hid (Find_any HFC.out (HFM.out _ (HB5.out.trans (HB6.out.mono HB5.out.size))) (some ⟨w5.heap.size, 0, none⟩) 1 [0] (by decide) (show Rds _ _ (intsV [0]) from rds_litN w5 #[.int .i64 0] 3))
        unfold FindPost at HFZ
        rw [show Fm.wrongE 257 [0] = 0 from by decide, show Fm.findE 257 (Sg.symD D) [0] = Fm.findS (Sg.symD D) [0] from rfl] at HFZ
        go_wp2_with fail
        refine HFZ.out.mono ?_
        rintro e w6 ⟨v6, rfl, hown6, hb6⟩
        obtain ⟨A6, c6, rfl, _, _, _, _, _⟩ := own_rds hown6
        have hz := zero_hits D
        have HB7 : Hid (Below w5.heap.size w5 w6) := Lib.hid (HB6.out.trans (hb6.mono HB6.out.size))
        have HB8 : Hid (Below w2.heap.size w2 w6) := Lib.hid (HB5.out.trans (HB7.out.mono HB5.out.size))
        rw [hz]
        clear hown6 hb6 hz p0 p1 k0
        have k0 := cell_ext HB8.out (Nat.le_refl _) HK0.out
        have HR8 : Hid (∀ w', Below w6.heap.size w6 w' → Rds w' A3 (natsC (Sg.symD D))) := Lib.hid fun w' h => HR5.out w' (HB7.out.trans (h.mono HB7.out.size))
        go_upto_region 14 with (go_at_call 23; refine (num8 _ _).mono ?_; rintro e wq ⟨rfl, rfl⟩)
        clear k0
        go_wp2
        go_loopw [10] (fun i wr => ∃ n : Nat, n ≤ P.length ∧ i = .int .i64 (n : Int) ∧ Hid (Below w6.heap.size w6 wr)) (fun i _ => P.length - (intOf i).toNat)
        case atStart => exact ⟨0, by omega, rfl, Lib.hid (Below.refl _ _)⟩
        case round =>
          obtain ⟨i, hi, rfl, HB⟩ := hrel
          have HBB : Hid (Below w2.heap.size w2 wr) := Lib.hid (HB8.out.trans (HB.out.mono HB8.out.size))
          have k1 := cell_ext HBB.out (Nat.le_refl _) HK1.out
          by_cases h1 : i < P.length
          · have h1i : (i : Int) < (P.length : Int) := by omega
            obtain ⟨a, rfl, hcp⟩ := HPE.out i h1
            have hp9 := HP9.out _ (List.getElem_mem h1)
            generalize P[i] = p at *
            have HCP := Lib.hid hcp
            have cp := hcp _ HBB.out
            clear hcp
            by_cases hsk : p.size = 0 ∨ 50 < p.size
            · obtain ⟨te, ht⟩ : ∃ t, p.toList.isEmpty = t := ⟨_, rfl⟩
              rcases hsk with h0 | h0
              · obtain rfl : te = true := by rw [← ht]; exact List.isEmpty_iff.2 (List.eq_nil_of_length_eq_zero (by rw [Sg.toList_len, h0]))
                go_wp2
                go_roundw
                case rel => exact ⟨i + 1, by omega, by go_num, HB⟩
                case measure => simp [intOf]; omega
              · obtain rfl : te = false := by rw [← ht, Bool.eq_false_iff]; intro e; have := Sg.toList_len p; rw [List.isEmpty_iff.1 e] at this; simp at this; omega
                have h0i : (50 : Int) < (p.size : Int) := by omega
                go_wp2
                go_roundw
                case rel => exact ⟨i + 1, by omega, by go_num, HB⟩
                case measure => simp [intOf]; omega
            · have ht : p.toList.isEmpty = false := by rw [Bool.eq_false_iff]; intro e; have := Sg.toList_len p; rw [List.isEmpty_iff.1 e] at this; simp at this; omega
              have h0i : ¬ (50 : Int) < (p.size : Int) := by omega
              have HSF := Lib.hid (search_find D p (by omega))
              have HA : Hid (Sg.asksP p = 0) := Lib.hid (by unfold Sg.asksP; rw [if_neg (by omega), if_neg (by omega)])
              have HPT := Lib.hid (refPattern_any wr p (by omega))
              have hpl := Sg.bytesN_len p
              clear hsk
              go_wp2_with fail
              refine HPT.out.mono ?_
              rintro e w7 ⟨v7, rfl, hown7, hb7⟩
              obtain ⟨A7, c7, rfl, _, _, _, r7, _⟩ := own_rds hown7
              have HBX : Hid (Below w6.heap.size w6 w7) := Lib.hid (HB.out.trans (hb7.mono HB.out.size))
              have HBY : Hid (Below w2.heap.size w2 w7) := Lib.hid (HB8.out.trans (HBX.out.mono HB8.out.size))
              have HR7 := Lib.hid r7
              clear k1 cp hown7 hb7 r7
              have p0 := (HP0.out _ HBY.out).1
              have HFD : Hid (Calls Try.prog 33 #[.pointer (some ⟨ix, 0, none⟩), .slice A7 (Sg.bytesN p).length c7] w7 (FindPost w7 257 (Sg.symD D) ((Sg.bytesN p).map Int.ofNat))) := Lib.hid (by
                have h := Find_any HFC.out (HFM.out _ HBY.out) A7 c7 ((Sg.bytesN p).map Int.ofNat) (by rw [List.length_map, Sg.bytesN_len]; omega) (by unfold intsV; rw [List.map_map]; exact HR7.out)
                rwa [List.length_map] at h)
              have HRF : Hid (∀ w', Below w7.heap.size w7 w' → _) := Lib.hid fun w' h => refFind_any w' A3 c3 (Sg.symD D) (by rw [HNN.out]; omega) (HR8.out w' (HBX.out.trans (h.mono HBX.out.size))) A7 c7 (Sg.bytesN p) (by omega) (HR7.out.ext h (Nat.le_refl _))
              have HEE : Hid (Fm.findE 257 (Sg.symD D) ((Sg.bytesN p).map Int.ofNat) = Fm.findS (Sg.symD D) (Sg.bytesN p)) := Lib.hid (by
                unfold Fm.findE; rw [if_pos (by rw [HSF.out.2]; exact HA.out), ints_map])
              unfold FindPost at HFD
              rw [HSF.out.2, HA.out, HEE.out] at HFD
              rw [HNN.out] at HRF
              have HFL : Hid ((Fm.findS (Sg.symD D) (Sg.bytesN p)).length ≤ 131072) := Lib.hid (by
                unfold Fm.findS
                have hb := List.length_filter_le (Fm.inP (Sg.symD D) (Sg.bytesN p)) (List.range (Sg.symD D).length)
                rw [List.length_range] at hb
                have := HNN.out
                omega)
              generalize Fm.findS (Sg.symD D) (Sg.bytesN p) = F at *
              clear hpl
              generalize (Sg.bytesN p).length = pn at *
              go_wp2_with fail
              refine HFD.out.mono ?_
              rintro e w8 ⟨v8, rfl, hown8, hb8⟩
              obtain ⟨A8, c8, rfl, _, _, _, r8, _⟩ := own_rds hown8
              have HBZ : Hid (Below w6.heap.size w6 w8) := Lib.hid (HBX.out.trans (hb8.mono HBX.out.size))
              have HR8b : Hid (∀ w', Below w8.heap.size w8 w' → Rds w' A8 (natsC F)) := Lib.hid fun w' h => r8.ext h (Nat.le_refl _)
              have HRF8 := Lib.hid (HRF.out w8 hb8)
              clear hown8 hb8 r8 p0
              go_wp2_with (first
                | (go_at_call 23; refine (num8 _ _).mono ?_; rintro e wq ⟨rfl, rfl⟩)
                | (go_at_call 35; (with_reducible refine HRF8.out.mono ?_); rintro e w9 ⟨v9, rfl, hown9, hb9⟩
                   obtain ⟨A9, c9, rfl, _, _, _, r9, _⟩ := own_rds hown9
                   have HB9 : Hid (Below w6.heap.size w6 w9) := Lib.hid (HBZ.out.trans (hb9.mono HBZ.out.size))
                   have HE9 : Hid (Calls Try.prog 30 #[.slice A8 F.length c8, .slice A9 F.length c9] w9 fun e w' => e = .returned (.bool true) ∧ ∃ q, w9.drewN q = w') := Lib.hid (by
                     have h := EqNumbers_any w9 A8 F.length c8 (F.map fun v : Nat => (v : Int)) (by simp) (by have := HR8b.out _ hb9; rwa [natsC_ints] at this) A9 F.length c9 (F.map fun v : Nat => (v : Int)) (by simp) (by rwa [natsC_ints] at r9) (by have := HFL.out; omega)
                     rwa [decide_eq_true rfl] at h)
                   clear hown9 hb9 r9)
                | (go_at_call 30; (with_reducible refine HE9.out.mono ?_); rintro e wq ⟨rfl, q9, rfl⟩))
              go_roundw
              case rel => exact ⟨i + 1, by omega, by go_num, Lib.hid (HB9.out.trans ((drawn_below _ _).mono HB9.out.size))⟩
              case measure => simp [intOf]; omega
          · have h1i : ¬ (i : Int) < (P.length : Int) := by omega
            have HXF : Hid (Below W.heap.size W wr) := HX2.out.trans (HBB.out.mono HX2.out.size)
            go_wp2_with fail
            refine (wakesG _).mono ?_
            rintro e w9 ⟨rfl, hb⟩
            go_wp2
            go_ret
            exact ⟨rfl, HXF.out.trans (hb.mono HXF.out.size)⟩
      · have hd0i : ¬ (0 : Int) < (D.length : Int) := by omega
        go_upto_region 14 with (fail)
        clear k0
        go_wp2
        go_loopw [10] (fun i wr => ∃ n : Nat, n ≤ P.length ∧ i = .int .i64 (n : Int) ∧ Hid (Below w5.heap.size w5 wr)) (fun i _ => P.length - (intOf i).toNat)
        case atStart => exact ⟨0, by omega, rfl, Lib.hid (Below.refl _ _)⟩
        case round =>
          obtain ⟨i, hi, rfl, HB⟩ := hrel
          have HBB : Hid (Below w2.heap.size w2 wr) := Lib.hid (HB5.out.trans (HB.out.mono HB5.out.size))
          have k1 := cell_ext HBB.out (Nat.le_refl _) HK1.out
          by_cases h1 : i < P.length
          · have h1i : (i : Int) < (P.length : Int) := by omega
            obtain ⟨a, rfl, hcp⟩ := HPE.out i h1
            have hp9 := HP9.out _ (List.getElem_mem h1)
            generalize P[i] = p at *
            have HCP := Lib.hid hcp
            have cp := hcp _ HBB.out
            clear hcp
            by_cases hsk : p.size = 0 ∨ 50 < p.size
            · obtain ⟨te, ht⟩ : ∃ t, p.toList.isEmpty = t := ⟨_, rfl⟩
              rcases hsk with h0 | h0
              · obtain rfl : te = true := by rw [← ht]; exact List.isEmpty_iff.2 (List.eq_nil_of_length_eq_zero (by rw [Sg.toList_len, h0]))
                go_wp2
                go_roundw
                case rel => exact ⟨i + 1, by omega, by go_num, HB⟩
                case measure => simp [intOf]; omega
              · obtain rfl : te = false := by rw [← ht, Bool.eq_false_iff]; intro e; have := Sg.toList_len p; rw [List.isEmpty_iff.1 e] at this; simp at this; omega
                have h0i : (50 : Int) < (p.size : Int) := by omega
                go_wp2
                go_roundw
                case rel => exact ⟨i + 1, by omega, by go_num, HB⟩
                case measure => simp [intOf]; omega
            · have ht : p.toList.isEmpty = false := by rw [Bool.eq_false_iff]; intro e; have := Sg.toList_len p; rw [List.isEmpty_iff.1 e] at this; simp at this; omega
              have h0i : ¬ (50 : Int) < (p.size : Int) := by omega
              have HSF := Lib.hid (search_find D p (by omega))
              have HA : Hid (Sg.asksP p = 0) := Lib.hid (by unfold Sg.asksP; rw [if_neg (by omega), if_neg (by omega)])
              have HPT := Lib.hid (refPattern_any wr p (by omega))
              have hpl := Sg.bytesN_len p
              clear hsk
              go_wp2_with fail
              refine HPT.out.mono ?_
              rintro e w7 ⟨v7, rfl, hown7, hb7⟩
              obtain ⟨A7, c7, rfl, _, _, _, r7, _⟩ := own_rds hown7
              have HBX : Hid (Below w5.heap.size w5 w7) := Lib.hid (HB.out.trans (hb7.mono HB.out.size))
              have HBY : Hid (Below w2.heap.size w2 w7) := Lib.hid (HB5.out.trans (HBX.out.mono HB5.out.size))
              have HR7 := Lib.hid r7
              clear k1 cp hown7 hb7 r7
              have p0 := (HP0.out _ HBY.out).1
              have HFD : Hid (Calls Try.prog 33 #[.pointer (some ⟨ix, 0, none⟩), .slice A7 (Sg.bytesN p).length c7] w7 (FindPost w7 257 (Sg.symD D) ((Sg.bytesN p).map Int.ofNat))) := Lib.hid (by
                have h := Find_any HFC.out (HFM.out _ HBY.out) A7 c7 ((Sg.bytesN p).map Int.ofNat) (by rw [List.length_map, Sg.bytesN_len]; omega) (by unfold intsV; rw [List.map_map]; exact HR7.out)
                rwa [List.length_map] at h)
              have HRF : Hid (∀ w', Below w7.heap.size w7 w' → _) := Lib.hid fun w' h => refFind_any w' A3 c3 (Sg.symD D) (by rw [HNN.out]; omega) (HR5.out w' (HBX.out.trans (h.mono HBX.out.size))) A7 c7 (Sg.bytesN p) (by omega) (HR7.out.ext h (Nat.le_refl _))
              have HEE : Hid (Fm.findE 257 (Sg.symD D) ((Sg.bytesN p).map Int.ofNat) = Fm.findS (Sg.symD D) (Sg.bytesN p)) := Lib.hid (by
                unfold Fm.findE; rw [if_pos (by rw [HSF.out.2]; exact HA.out), ints_map])
              unfold FindPost at HFD
              rw [HSF.out.2, HA.out, HEE.out] at HFD
              rw [HNN.out] at HRF
              have HFL : Hid ((Fm.findS (Sg.symD D) (Sg.bytesN p)).length ≤ 131072) := Lib.hid (by
                unfold Fm.findS
                have hb := List.length_filter_le (Fm.inP (Sg.symD D) (Sg.bytesN p)) (List.range (Sg.symD D).length)
                rw [List.length_range] at hb
                have := HNN.out
                omega)
              generalize Fm.findS (Sg.symD D) (Sg.bytesN p) = F at *
              clear hpl
              generalize (Sg.bytesN p).length = pn at *
              go_wp2_with fail
              refine HFD.out.mono ?_
              rintro e w8 ⟨v8, rfl, hown8, hb8⟩
              obtain ⟨A8, c8, rfl, _, _, _, r8, _⟩ := own_rds hown8
              have HBZ : Hid (Below w5.heap.size w5 w8) := Lib.hid (HBX.out.trans (hb8.mono HBX.out.size))
              have HR8b : Hid (∀ w', Below w8.heap.size w8 w' → Rds w' A8 (natsC F)) := Lib.hid fun w' h => r8.ext h (Nat.le_refl _)
              have HRF8 := Lib.hid (HRF.out w8 hb8)
              clear hown8 hb8 r8 p0
              go_wp2_with (first
                | (go_at_call 23; refine (num8 _ _).mono ?_; rintro e wq ⟨rfl, rfl⟩)
                | (go_at_call 35; (with_reducible refine HRF8.out.mono ?_); rintro e w9 ⟨v9, rfl, hown9, hb9⟩
                   obtain ⟨A9, c9, rfl, _, _, _, r9, _⟩ := own_rds hown9
                   have HB9 : Hid (Below w5.heap.size w5 w9) := Lib.hid (HBZ.out.trans (hb9.mono HBZ.out.size))
                   have HE9 : Hid (Calls Try.prog 30 #[.slice A8 F.length c8, .slice A9 F.length c9] w9 fun e w' => e = .returned (.bool true) ∧ ∃ q, w9.drewN q = w') := Lib.hid (by
                     have h := EqNumbers_any w9 A8 F.length c8 (F.map fun v : Nat => (v : Int)) (by simp) (by have := HR8b.out _ hb9; rwa [natsC_ints] at this) A9 F.length c9 (F.map fun v : Nat => (v : Int)) (by simp) (by rwa [natsC_ints] at r9) (by have := HFL.out; omega)
                     rwa [decide_eq_true rfl] at h)
                   clear hown9 hb9 r9)
                | (go_at_call 30; (with_reducible refine HE9.out.mono ?_); rintro e wq ⟨rfl, q9, rfl⟩))
              go_roundw
              case rel => exact ⟨i + 1, by omega, by go_num, Lib.hid (HB9.out.trans ((drawn_below _ _).mono HB9.out.size))⟩
              case measure => simp [intOf]; omega
          · have h1i : ¬ (i : Int) < (P.length : Int) := by omega
            have HXF : Hid (Below W.heap.size W wr) := HX2.out.trans (HBB.out.mono HX2.out.size)
            go_wp2_with fail
            refine (wakesG _).mono ?_
            rintro e w9 ⟨rfl, hb⟩
            go_wp2
            go_ret
            exact ⟨rfl, HXF.out.trans (hb.mono HXF.out.size)⟩
end Go.Proofs.Ytjpcfpffbicpnaa
