/- The walk of the law BitsSelects. -/
import Derived.Test.YtgohpblcaafliaaRefS
set_option linter.unusedVariables false
set_option linter.unusedSimpArgs false
namespace Go.Proofs.Ytgohpblcaafliaa
open Go.RowKit Lec


/-- What a vector's Select and the reference's Select answer alike, and that 'told' says so. -/
theorem sel_alike (wr : World) (p : Nat) (A : Option Addr) (c : Nat) (L : List Bool) (hv : Vec wr p L) (hn1 : L.length ≤ 1048576) (hn6 : L.length ≤ 600) (hl : Rds wr A (boolsV L)) (x : Int) (h0 : 0 ≤ x) (hx : x ≤ 9223372036854775807) (b : Bool) :
    ∃ (n : Int) (e : Int) (ok : Bool), (∀ w', Ext wr w' → Calls Try.prog 25 #[.slice A L.length c, .bool b, .int .i64 x] w' fun r w'' => r = .returned (.tuple #[.int .i64 n, .bool ok]) ∧ w' = w'')
      ∧ (∀ w', Ext wr w' → Calls Try.prog (if b then 23 else 24) #[.pointer (some ⟨p, 0, none⟩), .int .i64 x] w' fun r w'' => r = .returned (.tuple #[.int .i64 n, .int .i64 e]) ∧ Below w'.heap.size w' w'')
      ∧ (∀ w', Calls Try.prog 19 #[.int .i64 n, .int .i64 e, .int .i64 n, .bool ok] w' fun r w'' => r = .returned (.bool true) ∧ w' = w'') := by
  by_cases hin : x < (cntB b L L.length : Int)
  · obtain ⟨k, rfl⟩ : ∃ k : Nat, x = k := ⟨x.toNat, by omega⟩
    obtain ⟨r, hr, g1, g2, g3⟩ := nth_place b L k (by omega)
    refine ⟨(r : Int), 0, true, fun w' h => refSelect_in w' A L.length c L rfl (by omega) (h.rds hl) b k r hr g1 g3, fun w' h => ?_, fun w' => told_yes w' _⟩
    have hv' := hv.ext h.below (Nat.le_refl _)
    cases b with
    | true => exact Select_in w' p L hv' hn1 r k hr g1 g2
    | false => exact Select0_in w' p L hv' hn1 r k hr g1 g2
  · refine ⟨0, 3, false, fun w' h => refSelect_out w' A L.length c L rfl (by omega) (h.rds hl) b x (by omega) hx, fun w' h => ?_, fun w' => told_no w' _⟩
    have hv' := hv.ext h.below (Nat.le_refl _)
    cases b with
    | true => exact Select_out w' p L hv' hn1 x (Or.inr (by omega))
    | false => exact Select0_out w' p L hv' hn1 x (Or.inr (by omega))


set_option maxRecDepth 100000 in
set_option maxHeartbeats 4000000 in
theorem BitsSelects_walk (W : World) (A B : Option Addr) (c d : Nat) (L : List Bool) (Is : List Int) (hl : Rds W A (boolsV L)) (hi : Rds W B (intsV Is)) (hwf : ∀ y ∈ Is, -9223372036854775808 ≤ y ∧ y ≤ 9223372036854775807) :
    Calls Try.prog 6 #[.agg #[.slice A L.length c, .slice B Is.length d]] W fun e w' => e = .returned (.bool true) ∧ Below W.heap.size W w' := by
  have HL := Lib.hid hl
  have HI := Lib.hid hi
  have HW := Lib.hid hwf
  clear hl hi hwf
  generalize hq : heavyB L Is = u
  have HQ := Lib.hid hq
  clear hq
  go_enter Try.func6, Try.ntmps6
  go_wp2_with fail
  obtain ⟨w0, hw0⟩ : ∃ w0, w0 = W.alloc (.cells #[.slice A L.length c, .slice B Is.length d] 25) := ⟨_, rfl⟩
  rw [← hw0]
  have HX0 : Hid (Below W.heap.size W w0) := by rw [hw0]; exact (Below.refl _ _).alloc (Nat.le_refl _) _
  have HC0 : Hid (w0.cell? ⟨W.heap.size, 0, none⟩ = some (.slice A L.length c)) := by rw [hw0]; show _ = _; rw [cell_of_row _ _ _ _ _ _ (heap_alloc_new _ _)]; rfl
  have HC1 : Hid (w0.cell? ⟨W.heap.size, 1, none⟩ = some (.slice B Is.length d)) := by rw [hw0]; show _ = _; rw [cell_of_row _ _ _ _ _ _ (heap_alloc_new _ _)]; rfl
  clear hw0
  refine (heavyB_any w0 A L.length c B Is.length d L Is rfl rfl).mono ?_
  rintro e w1 ⟨rfl, hb⟩
  rw [HQ.out]
  have HX1 : Hid (Below W.heap.size W w1) := HX0.out.trans (hb.mono HX0.out.size)
  have HC01 := Lib.hid (cell_ext hb (Nat.le_refl _) HC0.out)
  have HC11 := Lib.hid (cell_ext hb (Nat.le_refl _) HC1.out)
  clear hb HC0 HC1 HX0
  have k0 := HC01.out
  have k1 := HC11.out
  cases u with
  | true =>
    go_wp2
    go_ret
    exact ⟨rfl, HX1.out⟩
  | false =>
    obtain ⟨hn6, hm6⟩ := heavyB_light HQ.out
    go_wp2_with fail
    clear k0 k1
    refine (madeB_any w1 A L.length c B Is.length d L rfl hn6 (HL.out.ext HX1.out (Nat.le_refl _))).mono ?_
    rintro e w2 ⟨p, rfl, hv, hb⟩
    have HX2 : Hid (Below W.heap.size W w2) := HX1.out.trans (hb.mono HX1.out.size)
    have k0 := cell_ext hb (Nat.le_refl _) HC01.out
    have k1 := cell_ext hb (Nat.le_refl _) HC11.out
    have HK0 := Lib.hid k0
    have HK1 := Lib.hid k1
    have HV := Lib.hid hv
    replace HL := Lib.hid (HL.out.ext HX2.out (Nat.le_refl _))
    replace HI := Lib.hid (HI.out.ext HX2.out (Nat.le_refl _))
    have hn1 : L.length ≤ 1048576 := by omega
    clear hb hv HX1 HC01 HC11 HQ
    go_wp2
    go_loopw [4, 5, 6] (fun s z i wr => ∃ k : Nat, k ≤ L.length ∧ i = .int .i64 (k : Int) ∧ s = .int .i64 (cntB true L k : Int) ∧ z = .int .i64 (cntB false L k : Int) ∧ Hid (Below w2.heap.size w2 wr)) (fun _ _ i _ => L.length - (intOf i).toNat)
    case atStart => exact ⟨0, by omega, rfl, by simp [cntB], by simp [cntB], Lib.hid (Below.refl _ _)⟩
    case round =>
      obtain ⟨k, hk, rfl, rfl, rfl, HB⟩ := hrel
      have k0 := cell_ext HB.out (Nat.le_refl _) HK0.out
      have k1 := cell_ext HB.out (Nat.le_refl _) HK1.out
      by_cases hkl : k < L.length
      · have hkli : (k : Int) < (L.length : Int) := by omega
        have hkk : ((k : Int) != (k : Int)) = false := by simp
        obtain ⟨a, rfl, hc⟩ := (HL.out.ext HB.out (Nat.le_refl _)).map k hkl
        have hs1 := cntB_succ true L k hkl
        have hs2 := cntB_succ false L k hkl
        have hle1 := cntB_le true L k
        have hle2 := cntB_le false L k
        have hvr := HV.out.ext HB.out (Nat.le_refl _)
        cases hb : L[k] with
        | true =>
          rw [hb] at hs1 hs2 hc
          simp at hs1 hs2
          have HS := Lib.hid (Select_in wr p L hvr hn1 k (cntB true L k) hkl rfl (by omega))
          have H1 := Lib.hid hs1
          have H2 := Lib.hid hs2
          clear hs1 hs2 hvr hb
          generalize cntB true L k = x at *
          generalize cntB false L k = y at *
          go_wp2_with fail
          refine HS.out.mono ?_
          rintro e w3 ⟨rfl, hb3⟩
          have HB3 : Hid (Below w2.heap.size w2 w3) := Lib.hid (HB.out.trans (hb3.mono HB.out.size))
          clear hb3 k0 k1 hc HB
          go_wp2_with (go_at_call 17; refine (num1 _ _).mono ?_; rintro e wq ⟨rfl, rfl⟩)
          go_roundw
          case rel => exact ⟨k + 1, by omega, by go_num, by rw [H1.out]; go_num, by rw [H2.out], HB3⟩
          case measure => simp [intOf]; omega
        | false =>
          rw [hb] at hs1 hs2 hc
          simp at hs1 hs2
          have HS := Lib.hid (Select0_in wr p L hvr hn1 k (cntB false L k) hkl rfl (by omega))
          have H1 := Lib.hid hs1
          have H2 := Lib.hid hs2
          clear hs1 hs2 hvr hb
          generalize cntB true L k = x at *
          generalize cntB false L k = y at *
          go_wp2_with fail
          refine HS.out.mono ?_
          rintro e w3 ⟨rfl, hb3⟩
          have HB3 : Hid (Below w2.heap.size w2 w3) := Lib.hid (HB.out.trans (hb3.mono HB.out.size))
          clear hb3 k0 k1 hc HB
          go_wp2_with (go_at_call 17; refine (num1 _ _).mono ?_; rintro e wq ⟨rfl, rfl⟩)
          go_roundw
          case rel => exact ⟨k + 1, by omega, by go_num, by rw [H1.out], by rw [H2.out]; go_num, HB3⟩
          case measure => simp [intOf]; omega
      · have hkli : ¬ (k : Int) < (L.length : Int) := by omega
        go_wp2
        go_loopw [9] (fun i wr => ∃ k : Nat, k ≤ Is.length ∧ i = .int .i64 (k : Int) ∧ Hid (Below w2.heap.size w2 wr)) (fun i _ => Is.length - (intOf i).toNat)
        case atStart => exact ⟨0, by omega, rfl, HB⟩
        case round =>
          obtain ⟨k, hk, rfl, HB⟩ := hrel
          have k0 := cell_ext HB.out (Nat.le_refl _) HK0.out
          have k1 := cell_ext HB.out (Nat.le_refl _) HK1.out
          by_cases h1 : k < Is.length
          · have h1i : (k : Int) < (Is.length : Int) := by omega
            have hk0i : (0 : Int) ≤ (k : Int) := by omega
            have hIr := HI.out.ext HB.out (Nat.le_refl _)
            have hvr := HV.out.ext HB.out (Nat.le_refl _)
            obtain ⟨a, rfl, hc⟩ := hIr.map k h1
            have hxw := HW.out _ (List.getElem_mem h1)
            generalize Is[k] = x at *
            by_cases h0 : 0 ≤ x
            · obtain ⟨n1, e1, ok1, S1, V1, T1⟩ := sel_alike wr p A c L hvr hn1 hn6 (HL.out.ext HB.out (Nat.le_refl _)) x h0 hxw.2 true
              obtain ⟨n2, e2, ok2, S2, V2, T2⟩ := sel_alike wr p A c L hvr hn1 hn6 (HL.out.ext HB.out (Nat.le_refl _)) x h0 hxw.2 false
              simp only [if_true, Bool.false_eq_true, if_false] at V1 V2
              have RS1 := Lib.hid S1
              have RS2 := Lib.hid S2
              have RV1 := Lib.hid V1
              have RV2 := Lib.hid V2
              have RT1 := Lib.hid T1
              have RT2 := Lib.hid T2
              have HQ0 : Hid (∀ w', Ext wr w' → w'.cell? ⟨W.heap.size, 0, none⟩ = some (.slice A L.length c)) := Lib.hid fun w' h => h.cell k0
              have HQ1 : Hid (∀ w', Ext wr w' → w'.cell? ⟨W.heap.size, 1, none⟩ = some (.slice (some a) Is.length d)) := Lib.hid fun w' h => h.cell k1
              have HQ2 : Hid (∀ w', Ext wr w' → w'.cell? (a.add k) = some (.int .i64 x)) := Lib.hid fun w' h => h.cell hc
              clear S1 S2 V1 V2 T1 T2 hIr hvr
              go_wp2
              refine wp_region_cls (Ext wr) (by kernel_rfl) (by kernel_rfl) (Ext.drawn _) ?_
              repeat (go_big_quiet_step (first
                | (intro _; rfl)
                | (intro hC; (first | rw [HQ0.out _ hC] | rw [HQ1.out _ hC] | rw [HQ2.out _ hC]); exact ⟨rfl, rfl⟩)
                | (intro hC; go_at_call 25; with_reducible exact Calls.cls_same hC (RS1.out _ hC))))
              refine wpQuiet_nil ?_
              intro w3 hC3
              have HE3 := Lib.hid hC3
              have j0 := HQ0.out _ hC3
              have j1 := HQ1.out _ hC3
              have j2 := HQ2.out _ hC3
              clear hC3
              go_wp2_with fail
              refine (RV1.out _ HE3.out).mono ?_
              rintro e w4 ⟨rfl, hb4⟩
              have HE4 : Hid (Ext wr w4) := Lib.hid (HE3.out.trans hb4)
              have i0 := HQ0.out _ HE4.out
              have i1 := HQ1.out _ HE4.out
              have i2 := HQ2.out _ HE4.out
              clear hb4 j0 j1 j2
              go_wp2_with (go_at_call 19; refine (RT1.out _).mono ?_; rintro e wq ⟨rfl, rfl⟩)
              refine wp_region_cls (Ext wr) (by kernel_rfl) (by kernel_rfl) (HE4.out.trans (drawn_below w4 1)) ?_
              repeat (go_big_quiet_step (first
                | (intro _; rfl)
                | (intro hC; (first | rw [HQ0.out _ hC] | rw [HQ1.out _ hC] | rw [HQ2.out _ hC]); exact ⟨rfl, rfl⟩)
                | (intro hC; go_at_call 25; with_reducible exact Calls.cls_same hC (RS2.out _ hC))))
              refine wpQuiet_nil ?_
              intro w5 hC5
              have HE5 := Lib.hid hC5
              have j0 := HQ0.out _ hC5
              have j1 := HQ1.out _ hC5
              have j2 := HQ2.out _ hC5
              clear hC5 i0 i1 i2
              go_wp2_with fail
              refine (RV2.out _ HE5.out).mono ?_
              rintro e w6 ⟨rfl, hb6⟩
              have HE6 : Hid (Ext wr w6) := Lib.hid (HE5.out.trans hb6)
              clear hb6 j0 j1 j2
              go_wp2_with (go_at_call 19; refine (RT2.out _).mono ?_; rintro e wq ⟨rfl, rfl⟩)
              go_roundw
              case rel => exact ⟨k + 1, by omega, by go_num, Lib.hid (HB.out.trans (HE6.out.below.mono HB.out.size))⟩
              case measure => simp [intOf]; omega
            · have hvr' := hvr
              have RV1 : Hid (∀ w', Ext wr w' → Calls Try.prog 23 #[.pointer (some ⟨p, 0, none⟩), .int .i64 x] w' fun r w'' => r = .returned (.tuple #[.int .i64 0, .int .i64 3]) ∧ Below w'.heap.size w' w'') := Lib.hid fun w' h => Select_out w' p L (hvr'.ext h.below (Nat.le_refl _)) hn1 x (Or.inl (by omega))
              have RV2 : Hid (∀ w', Ext wr w' → Calls Try.prog 24 #[.pointer (some ⟨p, 0, none⟩), .int .i64 x] w' fun r w'' => r = .returned (.tuple #[.int .i64 0, .int .i64 3]) ∧ Below w'.heap.size w' w'') := Lib.hid fun w' h => Select0_out w' p L (hvr'.ext h.below (Nat.le_refl _)) hn1 x (Or.inl (by omega))
              clear hvr hvr' hIr
              go_wp2_with fail
              refine (RV1.out _ (Ext.refl _)).mono ?_
              rintro e w3 ⟨rfl, hb3⟩
              have HE3 : Hid (Ext wr w3) := Lib.hid hb3
              replace k1 := HE3.out.cell k1
              replace hc := HE3.out.cell hc
              clear hb3 k0
              go_wp2_with (go_at_call 19; refine (told_no _ _).mono ?_; rintro e wq ⟨rfl, rfl⟩)
              refine (RV2.out _ HE3.out).mono ?_
              rintro e w4 ⟨rfl, hb4⟩
              have HE4 : Hid (Ext wr w4) := Lib.hid (HE3.out.trans hb4)
              clear hb4 k1 hc
              go_wp2_with (go_at_call 19; refine (told_no _ _).mono ?_; rintro e wq ⟨rfl, rfl⟩)
              go_roundw
              case rel => exact ⟨k + 1, by omega, by go_num, Lib.hid (HB.out.trans (HE4.out.below.mono HB.out.size))⟩
              case measure => simp [intOf]; omega
          · have h1i : ¬ (k : Int) < (Is.length : Int) := by omega
            have HXF : Hid (Below W.heap.size W wr) := Lib.hid (HX2.out.trans (HB.out.mono HX2.out.size))
            go_wp2_with fail
            refine (wakesB _).mono ?_
            rintro e w9 ⟨rfl, hb⟩
            go_wp2
            go_ret
            exact ⟨rfl, HXF.out.trans (hb.mono HXF.out.size)⟩
end Go.Proofs.Ytgohpblcaafliaa
