/- The walk of the law SegmentHolds. -/
import Derived.Test.YtjpcfpffbicpnaaAskH
import Derived.Test.YtjpcfpffbicpnaaSegQ
import Derived.Test.YtjpcfpffbicpnaaConv
set_option linter.unusedVariables false
set_option linter.unusedSimpArgs false
namespace Go.Proofs.Ytjpcfpffbicpnaa
open Go.RowKit Lec

theorem text_small {D : List Doc} (h : Sg.chkD D = 0) {j : Nat} (hj : j < D.length) : D[j].text.size ≤ 16384 := by
  have h1 := Sg.sizeD_take hj
  have h2 := Sg.sizeD_mono D (j + 1)
  have h3 := (chk_none h).2
  omega
theorem hits_len {D : List Doc} (h : Sg.chkD D = 0) {p : ByteArray} (hp : Sg.asksP p = 0) : (Sg.hitsD D p).length ≤ 20000 := by
  have h1 := (chk_none h).1
  have h2 := (chk_none h).2
  have h3 := symLen D
  rw [← Sg.search_eq hp]
  unfold Sg.searchH
  rw [if_pos hp, List.length_map]
  unfold Fm.findS
  have := List.length_filter_le (Fm.inP (Sg.symD D) (Sg.bytesN p)) (List.range (Sg.symD D).length)
  rw [List.length_range] at this
  omega
theorem hitsD_le (ds : List Doc) (p : ByteArray) : (Sg.hitsD ds p).length ≤ Sg.sizeD ds + ds.length := by
  induction ds with
  | nil => exact Nat.le_refl _
  | cons d ds ih =>
    rw [show Sg.hitsD (d :: ds) p = Sg.textH d p (d.text.size + 1 - p.size) ++ Sg.hitsD ds p from rfl, List.length_append]
    have := Sg.textH_len d p (d.text.size + 1 - p.size)
    simp only [Sg.sizeD, List.map_cons, List.sum_cons, List.length_cons] at ih ⊢
    omega
theorem num8q (w : World) (e : Int) : ∀ m, Calls Try.prog 23 #[.int .i64 e] (w.drewN m) fun r w' => r = .returned (.int .i64 e) ∧ ∃ m, w' = w.drewN m := fun m =>
  Calls.quiet_of_same ((num8 (w.drewN m) e).mono (fun r w' h => ⟨h.1, h.2.symm⟩))
set_option maxRecDepth 100000 in
set_option maxHeartbeats 1000000 in
theorem SegmentHolds_walk (W : World) (A B C : Option Addr) (c d e0 : Nat) (D : List Doc) (P N : List ByteArray) (hDl : D.length ≤ 4611686018427387903) (hPl : P.length ≤ 4611686018427387903) (hNl : N.length ≤ 4611686018427387903)
    (hDs : ∀ d ∈ D, d.id.size ≤ 1152921504606846976 ∧ d.text.size ≤ 1152921504606846976) (hPs : ∀ d ∈ P, d.size ≤ 1152921504606846976) (hNs : ∀ d ∈ N, d.size ≤ 1152921504606846976)
    (hd : Rds W A (docsC D)) (hp : Rds W B (P.map Value.string)) (hn : Rds W C (N.map Value.string)) :
    Calls Try.prog 7 #[.agg #[.slice A D.length c, .slice B P.length d, .slice C N.length e0]] W fun e w' => e = .returned (.bool true) ∧ Below W.heap.size W w' := by
  have HD := Lib.hid hd
  have HP := Lib.hid hp
  have HN := Lib.hid hn
  have HV : Hid (∀ w', Below W.heap.size W w' → Calls Try.prog 17 #[.agg #[.slice A D.length c, .slice B P.length d, .slice C N.length e0]] w' (HeavyG w' D P N)) := Lib.hid fun w' h => heavyG_any w' A B C c d e0 D P N hDl hPl hNl hDs hPs hNs (hd.ext h (Nat.le_refl _)) (hp.ext h (Nat.le_refl _)) (hn.ext h (Nat.le_refl _))
  clear hd hp hn hDs hPs hNs
  go_enter Try.func7, Try.ntmps7
  go_wp2_with fail
  obtain ⟨w0, hw0⟩ : ∃ w0, w0 = W.alloc (.cells #[.slice A D.length c, .slice B P.length d, .slice C N.length e0] 40) := ⟨_, rfl⟩
  rw [← hw0]
  have HX0 : Hid (Below W.heap.size W w0) := by rw [hw0]; exact (Below.refl _ _).alloc (Nat.le_refl _) _
  have HC0 : Hid (w0.cell? ⟨W.heap.size, 0, none⟩ = some (.slice A D.length c)) := by rw [hw0]; show _ = _; rw [cell_of_row _ _ _ _ _ _ (heap_alloc_new _ _)]; rfl
  have HC1 : Hid (w0.cell? ⟨W.heap.size, 1, none⟩ = some (.slice B P.length d)) := by rw [hw0]; show _ = _; rw [cell_of_row _ _ _ _ _ _ (heap_alloc_new _ _)]; rfl
  have HC2 : Hid (w0.cell? ⟨W.heap.size, 2, none⟩ = some (.slice C N.length e0)) := by rw [hw0]; show _ = _; rw [cell_of_row _ _ _ _ _ _ (heap_alloc_new _ _)]; rfl
  clear hw0
  have k0 := HC0.out
  have k1 := HC1.out
  have k2 := HC2.out
  refine (HV.out w0 HX0.out).mono ?_
  rintro e w1 ⟨u, rfl, hlight, hb⟩
  have HLI := Lib.hid hlight
  have HX1 : Hid (Below W.heap.size W w1) := HX0.out.trans (hb.mono HX0.out.size)
  have HC01 := Lib.hid (cell_ext hb (Nat.le_refl _) HC0.out)
  have HC11 := Lib.hid (cell_ext hb (Nat.le_refl _) HC1.out)
  have HC21 := Lib.hid (cell_ext hb (Nat.le_refl _) HC2.out)
  clear hb hlight HC0 HC1 HC2 HX0 HV k0 k1 k2
  have k0 := HC01.out
  have k1 := HC11.out
  have k2 := HC21.out
  cases u with
  | true =>
    go_wp2
    go_ret
    exact ⟨rfl, HX1.out⟩
  | false =>
    obtain ⟨hdw, hdl, hp9, hn9, hp30, hn30⟩ := HLI.out rfl
    have HDW := Lib.hid hdw
    have HP9 := Lib.hid hp9
    have HN9 := Lib.hid hn9
    clear HLI hp9 hn9 hDl hPl hNl
    go_wp2_with fail
    clear k1 k2 k0
    have hszw := size_weigh D
    refine (NewS_any w1 A c D.length D rfl (by omega) (by omega) (HD.out.ext HX1.out (Nat.le_refl _))).mono ?_
    clear hdw hszw
    rintro e w2 ⟨hb, hpost⟩
    have HX2 : Hid (Below W.heap.size W w2) := HX1.out.trans (hb.mono HX1.out.size)
    have HK0 := Lib.hid (cell_ext hb (Nat.le_refl _) HC01.out)
    have HK1 := Lib.hid (cell_ext hb (Nat.le_refl _) HC11.out)
    have HK2 := Lib.hid (cell_ext hb (Nat.le_refl _) HC21.out)
    replace HD := Lib.hid (HD.out.ext HX2.out (Nat.le_refl _))
    replace HP := Lib.hid (HP.out.ext HX2.out (Nat.le_refl _))
    replace HN := Lib.hid (HN.out.ext HX2.out (Nat.le_refl _))
    clear hb HX1 HC01 HC11 HC21
    obtain ⟨lo, hlo⟩ : ∃ lo, lo = w1.heap.size := ⟨_, rfl⟩
    rw [← hlo] at hpost
    clear hlo
    rcases hpost with ⟨hno, rfl⟩ | ⟨hok, x, rfl, hsg⟩
    · generalize Sg.chkD D = cd at *
      have hne : ((cd : Int) != 0) = true := by rw [bne_iff_ne]; omega
      clear hno
      have HXF := HX2
      go_wp2_with (first | (go_at_call 23; refine (num8 _ _).mono ?_; rintro e wq ⟨rfl, rfl⟩) | (go_at_call 19; refine (wakesG _).mono ?_; rintro e w9 ⟨rfl, hb⟩))
      go_ret
      exact ⟨rfl, HXF.out.trans (hb.mono HXF.out.size)⟩
    · have HOK := Lib.hid hok
      have HSZ : Hid (Sg.sizeD D ≤ 16384) := (chk_none hok).2
      have hd64 : D.length ≤ 64 := (chk_none hok).1
      have HSG : Hid (∀ w', Below w2.heap.size w2 w' → SegN w' x D lo) := Lib.hid fun w' h => hsg.ext h (Nat.le_refl _)
      have HDE : Hid (∀ w', Below w2.heap.size w2 w' → Rds w' A (docsC D)) := Lib.hid fun w' h => HD.out.ext h (Nat.le_refl _)
      have HPE : Hid (∀ i (h : i < P.length), ∃ a, B = some a ∧ ∀ w', Below w2.heap.size w2 w' → w'.cell? (a.add i) = some (.string P[i])) := Lib.hid fun i h => by
        obtain ⟨a, e, hc⟩ := HP.out.map i h
        exact ⟨a, e, fun w' hb => cell_ext hb (Nat.le_refl _) hc⟩
      have HNE : Hid (∀ i (h : i < N.length), ∃ a, C = some a ∧ ∀ w', Below w2.heap.size w2 w' → w'.cell? (a.add i) = some (.string N[i])) := Lib.hid fun i h => by
        obtain ⟨a, e, hc⟩ := HN.out.map i h
        exact ⟨a, e, fun w' hb => cell_ext hb (Nat.le_refl _) hc⟩
      clear hok hsg hdl HD HP HN
      have HSE : Hid (∀ w', Below w2.heap.size w2 w' → ∀ p : ByteArray, p.size ≤ 1000000 → Calls Try.prog 22 #[.pointer (some ⟨x, 0, none⟩), .string p] w' (SearchPost w' D p)) := Lib.hid fun w' h p hp => Search_any w' x D lo HOK.out (HSG.out w' h) p hp
      have HDC : Hid (∀ w', Below w2.heap.size w2 w' → ∀ id, _) := Lib.hid fun w' h id => segDoc_any w' x D lo HOK.out (HSG.out w' h) id
      have HRI := Lib.hid (form_rises HOK.out)
      go_wp2_with (go_at_call 23; refine (num8 _ _).mono ?_; rintro e wq ⟨rfl, rfl⟩)
      go_loopw [5] (fun i wr => ∃ n : Nat, n ≤ P.length ∧ i = .int .i64 (n : Int) ∧ Hid (Below w2.heap.size w2 wr)) (fun i _ => P.length - (intOf i).toNat)
      case atStart => exact ⟨0, by omega, rfl, Lib.hid (Below.refl _ _)⟩
      case round =>
        obtain ⟨i, hi, rfl, HB⟩ := hrel
        have k1 := cell_ext HB.out (Nat.le_refl _) HK1.out
        by_cases h1 : i < P.length
        · have h1i : (i : Int) < (P.length : Int) := by omega
          obtain ⟨a, rfl, hcp⟩ := HPE.out i h1
          have hp9 := HP9.out _ (List.getElem_mem h1)
          generalize P[i] = p at *
          have HCP := Lib.hid hcp
          have cp := hcp _ HB.out
          have HS := Lib.hid (HSE.out wr HB.out p (by omega))
          unfold SearchPost at HS
          clear hcp
          by_cases hw : Sg.asksP p = 0
          · have HW := Lib.hid hw
            rw [hw, Sg.search_eq hw] at HS
            clear hw
            obtain ⟨F, hF⟩ : ∃ F, F = Sg.hitsD D p := ⟨_, rfl⟩
            rw [← hF] at HS
            have HF := Lib.hid hF
            have hfl : F.length ≤ 20000 := by rw [hF]; exact hits_len HOK.out HW.out
            clear hF
            go_wp2_with fail
            refine HS.out.mono ?_
            rintro e w6 ⟨lv, rfl, hown6, hb6⟩
            have HB6 : Hid (Below w2.heap.size w2 w6) := Lib.hid (HB.out.trans (hb6.mono HB.out.size))
            obtain ⟨A6, c6, rfl, _, _, _, r6, _⟩ := own_rds hown6
            have HR6 := Lib.hid r6
            clear hown6 hb6 r6 k1 cp
            go_wp2_with (go_at_call 23; refine (num8 _ _).mono ?_; rintro e wq ⟨rfl, rfl⟩)
            go_loopw [8] (fun i wr => ∃ n : Nat, n ≤ F.length ∧ i = .int .i64 (n : Int) ∧ Hid (Below w6.heap.size w6 wr)) (fun i _ => F.length - (intOf i).toNat)
            case atStart => exact ⟨0, by omega, rfl, Lib.hid (Below.refl _ _)⟩
            case round =>
              obtain ⟨k, hk, rfl, HBX⟩ := hrel
              by_cases h2 : k < F.length
              · have h2i : (k : Int) < (F.length : Int) := by omega
                obtain ⟨af, rfl, g0, g1⟩ := hits_cells (HR6.out.ext HBX.out (Nat.le_refl _)) k h2
                have HBB : Hid (Below w2.heap.size w2 wr) := Lib.hid (HB6.out.trans (HBX.out.mono HB6.out.size))
                obtain ⟨j, hj, hh1, hh2, hh3⟩ := Sg.hit_in (D := D) (p := p) (h := F[k]) (by rw [← HF.out]; exact List.getElem_mem h2)
                have HD1 := Lib.hid (HDC.out wr HBB.out F[k].1)
                rw [hh1, docAns_at HRI.out hj] at HD1
                have HX := Lib.hid (Sg.here_ext D[j].text p F[k].2)
                rw [hh3] at HX
                have HPV : Hid (0 < k → Sg.hitLt (F[k - 1]'(by omega)) F[k]) := Lib.hid fun hk0 => (List.pairwise_iff_getElem.1 (by rw [HF.out]; exact Sg.hits_rise p HRI.out)) (k - 1) k (by omega) h2 (by omega)
                have HGP : Hid (0 < k → ∀ w', Below w6.heap.size w6 w' → w'.cell? (af.add ((k - 1) * 2)) = some (.string (F[k - 1]'(by omega)).1) ∧ w'.cell? ⟨(af.add ((k - 1) * 2)).block, (af.add ((k - 1) * 2)).off + 1, none⟩ = some (.int .i64 ((F[k - 1]'(by omega)).2 : Int))) := Lib.hid fun hk0 w' hw' => by
                  obtain ⟨a3, e3, q0, q1⟩ := hits_cells (HR6.out.ext hw' (Nat.le_refl _)) (k - 1) (by omega)
                  obtain rfl := Option.some.inj e3
                  exact ⟨q0, q1⟩
                rw [hh1] at g0
                have HSZT := Lib.hid ((text_small HOK.out hj))
                generalize F[k] = hh at *
                generalize D[j] = dd at *
                obtain ⟨hid, at2⟩ := hh
                dsimp only at *
                subst hh1
                have hts := HSZT.out
                clear hh3
                go_wp2_with fail
                refine HD1.out.mono ?_
                rintro e w7 ⟨rfl, hb7⟩
                have HB7 : Hid (Below w6.heap.size w6 w7) := Lib.hid (HBX.out.trans (hb7.mono HBX.out.size))
                have HBB7 : Hid (Below w2.heap.size w2 w7) := Lib.hid (HB6.out.trans (HB7.out.mono HB6.out.size))
                have d0 := cell_ext hb7 (Nat.le_refl _) g0
                have d1 := cell_ext hb7 (Nat.le_refl _) g1
                have k1 := cell_ext HBB7.out (Nat.le_refl _) HK1.out
                have cp := HCP.out _ HBB7.out
                clear hb7 g0 g1 HD1
                go_upto_region 15 with (fail)
                have n0 : (0 : Int) ≤ (at2 : Int) := by omega
                have n1 : ¬ (at2 : Int) < 0 := by omega
                have n2 : ¬ (dd.text.size : Int) - (at2 : Int) < (p.size : Int) := by omega
                have n3 : (at2 : Int) + (p.size : Int) ≤ (dd.text.size : Int) := by omega
                have n4 : (0 : Int) ≤ (at2 : Int) + (p.size : Int) := by omega
                have n5 : ((at2 : Int) + (p.size : Int)).toNat = at2 + p.size := by omega
                have n6 : (0 : Int) ≤ (k : Int) := by omega
                have n7 : (0 : Int) ≤ (i : Int) := by omega
                have n8 : (at2 : Int) ≤ (at2 : Int) + (p.size : Int) := by omega
                have v1 : IntKind.i64.wrap ((dd.text.size : Int) - (at2 : Int)) = (dd.text.size : Int) - (at2 : Int) := wrap_idB (by omega)
                have v2 : IntKind.i64.wrap ((at2 : Int) + (p.size : Int)) = (at2 : Int) + (p.size : Int) := wrap_idB (by omega)
                have hx := HX.out
                have HNM : Hid (∀ m, Calls Try.prog 23 #[.int .i64 ((0 : Nat) : Int)] (w7.drewN m) fun r w' => r = .returned (.int .i64 ((0 : Nat) : Int)) ∧ ∃ m, w' = w7.drewN m) := Lib.hid (num8q w7 ((0 : Nat) : Int))
                go_quiet ((go_at_call 23; exact HNM.out _))
                have HBQ : Hid (Below w6.heap.size w6 (w7.drewN nq)) := Lib.hid (HB7.out.trans ((drawn_below w7 nq).mono HB7.out.size))
                clear n0 n1 n2 n3 n4 n5 v1 v2 n7 n8 hx k1 cp HNM HX
                go_upto_region 17 with (fail)
                by_cases hk0 : 0 < k
                · have hk0i : (0 : Int) < (k : Int) := by omega
                  obtain ⟨q0, q1⟩ := HGP.out hk0 w7 HB7.out
                  have hlt := HPV.out hk0
                  generalize F[k - 1]'(by omega) = hp0 at *
                  obtain ⟨pid, pat⟩ := hp0
                  unfold Sg.hitLt at hlt
                  dsimp only at hlt q0 q1
                  have m0 : (0 : Int) ≤ (k : Int) - 1 := by omega
                  have m1 : (k : Int) - 1 < (F.length : Int) := by omega
                  have m2 : ((k : Int) - 1).toNat = k - 1 := by omega
                  have m3 : IntKind.i64.wrap ((k : Int) - 1) = (k : Int) - 1 := wrap_idB (by omega)
                  clear HGP HPV
                  rcases hlt with hlt | ⟨rfl, hlt⟩
                  · have hne : (pid.toList == dd.id.toList) = false := by
                      rw [beq_eq_false_iff_ne]; intro e
                      rw [e, bl_irrefl] at hlt; cases hlt
                    go_quiet (fail)
                    clear m0 m1 m2 m3
                    go_wp2
                    go_roundw
                    case rel => exact ⟨k + 1, by omega, by go_num, Lib.hid (HB7.out.trans ((drawn_below w7 _).mono HB7.out.size))⟩
                    case measure => first | (simp [intOf]; done) | (simp [intOf]; omega)
                  · have hle : ¬ (at2 : Int) ≤ (pat : Int) := by omega
                    have hbi := bl_irrefl dd.id.toList
                    clear hlt
                    go_quiet (fail)
                    clear m0 m1 m2 m3
                    go_wp2
                    go_roundw
                    case rel => exact ⟨k + 1, by omega, by go_num, Lib.hid (HB7.out.trans ((drawn_below w7 _).mono HB7.out.size))⟩
                    case measure => first | (simp [intOf]; done) | (simp [intOf]; omega)
                · have hk0i : ¬ (0 : Int) < (k : Int) := by omega
                  go_quiet (fail)
                  go_wp2
                  go_roundw
                  case rel => exact ⟨k + 1, by omega, by go_num, Lib.hid (HB7.out.trans ((drawn_below w7 _).mono HB7.out.size))⟩
                  case measure => first | (simp [intOf]; done) | (simp [intOf]; omega)
              · have h2i : ¬ (k : Int) < (F.length : Int) := by omega
                go_wp2
                go_roundw
                case rel => exact ⟨i + 1, by omega, by go_num, Lib.hid (HB6.out.trans (HBX.out.mono HB6.out.size))⟩
                case measure => first | (simp [intOf]; done) | (simp [intOf]; omega)
          · have hwi : ((Sg.asksP p : Int) != 0) = true := by rw [bne_iff_ne]; omega
            have hs := Sg.search_no (ds := D) hw
            rw [hs] at HS
            generalize Sg.asksP p = er at *
            clear hs hw
            go_wp2_with fail
            refine HS.out.mono ?_
            rintro e w6 ⟨lv, rfl, hown6, hb6⟩
            have HB6 : Hid (Below w2.heap.size w2 w6) := Lib.hid (HB.out.trans (hb6.mono HB.out.size))
            obtain ⟨A6, c6, rfl, _, _, _, _, _⟩ := own_rds hown6
            clear hown6 hb6 k1 cp
            go_wp2_with (go_at_call 23; refine (num8 _ _).mono ?_; rintro e wq ⟨rfl, rfl⟩)
            go_roundw
            case rel => exact ⟨i + 1, by omega, by go_num, HB6⟩
            case measure => first | (simp [intOf]; done) | (simp [intOf]; omega)
        · have h1i : ¬ (i : Int) < (P.length : Int) := by omega
          go_upto_region 19 with (fail)
          clear k1
          obtain ⟨w5, rfl⟩ : ∃ z, z = wr := ⟨_, rfl⟩
          have HB5 := HB
          go_wp2
          go_loopw [11] (fun b wr => ∃ n : Nat, n ≤ 255 + 17 ∧ b = .int .i64 (n : Int) ∧ Hid (Below w2.heap.size w2 wr)) (fun b _ => 512 - (intOf b).toNat)
          case atStart => exact ⟨0, by omega, rfl, HB5⟩
          case round =>
            obtain ⟨b, hb, rfl, HB⟩ := hrel
            by_cases h2 : b < 256
            · have h2i : (b : Int) < 256 := by omega
              obtain ⟨pb, hpb⟩ : ∃ pb : ByteArray, pb = ⟨#[UInt8.ofNat b]⟩ := ⟨_, rfl⟩
              have HPB := Lib.hid hpb
              have hps : pb.size = 1 := by rw [hpb]; rfl
              have HAS : Hid (Sg.asksP pb = 0) := Lib.hid (by unfold Sg.asksP; rw [hps]; rfl)
              have HHR : Hid (∀ (t : ByteArray) (k : Nat) (c : UInt8), t.toList[k]? = some c → Sg.hereT t pb k = decide (c.toNat = b)) := Lib.hid fun t k c hc => by
                rw [hpb, Sg.here_one, hc, decide_eq_decide]
                constructor
                · intro e; injection e with e; rw [e]; simp; omega
                · intro e; congr 1; rw [← e]; simp
              have HTZ : Hid (∀ d ∈ D, d.text.size + 1 - pb.size = d.text.size) := Lib.hid fun d _ => by rw [hps]; omega
              clear hps hpb
              go_upto_region 23 with (fail)
              go_wp2
              go_loopw [12, 13] (fun n i wZ => ∃ k : Nat, k ≤ D.length ∧ i = .int .i64 (k : Int) ∧ n = .int .i64 ((Sg.hitsD (D.take k) pb).length : Int) ∧ wZ = wr) (fun _ i _ => D.length - (intOf i).toNat)
              case atStart => exact ⟨0, by omega, rfl, rfl, rfl⟩
              case round =>
                obtain ⟨k, hk, rfl, rfl, rfl⟩ := hrel
                have k0 := cell_ext HB.out (Nat.le_refl _) HK0.out
                have hxl := hitsD_le (D.take k) pb
                have hzt := Sg.sizeD_mono D k
                have hz16 := HSZ.out
                rw [List.length_take, Nat.min_eq_left hk] at hxl
                by_cases h3 : k < D.length
                · have h3i : (k : Int) < (D.length : Int) := by omega
                  obtain ⟨a, rfl, _, hc1⟩ := docs_cells (HDE.out wr HB.out) k h3
                  have HTK : Hid (Sg.hitsD (D.take (k + 1)) pb = Sg.hitsD (D.take k) pb ++ Sg.textH D[k] pb D[k].text.size) := Lib.hid (by
                    rw [List.take_succ_eq_append_getElem h3, Sg.hitsD_snoc, HTZ.out _ (List.getElem_mem h3)])
                  have hts := text_small HOK.out h3
                  generalize D[k] = dd at *
                  generalize Sg.hitsD (D.take k) pb = X at *
                  have hx1 : X.length ≤ 20000 := by omega
                  have HTL : Hid (∀ j, (Sg.textH dd pb j).length ≤ j) := Lib.hid (Sg.textH_len dd pb)
                  clear hxl hzt hz16
                  go_wp2
                  go_loopw [12, 14] (fun n i wy => ∃ j : Nat, j ≤ dd.text.size ∧ i = .int .i64 (j : Int) ∧ n = .int .i64 ((X.length + (Sg.textH dd pb j).length : Nat) : Int) ∧ wy = wr) (fun _ i _ => dd.text.size - (intOf i).toNat)
                  case atStart => exact ⟨0, by omega, rfl, rfl, rfl⟩
                  case round =>
                    obtain ⟨j, hj, rfl, rfl, rfl⟩ := hrel
                    have hyl := HTL.out j
                    by_cases h4 : j < dd.text.size
                    · have h4i : (j : Int) < (dd.text.size : Int) := by omega
                      obtain ⟨cc, hc3, hc4⟩ := bytes_get dd.text j h4
                      have hlt := cc.toNat_lt
                      have HST := Lib.hid (Sg.textH_step dd pb j)
                      rw [HHR.out _ _ _ hc4] at HST
                      generalize Sg.textH dd pb j = Y at *
                      clear hc4
                      by_cases h5 : cc.toNat = b
                      · have h5i : ((cc.toNat : Int) == (b : Int)) = true := by rw [beq_iff_eq]; omega
                        rw [decide_eq_true h5, if_pos rfl] at HST
                        go_wp2
                        go_roundw
                        case rel => exact ⟨j + 1, by omega, by go_num, by rw [HST.out, List.length_append]; go_num, by first | trivial | rfl⟩
                        case measure => first | (simp [intOf]; done) | (simp [intOf]; omega)
                      · have h5i : ((cc.toNat : Int) == (b : Int)) = false := by rw [beq_eq_false_iff_ne]; omega
                        rw [decide_eq_false h5, if_neg (by decide), List.append_nil] at HST
                        go_wp2
                        go_roundw
                        case rel => exact ⟨j + 1, by omega, by go_num, by rw [HST.out], by first | trivial | rfl⟩
                        case measure => first | (simp [intOf]; done) | (simp [intOf]; omega)
                    · obtain rfl : j = dd.text.size := by omega
                      have h4i : ¬ (dd.text.size : Int) < (dd.text.size : Int) := by omega
                      have HLL : Hid ((Sg.hitsD (D.take (k + 1)) pb).length = X.length + (Sg.textH dd pb dd.text.size).length) := Lib.hid (by rw [HTK.out, List.length_append])
                      go_wp2
                      go_roundw
                      case rel => exact ⟨k + 1, by omega, by go_num, by rw [HLL.out], by first | trivial | rfl⟩
                      case measure => first | (simp [intOf]; done) | (simp [intOf]; omega)
                · obtain rfl : k = D.length := by omega
                  have h3i : ¬ (D.length : Int) < (D.length : Int) := by omega
                  rw [List.take_length] at hxl ⊢
                  have hbm : (b : Int) % 256 = (b : Int) := by omega
                  have HSR := Lib.hid (HSE.out (wr.alloc (.cells #[.int .u8 (b : Int)] 5)) (HB.out.trans (((Below.refl wr.heap.size wr).alloc (Nat.le_refl _) _).mono HB.out.size)) pb (by rw [HPB.out]; show 1 ≤ 1000000; omega))
                  have hbn : (UInt8.ofNat b).toNat = b := by simp; omega
                  have hcv := conv_str (wr.alloc (.cells #[.int .u8 (b : Int)] 5)) 23 9 5 Try.underlying23 Try.underlying5 Try.underlying9 (some ⟨wr.heap.size, 0, none⟩) 1 1 [UInt8.ofNat b] rfl
                    (by show Rds _ _ [Value.int .u8 ((UInt8.ofNat b).toNat : Int)]; rw [hbn]; exact rds_litN wr #[.int .u8 (b : Int)] 5)
                  rw [show bytesOf [UInt8.ofNat b] = pb from by rw [HPB.out]; rfl] at hcv
                  unfold SearchPost at HSR
                  rw [HAS.out, Sg.search_eq HAS.out] at HSR
                  generalize Sg.hitsD D pb = F at *
                  have hff : ((F.length : Int) != (F.length : Int)) = false := by simp
                  clear hbn hzt
                  go_wp2_with fail
                  refine HSR.out.mono ?_
                  rintro e w6 ⟨lv, rfl, hown6, hb6⟩
                  obtain ⟨A6, c6, rfl, _, _, _, _, _⟩ := own_rds hown6
                  have HB6 : Hid (Below w2.heap.size w2 w6) := Lib.hid ((HB.out.trans (((Below.refl wr.heap.size wr).alloc (Nat.le_refl _) _).mono HB.out.size)).trans (hb6.mono (HB.out.trans (((Below.refl wr.heap.size wr).alloc (Nat.le_refl _) (.cells #[.int .u8 (b : Int)] 5)).mono HB.out.size)).size))
                  clear hown6 hb6 k0 hcv
                  go_wp2_with (go_at_call 23; refine (num8 _ _).mono ?_; rintro e wq ⟨rfl, rfl⟩)
                  go_roundw
                  case rel => exact ⟨b + 17, by omega, by go_num, HB6⟩
                  case measure => first | (simp [intOf]; done) | (simp [intOf]; omega)
            · have h2i : ¬ (b : Int) < 256 := by omega
              have HXF : Hid (Below W.heap.size W wr) := HX2.out.trans (HB.out.mono HX2.out.size)
              go_wp2_with fail
              refine (wakesG _).mono ?_
              rintro e w9 ⟨rfl, hb⟩
              go_wp2
              go_ret
              exact ⟨rfl, HXF.out.trans (hb.mono HXF.out.size)⟩
end Go.Proofs.Ytjpcfpffbicpnaa
