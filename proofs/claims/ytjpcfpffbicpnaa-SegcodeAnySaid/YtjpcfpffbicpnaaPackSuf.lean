/- Several texts in one. The walk of suffix.fresh. | The walks of a frame's end and same. | The walk of induce's closure put. | The walk of a frame's induce. | The walk of a frame's names. | The walk of suffix.sorted. -/
import Derived.Test.YtjpcfpffbicpnaaSufR
import Derived.Test.YtjpcfpffbicpnaaSa
section
set_option linter.unusedVariables false
set_option linter.unusedSimpArgs false
namespace Go.Proofs.Ytjpcfpffbicpnaa
open Go.RowKit Lec
set_option maxRecDepth 100000 in
set_option maxHeartbeats 4000000 in
theorem fresh_any (w : World) (A : Option Addr) (n c : Nat) (s : List Nat) (K : Nat) (hn : s.length = n) (hm : n ≤ 131072) (hk : K ≤ 200000) (hks : ∀ i, i < s.length → Sa.sy s i < K) (hr : Rds w A (natsC s)) (hfar : Far w A) :
    Calls Try.prog 117 #[.slice A n c, .int .i64 (K : Int)] w (FreshPost w s K) := by
  have HR := Lib.hid hr
  have HN := Lib.hid hn
  have HK := Lib.hid hks
  clear hr hn hks
  go_enter Try.func117, Try.ntmps117
  go_wp2
  refine fresh_reg w A n c K hm hk _ ?_
  intro p g1 g2 g3 g5 B wx hf
  go_wp2
  go_loopw [7] (fun i wr => ∃ (z : Int) (bs : List Bool), i = .int .i64 z ∧ -2 ≤ z ∧ z ≤ (n : Int) - 2 ∧ bs.length = n ∧ Hid (∀ j : Nat, j < n → z < j → bs[j]? = some (Sa.sm s j)) ∧ FreshW w wr A n c K p g1 g2 g3 g5 B (boolsC bs) (List.replicate (K + 1) (.int .i64 0)) (List.replicate (K + 1) (.int .i64 0)) (.slice none 0 0) (List.replicate (n + 1) (.int .i64 0))) (fun i _ => (intOf i + 2).toNat)
  case atStart =>
    refine ⟨(n : Int) - 2, List.replicate n false, rfl, by omega, by omega, by simp, fun j hj hz => ?_, ?_⟩
    · rw [List.getElem?_replicate, if_pos hj, Sa.sm_last s j (by rw [HN.out]; omega)]
    · simpa using hf
  case round =>
    clear hf
    obtain ⟨z, bs, rfl, hz1, hz2, hbl, HS, hf⟩ := hrel
    by_cases h0 : 0 ≤ z
    · obtain ⟨i, rfl⟩ : ∃ i : Nat, z = i := ⟨z.toNat, by omega⟩
      have hi1 : i + 1 < n := by omega
      have k1 := hf.bp.cell (o := 1) rfl
      have hfz := hf.b1.froz i
      have kc := hf.b1.cell (o := i) (boolsC_at (List.getElem?_eq_getElem (show i < bs.length by omega)))
      generalize bs[i] = bi at *
      have ks := hf.b1.cell (o := i + 1) (boolsC_at (HS.out (i + 1) hi1 (by omega)))
      have hs1 : i < s.length := by rw [HN.out]; omega
      have hs2 : i + 1 < s.length := by rw [HN.out]; omega
      have hst := Sa.sm_step s i hs2
      have hr' := HR.out.ext hf.bel (Nat.le_refl _)
      obtain ⟨a, rfl, c1⟩ := hr' i _ (natsC_at (v := Sa.sy s i) (by rw [List.getElem?_eq_getElem hs1]; simp [Sa.sy, List.getD_eq_getElem?_getD, hs1]))
      obtain ⟨a', e', c2⟩ := hr' (i + 1) _ (natsC_at (v := Sa.sy s (i + 1)) (by rw [List.getElem?_eq_getElem hs2]; simp [Sa.sy, List.getD_eq_getElem?_getD, hs2]))
      obtain rfl := Option.some.inj e'
      clear e' hr'
      have c3 := c2
      rw [add_pos _ _ (by omega)] at c3
      have HST := Lib.hid hst
      have hwi : IntKind.i64.wrap ((i : Int) + 1) = (i : Int) + 1 := wrapI (by omega)
      have hzi : (0 : Int) ≤ (i : Int) := by omega
      have hzi1 : (0 : Int) ≤ (i : Int) + 1 := by omega
      have hin : (i : Int) < (n : Int) := by omega
      have hin1 : (i : Int) + 1 < (n : Int) := by omega
      have hti : ((i : Int) + 1).toNat = i + 1 := by omega
      have hbl := Lib.hid hbl
      clear hst hs1 hs2
      generalize Sa.sy s i = x at *
      generalize Sa.sy s (i + 1) = y at *
      generalize Sa.sm s (i + 1) = t at *
      rcases Nat.lt_trichotomy x y with hxy | hxy | hxy
      · have hxyi : (x : Int) < (y : Int) := by omega
        go_wp2
        refine wp_region_qtail 38 (by kernel_rfl) (by kernel_rfl) ?_
        simp only [List.take_succ_cons, List.take_zero, List.drop_succ_cons, List.drop_zero]
        repeat (go_big_quiet_step (fail))
        refine wpQuiet_nil ?_
        go_wp2
        go_roundw
        case rel =>
          refine ⟨(i : Int) - 1, bs.set i (Sa.sm s i), rfl, by omega, by omega, by rw [List.length_set]; exact hbl.out, Lib.hid (fun j hj hz => ?_), ?_⟩
          · rw [List.getElem?_set]
            by_cases e : i = j
            · subst e; simp [hbl.out, hj]
            · rw [if_neg e]; exact HS.out j hj (by omega)
          · have h := (hf.drewN 1).set1 i (.bool (Sa.sm s i))
            rw [← boolsC_set] at h
            have e : Sa.sm s i = true := by rw [HST.out]; (simp [hxy])
            rw [e] at h ⊢
            exact h
        case measure => simp [intOf]; omega
      · have hxyn : ¬ x < y := by omega
        have hxye : ((x : Int) == (y : Int)) = true := by rw [beq_iff_eq]; omega
        have HXY := Lib.hid hxy
        clear hxy
        go_wp2
        refine wp_region_qtail 38 (by kernel_rfl) (by kernel_rfl) ?_
        simp only [List.take_succ_cons, List.take_zero, List.drop_succ_cons, List.drop_zero]
        repeat (go_big_quiet_step (fail))
        refine wpQuiet_nil ?_
        go_wp2
        go_roundw
        case rel =>
          refine ⟨(i : Int) - 1, bs.set i (Sa.sm s i), rfl, by omega, by omega, by rw [List.length_set]; exact hbl.out, Lib.hid (fun j hj hz => ?_), ?_⟩
          · rw [List.getElem?_set]
            by_cases e : i = j
            · subst e; simp [hbl.out, hj]
            · rw [if_neg e]; exact HS.out j hj (by omega)
          · have h := (hf.drewN 1).set1 i (.bool (Sa.sm s i))
            rw [← boolsC_set] at h
            have e : Sa.sm s i = t := by rw [HST.out]; (simp [HXY.out])
            rw [e] at h ⊢
            exact h
        case measure => simp [intOf]; omega
      · have hxyn : ¬ x < y := by omega
        have hxye : ((x : Int) == (y : Int)) = false := by rw [beq_eq_false_iff_ne]; omega
        go_wp2
        refine wp_region_qtail 38 (by kernel_rfl) (by kernel_rfl) ?_
        simp only [List.take_succ_cons, List.take_zero, List.drop_succ_cons, List.drop_zero]
        repeat (go_big_quiet_step (fail))
        refine wpQuiet_nil ?_
        go_wp2
        go_roundw
        case rel =>
          refine ⟨(i : Int) - 1, bs.set i (Sa.sm s i), rfl, by omega, by omega, by rw [List.length_set]; exact hbl.out, Lib.hid (fun j hj hz => ?_), ?_⟩
          · rw [List.getElem?_set]
            by_cases e : i = j
            · subst e; simp [hbl.out, hj]
            · rw [if_neg e]; exact HS.out j hj (by omega)
          · have h := (hf.drewN 1).set1 i (.bool (Sa.sm s i))
            rw [← boolsC_set] at h
            have e : Sa.sm s i = false := by rw [HST.out]; (simp [show ¬ x < y by omega, show ¬ x = y by omega])
            rw [e] at h ⊢
            exact h
        case measure => simp [intOf]; omega
    · have hbs : bs = smL s := List.ext_getElem? (fun j => by
        by_cases hj : j < n
        · rw [HS.out j hj (by omega), smL_at s j (by rw [HN.out]; exact hj)]
        · rw [List.getElem?_eq_none (by omega), List.getElem?_eq_none (by unfold smL; simp; rw [HN.out]; omega)])
      subst hbs
      clear HS hbl
      go_wp2
      go_loopw [74] (fun i wr => ∃ (m : Nat) (xs2 xs3 : List Nat), i = .int .i64 (m : Int) ∧ m ≤ n ∧ Tab xs2 (K + 1) (upS s m) ∧ Tab xs3 (K + 1) (upL s m) ∧ FreshW w wr A n c K p g1 g2 g3 g5 B (boolsC (smL s)) (natsC xs2) (natsC xs3) (.slice none 0 0) (List.replicate (n + 1) (.int .i64 0))) (fun i _ => n - (intOf i).toNat)
      case atStart =>
        refine ⟨0, List.replicate (K + 1) 0, List.replicate (K + 1) 0, rfl, by omega, ⟨by simp, fun c hc => ?_⟩, ⟨by simp, fun c hc => ?_⟩, ?_⟩
        · rw [List.getElem?_replicate, if_pos hc]; unfold upS; split <;> rfl
        · rw [List.getElem?_replicate, if_pos hc]; rfl
        · have e : natsC (List.replicate (K + 1) 0) = List.replicate (K + 1) (.int .i64 0) := by simp [natsC]
          rw [e]; exact hf
      case round =>
        clear hf
        obtain ⟨m, xs2, xs3, rfl, hmn, h2, h3, hf⟩ := hrel
        by_cases h8 : m < n
        · have h8i : (m : Int) < (n : Int) := by omega
          have hms : m < s.length := by rw [HN.out]; exact h8
          have k1 := hf.bp.cell (o := 1) rfl
          have k2 := hf.bp.cell (o := 2) rfl
          have k3 := hf.bp.cell (o := 3) rfl
          have kb := hf.b1.cell (o := m) (boolsC_at (smL_at s m hms))
          obtain ⟨a, rfl, c1⟩ := (HR.out.ext hf.bel (Nat.le_refl _)) m _ (natsC_at (v := Sa.sy s m) (by rw [List.getElem?_eq_getElem hms]; simp [Sa.sy, List.getD_eq_getElem?_getD, hms]))
          have hx := HK.out m hms
          have hS := upS_succ s m
          have hL := upL_succ s m
          have hl2 := upS_le s m (Sa.sy s m + 1)
          have hl3 := upL_le s m (Sa.sy s m)
          have v2 := hf.b2.cell (o := Sa.sy s m + 1) (natsC_at (h2.2 _ (by omega)))
          have v3 := hf.b3.cell (o := Sa.sy s m) (natsC_at (h3.2 _ (by omega)))
          have f2 := hf.b2.froz (Sa.sy s m + 1)
          have f3 := hf.b3.froz (Sa.sy s m)
          cases hb : Sa.sm s m with
          | true =>
            have T2 : Hid (Tab (xs2.set (Sa.sy s m + 1) (upS s m (Sa.sy s m + 1) + 1)) (K + 1) (upS s (m + 1))) := h2.set _ _ _ (fun c _ => by rw [hS, hb]; by_cases e : c = Sa.sy s m + 1 <;> simp [e])
            have T3 : Hid (Tab xs3 (K + 1) (upL s (m + 1))) := h3.congr (fun c _ => by rw [hL, hb]; simp)
            rw [hb] at kb
            have HF := Lib.hid (hf.set2 (Sa.sy s m + 1) (.int .i64 ((upS s m (Sa.sy s m + 1) + 1 : Nat) : Int)))
            rw [← natsC_set] at HF
            clear hS hL h2 h3 hf hb
            generalize upS s m (Sa.sy s m + 1) = v at *
            generalize upL s m (Sa.sy s m) = u at *
            generalize Sa.sy s m = x at *
            go_wp2
            go_roundw
            case rel => exact ⟨m + 1, _, _, by go_num, by omega, T2.out, T3.out, HF.out⟩
            case measure => simp [intOf]; omega
          | false =>
            have T2 : Hid (Tab xs2 (K + 1) (upS s (m + 1))) := h2.congr (fun c _ => by rw [hS, hb]; simp)
            have T3 : Hid (Tab (xs3.set (Sa.sy s m) (upL s m (Sa.sy s m) + 1)) (K + 1) (upL s (m + 1))) := h3.set _ _ _ (fun c _ => by rw [hL, hb]; by_cases e : c = Sa.sy s m <;> simp [e])
            rw [hb] at kb
            have HF := Lib.hid (hf.set3 (Sa.sy s m) (.int .i64 ((upL s m (Sa.sy s m) + 1 : Nat) : Int)))
            rw [← natsC_set] at HF
            clear hS hL h2 h3 hf hb
            generalize upS s m (Sa.sy s m + 1) = v at *
            generalize upL s m (Sa.sy s m) = u at *
            generalize Sa.sy s m = x at *
            go_wp2
            go_roundw
            case rel => exact ⟨m + 1, _, _, by go_num, by omega, T2.out, T3.out, HF.out⟩
            case measure => simp [intOf]; omega
        · obtain rfl : m = n := by omega
          have h8i : ¬ (m : Int) < (m : Int) := by omega
          go_wp2
          go_loopw [107] (fun i wr => ∃ (c' : Nat) (xs2 xs3 : List Nat), i = .int .i64 (c' : Int) ∧ c' ≤ K ∧ Tab xs2 (K + 1) (fun j => if j ≤ c' then Sa.lo s j else Sa.ns s (j - 1)) ∧ Tab xs3 (K + 1) (fun j => if j < c' then Sa.mid s j else Sa.nl s j) ∧ FreshW w wr A m c K p g1 g2 g3 g5 B (boolsC (smL s)) (natsC xs2) (natsC xs3) (.slice none 0 0) (List.replicate (m + 1) (.int .i64 0))) (fun i _ => K - (intOf i).toNat)
          case atStart =>
            refine ⟨0, xs2, xs3, rfl, by omega, h2.congr (fun j hj => ?_), h3.congr (fun j hj => ?_), hf⟩
            · unfold upS
              by_cases e : j = 0
              · subst e; rw [if_pos (by omega), if_pos rfl, Sa.lo_zero]
              · rw [if_neg (by omega), if_neg e, ← HN.out]; rfl
            · rw [if_neg (by omega)]; unfold upL; rw [← HN.out]; rfl
          case round =>
            clear hf h2 h3 h8i
            obtain ⟨d, xs2, xs3, rfl, hdk, h2, h3, hf⟩ := hrel
            by_cases hd : d < K
            · have hdi : (d : Int) < (K : Int) := by omega
              have k2 := hf.bp.cell (o := 2) rfl
              have k3 := hf.bp.cell (o := 3) rfl
              have v2 := hf.b2.cell (o := d) (natsC_at (h2.at (c := d) (by omega) (if_pos (Nat.le_refl _))))
              have v3 := hf.b3.cell (o := d) (natsC_at (h3.at (c := d) (by omega) (if_neg (Nat.lt_irrefl _))))
              have f3 := hf.b3.froz d
              have hlo := Sa.lo_le s d
              have hlo1 := Sa.lo_le s (d + 1)
              have hus := Sa.lo_succ s d
              have hml := Sa.mid_le s d
              have hmd : Sa.mid s d = Sa.lo s d + Sa.nl s d := rfl
              rw [HN.out] at hlo hlo1
              have T3 : Hid (Tab (xs3.set d (Sa.nl s d + Sa.lo s d)) (K + 1) (fun j => if j < d + 1 then Sa.mid s j else Sa.nl s j)) := h3.set _ _ _ (fun j _ => by
                by_cases e : j = d
                · subst e; rw [if_pos (by omega), if_pos rfl, hmd]; omega
                · rw [if_neg e]; by_cases e2 : j < d
                  · rw [if_pos e2, if_pos (by omega)]
                  · rw [if_neg e2, if_neg (by omega)])
              have T2 : Hid (Tab (xs2.set (d + 1) (Sa.ns s d + (Sa.nl s d + Sa.lo s d))) (K + 1) (fun j => if j ≤ d + 1 then Sa.lo s j else Sa.ns s (j - 1))) := h2.set _ _ _ (fun j _ => by
                by_cases e : j = d + 1
                · subst e; rw [if_pos (by omega), if_pos rfl]; omega
                · rw [if_neg e]; by_cases e2 : j ≤ d
                  · rw [if_pos e2, if_pos (by omega)]
                  · rw [if_neg e2, if_neg (by omega)])
              have V2 : Hid ((natsC xs2)[d + 1]? = some (.int .i64 (Sa.ns s d : Int))) := by
                exact natsC_at (h2.at (c := d + 1) (by omega) (if_neg (by omega)))
              have hb1 : Sa.nl s d + Sa.lo s d ≤ m := by omega
              have hb2 : Sa.ns s d + (Sa.nl s d + Sa.lo s d) ≤ m := by omega
              have V3 : Hid ((natsC (xs3.set d (Sa.nl s d + Sa.lo s d)))[d]? = some (.int .i64 ((Sa.nl s d + Sa.lo s d : Nat) : Int))) := natsC_at (by rw [List.getElem?_set]; simp [h3.1, hd]; omega)
              clear h2 h3 hus hml hmd hlo hlo1
              generalize Sa.nl s d = u at *
              generalize Sa.lo s d = x at *
              generalize Sa.ns s d = y at *
              go_wp2
              refine wp_region_qtail 16 (by kernel_rfl) (by kernel_rfl) ?_
              simp only [List.take_succ_cons, List.take_zero, List.drop_succ_cons, List.drop_zero]
              repeat (go_big_quiet_step (fail))
              refine wpQuiet_nil ?_
              go_wp2
              have hf1 := (hf.drewN 1).set3 d (.int .i64 ((u + x : Nat) : Int))
              rw [← natsC_set] at hf1
              obtain ⟨wX, hwX⟩ : ∃ wX, wX = (wr.drewN 1).setCell ⟨g3, d, none⟩ (.int .i64 ((u : Int) + (x : Int))) := ⟨_, rfl⟩
              rw [show ((u + x : Nat) : Int) = (u : Int) + (x : Int) by omega, ← hwX] at hf1
              rw [← hwX]
              clear hwX hf k2 k3 v2 v3 f3
              have k2 := hf1.bp.cell (o := 2) rfl
              have k3 := hf1.bp.cell (o := 3) rfl
              have v3 := hf1.b3.cell V3.out
              have v2 := hf1.b2.cell V2.out
              have f2 := hf1.b2.froz (d + 1)
              have hz1 : (0 : Int) ≤ (d : Int) + 1 := by omega
              have hz2 : (d : Int) + 1 < (K : Int) + 1 := by omega
              have hwd : IntKind.i64.wrap ((d : Int) + 1) = (d : Int) + 1 := wrapI (by omega)
              have htd : ((d : Int) + 1).toNat = d + 1 := by omega
              have HF2 := Lib.hid ((hf1.drewN 1).set2 (d + 1) (.int .i64 ((y + (u + x) : Nat) : Int)))
              rw [← natsC_set] at HF2
              rw [show ((u + x : Nat) : Int) = (u : Int) + (x : Int) by omega] at v3
              clear hf1
              refine wp_region_qtail 17 (by kernel_rfl) (by kernel_rfl) ?_
              simp only [List.take_succ_cons, List.take_zero, List.drop_succ_cons, List.drop_zero]
              repeat (go_big_quiet_step (fail))
              refine wpQuiet_nil ?_
              go_wp2
              go_roundw
              case rel => exact ⟨d + 1, _, _, by go_num, by omega, T2.out, T3.out, by have h := HF2.out; rw [show ((y + (u + x) : Nat) : Int) = (y : Int) + ((u : Int) + (x : Int)) by omega] at h; exact h⟩
              case measure => simp [intOf]; omega
            · obtain rfl : d = K := by omega
              have hdi : ¬ (d : Int) < (d : Int) := by omega
              have T2 : Tab xs2 (d + 1) (Sa.lo s) := h2.congr (fun j hj => by rw [if_pos (by omega)])
              have T3 : ∀ j, j < d → xs3[j]? = some (Sa.mid s j) := fun j hj => h3.at (c := j) (by omega) (if_pos hj)
              have HL3 := Lib.hid h3.1
              have HT2 := Lib.hid T2
              have HT3 := Lib.hid T3
              clear h2 h3 T2 T3
              have k5 := hf.bp.cell (o := 5) rfl
              go_wp2
              clear k5
              go_loopw [149] (fun i wr => ∃ (j : Nat) (A4 : Option Addr) (c4 : Nat) (xs5 : List Int), i = .int .i64 (j : Int) ∧ j ≤ m + 1 ∧ Hid (xs5.length = m + 1) ∧ Hid (∀ q, q < j → xs5[q]? = some (numb s q)) ∧ FreshW w wr A m c d p g1 g2 g3 g5 B (boolsC (smL s)) (natsC xs2) (natsC xs3) (.slice A4 (Sa.cnt j (Sa.lmsB s)) c4) (intsV xs5) ∧ Hid (wr.ownsRow B 3 1 (.slice A4 (Sa.cnt j (Sa.lmsB s)) c4) (Sa.cnt j (Sa.lmsB s)) (natsC ((List.range j).filter (Sa.lmsB s))))) (fun i _ => m + 1 - (intOf i).toNat)
              case atStart =>
                refine ⟨0, none, 0, List.replicate (m + 1) 0, rfl, by omega, Lib.hid (by simp), Lib.hid (fun q hq => by omega), ?_, Lib.hid (World.ownsRow_nil _ _ _ _)⟩
                have e : intsV (List.replicate (m + 1) 0) = List.replicate (m + 1) (.int .i64 0) := by simp [intsV]
                rw [e]; exact hf
              case round =>
                clear hf
                obtain ⟨j, A4, c4, xs5, rfl, hjm, HL5, HN5, hf, HO⟩ := hrel
                by_cases hj : j < m + 1
                · have hji : (j : Int) < (m : Int) + 1 := by omega
                  have hj0 : (0 : Int) ≤ (j : Int) := by omega
                  have k5 := hf.bp.cell (o := 5) rfl
                  obtain ⟨q5, hq5⟩ : ∃ q, xs5[j]? = some q := ⟨_, List.getElem?_eq_getElem (show j < xs5.length by rw [HL5.out]; omega)⟩
                  have v5 := hf.b5.cell (o := j) (intsV_at hq5)
                  have f5 := hf.b5.froz j
                  clear hq5
                  go_upto_region 24 with (fail)
                  have hf1 := hf.set5 j (.int .i64 (-1))
                  rw [← intsV_set] at hf1
                  have HO1 := own_set (p := g5) (o := j) HO.out hf.h5.2 (.int .i64 (-1))
                  obtain ⟨wX, hwX⟩ : ∃ wX, wX = wr.setCell ⟨g5, j, none⟩ (.int .i64 (-1)) := ⟨_, rfl⟩
                  rw [← hwX] at hf1 HO1 ⊢
                  replace HO1 := Lib.hid HO1
                  clear hwX hf k5 v5 f5 HO
                  have HC := Lib.hid (Sa.cnt_succ j (Sa.lmsB s))
                  have HR' : Hid ((List.range (j + 1)).filter (Sa.lmsB s) = (List.range j).filter (Sa.lmsB s) ++ (if Sa.lmsB s j = true then [j] else [])) := Lib.hid (by rw [List.range_succ, List.filter_append]; cases h : Sa.lmsB s j <;> simp [h])
                  have HN6 : Hid (∀ q, q < j + 1 → (xs5.set j (numb s j))[q]? = some (numb s q)) := Lib.hid (fun q hq => by
                    rw [List.getElem?_set]
                    by_cases e : j = q
                    · subst e; simp [HL5.out]; omega
                    · rw [if_neg e]; exact HN5.out q (by omega))
                  have HL6 : Hid ((xs5.set j (numb s j)).length = m + 1) := Lib.hid (by rw [List.length_set]; exact HL5.out)
                  have k1 := hf1.bp.cell (o := 1) rfl
                  by_cases hl : Sa.lmsB s j = true
                  · obtain ⟨e1, e2, e3, e4⟩ := (Sa.lmsB_iff s j).1 hl
                    rw [HN.out] at e2
                    have HLT := Lib.hid hl
                    have HNB : Hid (numb s j = (Sa.cnt j (Sa.lmsB s) : Int)) := Lib.hid (by unfold numb; rw [if_pos hl]; rfl)
                    have hzi : (0 : Int) < (j : Int) := by omega
                    have hjj : (j : Int) < (m : Int) := by omega
                    have kb := hf1.b1.cell (o := j) (boolsC_at (smL_at s j (by rw [HN.out]; exact e2)))
                    rw [e3] at kb
                    have kb1 := hf1.b1.cell (o := j - 1) (boolsC_at (smL_at s (j - 1) (by rw [HN.out]; omega)))
                    rw [e4] at kb1
                    have ht1 : ((j : Int) - 1).toNat = j - 1 := by omega
                    have hb1 : (0 : Int) ≤ (j : Int) - 1 := by omega
                    have hb2 : (j : Int) - 1 < (m : Int) := by omega
                    have k4 := hf1.bp.cell (o := 4) rfl
                    have k5 := hf1.bp.cell (o := 5) rfl
                    have v5 := hf1.b5.cell (o := j) (intsV_at (show (xs5.set j (-1))[j]? = some (-1) by rw [List.getElem?_set]; simp [HL5.out]; omega))
                    have f5 := hf1.b5.froz j
                    have hcl := Sa.cnt_le j (Sa.lmsB s)
                    clear e3 e4 hl
                    generalize Sa.cnt j (Sa.lmsB s) = M at *
                    go_wp2
                    refine wp_region_qtail 11 (by kernel_rfl) (by kernel_rfl) ?_
                    simp only [List.take_succ_cons, List.take_zero, List.drop_succ_cons, List.drop_zero]
                    repeat (go_big_quiet_step (fail))
                    refine wpQuiet_nil ?_
                    go_upto_region 26 with (fail)
                    have hf2 := (hf1.drewN 1).set5 j (.int .i64 (M : Int))
                    rw [← intsV_set] at hf2
                    have HO2 := own_set (w := wX.drewN 1) (p := g5) (o := j) HO1.out hf1.h5.2 (.int .i64 (M : Int))
                    obtain ⟨wY, hwY⟩ : ∃ wY, wY = (wX.drewN 1).setCell ⟨g5, j, none⟩ (.int .i64 (M : Int)) := ⟨_, rfl⟩
                    rw [← hwY] at hf2 HO2 ⊢
                    replace HO2 := Lib.hid HO2
                    clear hwY hf1 HO1 k1 kb kb1 k4 k5 v5 f5 ht1
                    have k4 := hf2.bp.cell (o := 4) rfl
                    have hbz := hf2.hB
                    go_wp2_with (at_builtin; refine wp_app1 (w0 := wY) rfl rfl _ _ 57 rfl B 3 (.int .i64 0) 1 8 Try.underlying57 info_int rfl (by decide) (by decide) _ M _ rfl HO2.out rfl rfl (one_cell1 rfl) (by omega) hbz ?_; intro v' w1 hown' hg' hb'; obtain ⟨A6, c6, rfl, _, _, _, _, _⟩ := own_rds hown'; have hf3 := hf2.ext hb'; have HO3 := Lib.hid hown'; have k4' := hf3.bp.cell (o := 4) rfl; have f4 := hf3.bp.froz 4; clear hown' hg' hb')
                    go_roundw
                    case rel =>
                      refine ⟨j + 1, A6, c6, (xs5.set j (-1)).set j (M : Int), by go_num, by omega, ?_, ?_, ?_, ?_⟩
                      · exact Lib.hid (by simpa using HL5.out)
                      · rw [HNB.out] at HN6; rw [List.set_set]; exact HN6
                      · rw [HC.out, HLT.out]; exact hf3.set4 _
                      · rw [HR'.out, HC.out, HLT.out]
                        exact Lib.hid (own_set (by have h := HO3.out; simpa [natsC] using h) hf3.hp.2 _)
                    case measure => simp [intOf]; omega
                  · have HNB : Hid (numb s j = -1) := Lib.hid (by unfold numb; rw [if_neg hl])
                    have HLF : Hid (Sa.lmsB s j = false) := Lib.hid (by simpa using hl)
                    have hway : j = 0 ∨ j = m ∨ (0 < j ∧ j < m ∧ Sa.sm s j = false) ∨ (0 < j ∧ j < m ∧ Sa.sm s j = true ∧ Sa.sm s (j - 1) = true) := by
                      by_cases e0 : j = 0
                      · exact .inl e0
                      · by_cases e1 : j = m
                        · exact .inr (.inl e1)
                        · cases e2 : Sa.sm s j with
                          | false => exact .inr (.inr (.inl ⟨by omega, by omega, rfl⟩))
                          | true =>
                            cases e3 : Sa.sm s (j - 1) with
                            | true => exact .inr (.inr (.inr ⟨by omega, by omega, rfl, rfl⟩))
                            | false => exact absurd ((Sa.lmsB_iff s j).2 ⟨by omega, by rw [HN.out]; omega, e2, e3⟩) hl
                    clear hl
                    rcases hway with e0 | e1 | ⟨e1, e2, e3⟩ | ⟨e1, e2, e3, e4⟩
                    · subst e0
                      go_wp2
                      go_roundw
                      case rel =>
                        refine ⟨0 + 1, A4, c4, xs5.set 0 (-1), by go_num, by omega, ?_, ?_, ?_, ?_⟩
                        · rw [HNB.out] at HL6; exact HL6
                        · rw [HNB.out] at HN6; exact HN6
                        · rw [HC.out, HLF.out]; exact hf1
                        · rw [HR'.out, HC.out, HLF.out]; simp only [Bool.toNat_false, Nat.add_zero, Bool.false_eq_true, if_false, List.append_nil]; exact HO1
                      case measure => first | (simp [intOf]; done) | (simp [intOf]; omega)
                    · subst e1
                      by_cases hz : 0 < j
                      · have hzi : (0 : Int) < (j : Int) := by omega
                        have hjj : ¬ (j : Int) < (j : Int) := by omega
                        go_wp2
                        go_roundw
                        case rel =>
                          refine ⟨j + 1, A4, c4, xs5.set j (-1), by go_num, by omega, ?_, ?_, ?_, ?_⟩
                          · rw [HNB.out] at HL6; exact HL6
                          · rw [HNB.out] at HN6; exact HN6
                          · rw [HC.out, HLF.out]; exact hf1
                          · rw [HR'.out, HC.out, HLF.out]; simp only [Bool.toNat_false, Nat.add_zero, Bool.false_eq_true, if_false, List.append_nil]; exact HO1
                        case measure => first | (simp [intOf]; done) | (simp [intOf]; omega)
                      · have hzi : ¬ (0 : Int) < (j : Int) := by omega
                        go_wp2
                        go_roundw
                        case rel =>
                          refine ⟨j + 1, A4, c4, xs5.set j (-1), by go_num, by omega, ?_, ?_, ?_, ?_⟩
                          · rw [HNB.out] at HL6; exact HL6
                          · rw [HNB.out] at HN6; exact HN6
                          · rw [HC.out, HLF.out]; exact hf1
                          · rw [HR'.out, HC.out, HLF.out]; simp only [Bool.toNat_false, Nat.add_zero, Bool.false_eq_true, if_false, List.append_nil]; exact HO1
                        case measure => first | (simp [intOf]; done) | (simp [intOf]; omega)
                    · have hzi : (0 : Int) < (j : Int) := by omega
                      have hjj : (j : Int) < (m : Int) := by omega
                      have kb := hf1.b1.cell (o := j) (boolsC_at (smL_at s j (by rw [HN.out]; exact e2)))
                      rw [e3] at kb
                      clear e3
                      go_wp2
                      go_roundw
                      case rel =>
                        refine ⟨j + 1, A4, c4, xs5.set j (-1), by go_num, by omega, ?_, ?_, ?_, ?_⟩
                        · rw [HNB.out] at HL6; exact HL6
                        · rw [HNB.out] at HN6; exact HN6
                        · rw [HC.out, HLF.out]; exact hf1
                        · rw [HR'.out, HC.out, HLF.out]; simp only [Bool.toNat_false, Nat.add_zero, Bool.false_eq_true, if_false, List.append_nil]; exact HO1
                      case measure => first | (simp [intOf]; done) | (simp [intOf]; omega)
                    · have hzi : (0 : Int) < (j : Int) := by omega
                      have hjj : (j : Int) < (m : Int) := by omega
                      have kb := hf1.b1.cell (o := j) (boolsC_at (smL_at s j (by rw [HN.out]; exact e2)))
                      rw [e3] at kb
                      have kb1 := hf1.b1.cell (o := j - 1) (boolsC_at (smL_at s (j - 1) (by rw [HN.out]; omega)))
                      rw [e4] at kb1
                      have ht1 : ((j : Int) - 1).toNat = j - 1 := by omega
                      have hb1 : (0 : Int) ≤ (j : Int) - 1 := by omega
                      have hb2 : (j : Int) - 1 < (m : Int) := by omega
                      clear e3 e4
                      go_wp2
                      go_roundw
                      case rel =>
                        refine ⟨j + 1, A4, c4, xs5.set j (-1), by go_num, by omega, ?_, ?_, ?_, ?_⟩
                        · rw [HNB.out] at HL6; exact HL6
                        · rw [HNB.out] at HN6; exact HN6
                        · rw [HC.out, HLF.out]; exact hf1
                        · rw [HR'.out, HC.out, HLF.out]; simp only [Bool.toNat_false, Nat.add_zero, Bool.false_eq_true, if_false, List.append_nil]; exact HO1
                      case measure => first | (simp [intOf]; done) | (simp [intOf]; omega)
                · obtain rfl : j = m + 1 := by omega
                  have hji : ¬ ((m + 1 : Nat) : Int) < (m : Int) + 1 := by omega
                  go_wp2
                  go_ret
                  have hlast : Sa.lmsB s m = false := by
                    cases h : Sa.lmsB s m with
                    | false => rfl
                    | true => have := ((Sa.lmsB_iff s m).1 h).2.1; rw [HN.out] at this; omega
                  obtain ⟨A7, c7, e7, _, _, _, r7, _⟩ := own_rds HO.out
                  obtain ⟨rfl, e8, rfl⟩ := Value.slice.inj e7
                  have hcnt : Sa.cnt (m + 1) (Sa.lmsB s) = (Sa.lmsL s).length := by rw [Sa.cnt_succ, hlast, Sa.lmsL_len, HN.out]; rfl
                  have hfil : (List.range (m + 1)).filter (Sa.lmsB s) = Sa.lmsL s := by rw [List.range_succ, List.filter_append]; unfold Sa.lmsL; rw [HN.out]; simp [hlast]
                  rw [hfil] at r7
                  have hb := hf.bp
                  rw [hcnt] at hb
                  refine ⟨p, rfl, ⟨A, c, some ⟨g1, 0, none⟩, some ⟨g2, 0, none⟩, some ⟨g3, 0, none⟩, A4, c4, some ⟨g5, 0, none⟩, xs3, ?_, ?_, hb.cell rfl, hb.cell rfl, hb.cell rfl, ?_, HR.out.ext hf.bel (Nat.le_refl _), hf.b1.rds, ?_, hf.b3.rds, r7, ?_, HL3.out, HT3.out⟩, hf.bel, ⟨Blk.farA hf.bp (by decide), ?_⟩⟩
                  · rw [HN.out]; exact hb.cell rfl
                  · rw [HN.out]; exact hb.cell rfl
                  · rw [HN.out]; exact hb.cell rfl
                  · rw [← tab_eq HT2.out]; exact hf.b2.rds
                  · rw [HN.out, ← map_eq HL5.out HN5.out]; exact hf.b5.rds
                  · intro o n' c' A' hA'
                    rw [hb.cellE o] at hA'
                    rcases (show o = 0 ∨ o = 1 ∨ o = 2 ∨ o = 3 ∨ o = 4 ∨ o = 5 ∨ 6 ≤ o by omega) with rfl | rfl | rfl | rfl | rfl | rfl | ho
                    · obtain ⟨rfl, _⟩ := Value.slice.inj (Option.some.inj hA'); exact hfar.ext hf.bel (Nat.le_refl _)
                    · obtain ⟨rfl, _⟩ := Value.slice.inj (Option.some.inj hA'); exact Blk.farA hf.b1 (by decide)
                    · obtain ⟨rfl, _⟩ := Value.slice.inj (Option.some.inj hA'); exact Blk.farA hf.b2 (by decide)
                    · obtain ⟨rfl, _⟩ := Value.slice.inj (Option.some.inj hA'); exact Blk.farA hf.b3 (by decide)
                    · obtain ⟨rfl, _⟩ := Value.slice.inj (Option.some.inj hA'); exact own_far HO.out (by decide)
                    · obtain ⟨rfl, _⟩ := Value.slice.inj (Option.some.inj hA'); exact Blk.farA hf.b5 (by decide)
                    · rw [List.getElem?_eq_none (by simp; omega)] at hA'; cases hA'
end Go.Proofs.Ytjpcfpffbicpnaa

end
section
set_option linter.unusedVariables false
set_option linter.unusedSimpArgs false
namespace Go.Proofs.Ytjpcfpffbicpnaa
open Go.RowKit Lec
theorem end_any (w : World) (p : Nat) (s : List Nat) (K : Nat) (hf : Frm w p s K) (hm : s.length ≤ 131072) (v : Nat) (hv : Sa.Lms s v) :
    Calls Try.prog 133 #[.pointer (some ⟨p, 0, none⟩), .int .i64 (v : Int)] w fun e w' => e = .returned (.int .i64 (Sa.endP s v : Int)) ∧ w = w' := by
  obtain ⟨A, c, a1, a2, a3, a4, c4, a5, xs3, h0, h1, h2, h3, h4, h5, r0, r1, r2, r3, r4, r5, h6, h7⟩ := hf.out
  have hvl := hv.2.1
  obtain ⟨a, rfl, c5⟩ := r5 v _ (intsV_at (v := (Sa.idx s v : Int)) (by rw [List.getElem?_map, List.getElem?_range (by omega)]; simp [numb, (Sa.lmsB_iff s v).2 hv]))
  have hi := Sa.idx_lt hv
  have hh := Sa.lmsL_half s
  have hvi : (v : Int) < (s.length : Int) + 1 := by omega
  clear h1 h2 h3 r1 r2 r3 h7 r5 hf hv
  by_cases hl : Sa.idx s v + 1 < (Sa.lmsL s).length
  · obtain ⟨b, rfl, c4'⟩ := r4 (Sa.idx s v + 1) _ (natsC_at (List.getElem?_eq_getElem hl))
    rw [add_pos _ _ (by omega)] at c4'
    have HE : Hid (Sa.endP s v = (Sa.lmsL s)[Sa.idx s v + 1]) := Lib.hid (by unfold Sa.endP; rw [List.getElem?_eq_getElem hl]; rfl)
    have hli : (Sa.idx s v : Int) + 1 < ((Sa.lmsL s).length : Int) := by omega
    generalize (Sa.lmsL s)[Sa.idx s v + 1] = y at *
    generalize (Sa.lmsL s).length = M at *
    generalize Sa.idx s v = x at *
    go_enter Try.func133, Try.ntmps133
    go_wp2
    go_ret
    exact ⟨by rw [HE.out]; rfl, rfl⟩
  · have HE : Hid (Sa.endP s v = s.length) := Lib.hid (by unfold Sa.endP; rw [List.getElem?_eq_none (by omega)]; rfl)
    have hli : ¬ (Sa.idx s v : Int) + 1 < ((Sa.lmsL s).length : Int) := by omega
    generalize (Sa.lmsL s).length = M at *
    generalize Sa.idx s v = x at *
    go_enter Try.func133, Try.ntmps133
    go_wp2
    go_ret
    exact ⟨by rw [HE.out]; rfl, rfl⟩

set_option maxRecDepth 100000 in
theorem same_any (w : World) (p : Nat) (s : List Nat) (K : Nat) (hf : Frm w p s K) (hm : s.length ≤ 131072) (v u : Nat) (hv : Sa.Lms s v) (hu : Sa.Lms s u) :
    Calls Try.prog 130 #[.pointer (some ⟨p, 0, none⟩), .int .i64 (v : Int), .int .i64 (u : Int)] w fun e w' => e = .returned (.bool (Sa.sameB s v u)) ∧ ∃ q, w.drewN q = w' := by
  have HEV := Lib.hid (end_any w p s K hf hm v hv)
  have HEU := Lib.hid (end_any w p s K hf hm u hu)
  have HIF := Lib.hid (Sa.same_iff hv hu)
  have HSB := Lib.hid (Sa.sameB_iff s v u)
  have hev := Sa.endP_le s v hv
  have heu := Sa.endP_le s u hu
  have hvl := hv.2.1
  have hul := hu.2.1
  obtain ⟨A, c, a1, a2, a3, a4, c4, a5, xs3, h0, h1, h2, h3, h4, h5, r0, r1, r2, r3, r4, r5, h6, h7⟩ := hf.out
  have HR := Lib.hid r0
  clear h1 h2 h3 h4 h5 r0 r1 r2 r3 r4 r5 h7 hf h6
  generalize Sa.sameB s v u = B at *
  generalize Sa.endP s v = x at *
  generalize Sa.endP s u = y at *
  generalize hE : Sa.Eq' s v u = E at *
  clear hE
  by_cases hd : x - v = y - u
  · have hdi : (((x : Int) - (v : Int)) != ((y : Int) - (u : Int))) = false := by rw [bne_eq_false_iff_eq]; omega
    by_cases hx : x = s.length
    · have hxi : ((x : Int) == (s.length : Int)) = true := by rw [beq_iff_eq]; omega
      have HB : Hid (B = false) := Lib.hid (by
        cases B with
        | false => rfl
        | true => exact absurd hx (HIF.out.1 (HSB.out.1 rfl)).2.1)
      clear hd hx
      go_enter Try.func130, Try.ntmps130
      go_wp2_with fail
      refine HEV.out.mono ?_
      rintro e wq ⟨rfl, rfl⟩
      go_wp2_with fail
      refine HEU.out.mono ?_
      rintro e wq ⟨rfl, rfl⟩
      go_wp2
      go_ret
      exact ⟨by rw [HB.out]; rfl, 0, rfl⟩
    · have hxi : ((x : Int) == (s.length : Int)) = false := by rw [beq_eq_false_iff_ne]; omega
      by_cases hy : y = s.length
      · have hyi : ((y : Int) == (s.length : Int)) = true := by rw [beq_iff_eq]; omega
        have HB : Hid (B = false) := Lib.hid (by
          cases B with
          | false => rfl
          | true => exact absurd hy (HIF.out.1 (HSB.out.1 rfl)).2.2.1)
        clear hd hx hy
        go_enter Try.func130, Try.ntmps130
        go_wp2_with fail
        refine HEV.out.mono ?_
        rintro e wq ⟨rfl, rfl⟩
        go_wp2_with fail
        refine HEU.out.mono ?_
        rintro e wq ⟨rfl, rfl⟩
        go_wp2
        go_ret
        exact ⟨by rw [HB.out]; rfl, 0, rfl⟩
      · have hyi : ((y : Int) == (s.length : Int)) = false := by rw [beq_eq_false_iff_ne]; omega
        have HD := Lib.hid hd
        have hx1 : x < s.length := by omega
        have hy1 : y < s.length := by omega
        clear hd
        go_enter Try.func130, Try.ntmps130
        go_wp2_with fail
        refine HEV.out.mono ?_
        rintro e wq ⟨rfl, rfl⟩
        go_wp2_with fail
        refine HEU.out.mono ?_
        rintro e wq ⟨rfl, rfl⟩
        go_wp2
        clear hxi hyi hdi
        go_loopw [1, 2] (fun l r wr => ∃ (L R q : Nat), l = .int .i64 (L : Int) ∧ r = .int .i64 (R : Int) ∧ v ≤ L ∧ u ≤ R ∧ L - v ≤ x - v + 1 ∧ Hid (L - v = R - u) ∧ Hid (∀ i, i < L - v → Sa.sy s (v + i) = Sa.sy s (u + i)) ∧ wr = w.drewN q) (fun l _ _ => s.length + 1 - (intOf l).toNat)
        case atStart => exact ⟨v, u, 0, rfl, rfl, by omega, by omega, by omega, Lib.hid (by omega), Lib.hid (fun i hi => by omega), rfl⟩
        case round =>
          obtain ⟨L, R, q, rfl, rfl, hL, hR, hLx, HLR, HS, rfl⟩ := hrel
          by_cases hlx : L ≤ x
          · have hlxi : (L : Int) ≤ (x : Int) := by omega
            have hLn : L < s.length := by omega
            have hRn : R < s.length := by have := HLR.out; have := HD.out; omega
            obtain ⟨a, rfl, c1⟩ := HR.out L _ (natsC_at (v := Sa.sy s L) (by rw [List.getElem?_eq_getElem hLn]; simp [Sa.sy, List.getD_eq_getElem?_getD, hLn]))
            obtain ⟨a', e', c2⟩ := HR.out R _ (natsC_at (v := Sa.sy s R) (by rw [List.getElem?_eq_getElem hRn]; simp [Sa.sy, List.getD_eq_getElem?_getD, hRn]))
            obtain rfl := Option.some.inj e'
            clear e'
            have hLi0 : (0 : Int) ≤ (L : Int) := by omega
            have hRi0 : (0 : Int) ≤ (R : Int) := by omega
            have hLi : (L : Int) < (s.length : Int) := by omega
            have hRi : (R : Int) < (s.length : Int) := by omega
            by_cases he : Sa.sy s L = Sa.sy s R
            · have hne : ((Sa.sy s L : Int) != (Sa.sy s R : Int)) = false := by rw [bne_eq_false_iff_eq]; omega
              have HS2 : Hid (∀ i, i < L + 1 - v → Sa.sy s (v + i) = Sa.sy s (u + i)) := Lib.hid (fun i hi => by
                by_cases e : i = L - v
                · have := HLR.out
                  rw [show v + i = L by omega, show u + i = R by omega]; exact he
                · exact HS.out i (by omega))
              have HLR2 : Hid (L + 1 - v = R + 1 - u) := Lib.hid (by have := HLR.out; omega)
              clear he HS
              generalize Sa.sy s L = sl at *
              generalize Sa.sy s R = sr at *
              go_wp2
              go_quiet (fail)
              go_wp2
              go_roundw
              case rel => exact ⟨L + 1, R + 1, _, by go_num, by go_num, by omega, by omega, by omega, HLR2, HS2, rfl⟩
              case measure => simp [intOf]; omega
            · have hne : ((Sa.sy s L : Int) != (Sa.sy s R : Int)) = true := by rw [bne_iff_ne]; omega
              have HB : Hid (B = false) := Lib.hid (by
                cases B with
                | false => rfl
                | true =>
                  have h := (HIF.out.1 (HSB.out.1 rfl)).2.2.2 (L - v) (by omega)
                  have := HLR.out
                  rw [show v + (L - v) = L by omega, show u + (L - v) = R by omega] at h
                  exact absurd h he)
              clear he HS
              generalize Sa.sy s L = sl at *
              generalize Sa.sy s R = sr at *
              go_wp2
              go_quiet (fail)
              go_wp2
              go_ret
              exact ⟨by rw [HB.out]; rfl, by first | exact drawn2 _ _ _ | exact drawn1 _ _⟩
          · have hlxi : ¬ (L : Int) ≤ (x : Int) := by omega
            have HB : Hid (B = true) := Lib.hid (HSB.out.2 (HIF.out.2 ⟨HD.out, hx, hy, fun j hj => HS.out j (by omega)⟩))
            go_wp2
            go_ret
            exact ⟨by rw [HB.out]; rfl, q, rfl⟩
  · have hdi : (((x : Int) - (v : Int)) != ((y : Int) - (u : Int))) = true := by rw [bne_iff_ne]; omega
    have HB : Hid (B = false) := Lib.hid (by
      cases B with
      | false => rfl
      | true => exact absurd (HIF.out.1 (HSB.out.1 rfl)).1 hd)
    clear hd
    go_enter Try.func130, Try.ntmps130
    go_wp2_with fail
    refine HEV.out.mono ?_
    rintro e wq ⟨rfl, rfl⟩
    go_wp2_with fail
    refine HEU.out.mono ?_
    rintro e wq ⟨rfl, rfl⟩
    go_wp2
    go_ret
    exact ⟨by rw [HB.out]; rfl, 0, rfl⟩
end Go.Proofs.Ytjpcfpffbicpnaa

end
section
set_option linter.unusedVariables false
set_option linter.unusedSimpArgs false
namespace Go.Proofs.Ytjpcfpffbicpnaa
open Go.RowKit Lec
/-- What inducing works on: three boxes, the answer's cells, where the next ones go. -/
structure IndW (w wx : World) (p ga gn cap b2 b6 b8 n K B : Nat) (a : List Int) (nx : List Nat) : Prop where
  c2 : Blk wx b2 182 [.pointer (some ⟨p, 0, none⟩)]
  c6 : Blk wx b6 57 [.slice (some ⟨ga, 0, none⟩) n n]
  c8 : Blk wx b8 57 [.slice (some ⟨gn, 0, none⟩) (K + 1) cap]
  ba : Blk wx ga 3 (intsV a)
  own : wx.ownsRow B 3 1 (.slice (some ⟨gn, 0, none⟩) (K + 1) cap) (K + 1) (natsC nx)
  hn : ga < B
  h2 : w.heap.size ≤ b2
  h6 : w.heap.size ≤ b6 ∧ b6 < B
  h8 : w.heap.size ≤ b8
  n68 : b6 ≠ b8
  ha : w.heap.size ≤ ga
  bel : Below w.heap.size w wx
section
variable {w wx : World} {p ga gn cap b2 b6 b8 n K B : Nat} {a : List Int} {nx : List Nat}
theorem IndW.bgn (h : IndW w wx p ga gn cap b2 b6 b8 n K B a nx) : B ≤ gn := (h.own.lt gn rfl).1
theorem IndW.drewN (h : IndW w wx p ga gn cap b2 b6 b8 n K B a nx) (q : Nat) : IndW w (wx.drewN q) p ga gn cap b2 b6 b8 n K B a nx :=
  ⟨h.c2, h.c6, h.c8, h.ba, h.own, h.hn, h.h2, h.h6, h.h8, h.n68, h.ha, h.bel.trans ((drawn_below wx q).mono h.bel.size)⟩
theorem IndW.setA (h : IndW w wx p ga gn cap b2 b6 b8 n K B a nx) (i : Nat) (u : Int) : IndW w (wx.setCell ⟨ga, i, none⟩ (.int .i64 u)) p ga gn cap b2 b6 b8 n K B (a.set i u) nx :=
  ⟨h.c2.far _ (h.c2.one h.ba (by decide)), h.c6.far _ (h.c6.one h.ba (by decide)), h.c8.far _ (h.c8.one h.ba (by decide)), by rw [intsV_set]; exact h.ba.set i _, own_set h.own h.hn _, h.hn, h.h2, h.h6, h.h8, h.n68, h.ha, h.bel.setCell h.ha _⟩
theorem blk_own {w : World} {g g' n c B : Nat} {T e : TypeId} {xs ys : List Value} (h : Blk w g T xs) (k : w.ownsRow B e 1 (.slice (some ⟨g', 0, none⟩) n c) n ys) (hne : T ≠ e) : g ≠ g' := by
  intro hg
  subst hg
  rcases k.2 with ⟨k', _⟩ | ⟨g', cap', cur, k', _, kg, _⟩
  · simp at k'
  · simp only [Value.slice.injEq, Option.some.injEq, Addr.mk.injEq, and_true, true_and] at k'
    obtain ⟨rfl, rfl⟩ := k'
    have := (show w.heap[g]? = _ from h).symm.trans kg
    injection this with h1; injection h1 with _ h2 _; exact hne h2
theorem IndW.setN (h : IndW w wx p ga gn cap b2 b6 b8 n K B a nx) (i u : Nat) : IndW w (wx.setCell ⟨gn, i, none⟩ (.int .i64 (u : Int))) p ga gn cap b2 b6 b8 n K B a (nx.set i u) :=
  ⟨h.c2.far _ (blk_own h.c2 h.own (by decide)), h.c6.far _ (blk_own h.c6 h.own (by decide)), h.c8.far _ (blk_own h.c8 h.own (by decide)), h.ba.far _ (by have := h.bgn; have := h.hn; omega), by rw [natsC_set]; exact (h.own.stored i _).1, h.hn, h.h2, h.h6, h.h8, h.n68, h.ha, h.bel.setCell (show w.heap.size ≤ gn by have := h.bgn; have := h.hn; have := h.ha; omega) _⟩
end


theorem put_any (w wx : World) (p ga gn cap b2 b6 b8 K B : Nat) (s : List Nat) (a : List Int) (nx : List Nat) (hW : IndW w wx p ga gn cap b2 b6 b8 s.length K B a nx) (hf : Frm w p s K) (hm : s.length ≤ 131072) (hk : K ≤ 200000)
    (v : Nat) (hv : v < s.length) (hx : Sa.sy s v < K) (q : Nat) (hq : nx[Sa.sy s v]? = some q) (hqn : q < s.length) (hal : a.length = s.length) (hnl : nx.length = K + 1) :
    Calls Try.prog 131 #[.int .i64 (v : Int), .pointer (some ⟨b6, 0, none⟩), .pointer (some ⟨b8, 0, none⟩), .pointer (some ⟨b2, 0, none⟩)] wx fun e w' => e = .returned (.tuple #[]) ∧ IndW w w' p ga gn cap b2 b6 b8 s.length K B (a.set q (v : Int)) (nx.set (Sa.sy s v) (q + 1)) := by
  obtain ⟨A, c, a1, a2, a3, a4, c4, a5, xs3, h0, h1, h2, h3, h4, h5, r0, _⟩ := hf.out
  obtain ⟨aa, rfl, c0⟩ := r0 v _ (natsC_at (v := Sa.sy s v) (by rw [List.getElem?_eq_getElem hv]; simp [Sa.sy, List.getD_eq_getElem?_getD, hv]))
  obtain ⟨y, hy⟩ : ∃ y, a[q]? = some y := ⟨_, List.getElem?_eq_getElem (by omega)⟩
  have HP := Lib.hid h0
  have HC1 := Lib.hid c0
  clear h0 h1 h2 h3 h4 h5 r0 c0 hf
  have hvi : (v : Int) < (s.length : Int) := by omega
  have hv0 : (0 : Int) ≤ (v : Int) := by omega
  generalize hsx : Sa.sy s v = x at *
  clear hsx
  have hxi : (x : Int) < (K : Int) + 1 := by omega
  have hx0 : (0 : Int) ≤ (x : Int) := by omega
  have hqi : (q : Int) < (s.length : Int) := by omega
  have hq0 : (0 : Int) ≤ (q : Int) := by omega
  have HQ := Lib.hid hq
  have HY := Lib.hid hy
  have HAL := Lib.hid hal
  have HNL := Lib.hid hnl
  clear hq hy hal hnl
  go_enter Try.func131, Try.ntmps131
  go_wp2
  have HW := hW
  have k2 := HW.c2.cell (o := 0) rfl
  have k6 := HW.c6.cell (o := 0) rfl
  have k8 := HW.c8.cell (o := 0) rfl
  have vn := (HW.own.cellAt x (by omega)).trans (natsC_at HQ.out)
  have fn := HW.own.frozenAt x
  have va := hW.ba.cell (intsV_at HY.out)
  have fa := hW.ba.froz q
  have kp := cell_ext hW.bel (Nat.le_refl _) HP.out
  have c1 := cell_ext hW.bel (Nat.le_refl _) HC1.out
  refine wp_region_qtail 13 (by kernel_rfl) (by kernel_rfl) ?_
  simp only [List.take_succ_cons, List.take_zero, List.drop_succ_cons, List.drop_zero]
  repeat (go_big_quiet_step (fail))
  refine wpQuiet_nil ?_
  go_upto_region 1 with (fail)
  have hW2 := (hW.drewN 1).setA q (v : Int)
  obtain ⟨wY, hwY⟩ : ∃ wY, wY = (wx.drewN 1).setCell ⟨ga, q, none⟩ (.int .i64 (v : Int)) := ⟨_, rfl⟩
  rw [← hwY] at hW2 ⊢
  clear hwY k2 k6 k8 vn fn va fa kp c1 HW hW
  have HW := hW2
  have k2 := HW.c2.cell (o := 0) rfl
  have k6 := HW.c6.cell (o := 0) rfl
  have k8 := HW.c8.cell (o := 0) rfl
  have vn := (HW.own.cellAt x (by omega)).trans (natsC_at HQ.out)
  have fn := HW.own.frozenAt x
  have kp := cell_ext hW2.bel (Nat.le_refl _) HP.out
  have c1 := cell_ext hW2.bel (Nat.le_refl _) HC1.out
  refine wp_region_qtail 12 (by kernel_rfl) (by kernel_rfl) ?_
  simp only [List.take_succ_cons, List.take_zero, List.drop_succ_cons, List.drop_zero]
  repeat (go_big_quiet_step (fail))
  refine wpQuiet_nil ?_
  go_wp2
  go_end0
  refine ⟨rfl, ?_⟩
  have h := (hW2.drewN 1).setN x (q + 1)
  rw [show ((q + 1 : Nat) : Int) = (q : Int) + 1 by omega] at h
  exact h
end Go.Proofs.Ytjpcfpffbicpnaa

end
section
set_option linter.unusedVariables false
set_option linter.unusedSimpArgs false
namespace Lec
open Go Go.RowKit
theorem nats_one (xs : List Nat) : ∀ u ∈ natsC xs, u.oneCell' = true := fun u hu => by simp [natsC] at hu; obtain ⟨_, _, rfl⟩ := hu; rfl
/-- Next places, as a list and as a function. -/
def NxT (nx : List Nat) (K : Nat) (f : Nat → Nat) : Prop := nx.length = K + 1 ∧ ∀ c, c < K → nx[c]? = some (f c)
theorem NxT.put {nx : List Nat} {K : Nat} {f : Nat → Nat} (h : NxT nx K f) (x : Nat) : NxT (nx.set x (f x + 1)) K (fun c => if c = x then f c + 1 else f c) := by
  refine ⟨by rw [List.length_set]; exact h.1, fun c hc => ?_⟩
  rw [List.getElem?_set]
  by_cases e : x = c
  · subst e; simp [h.1]; omega
  · rw [if_neg e, h.2 c hc, show (fun c => if c = x then f c + 1 else f c) c = f c from if_neg (fun k => e k.symm)]
/-- Ends of symbols, as a list and as a function. -/
def NxE (nx : List Nat) (K : Nat) (e : Nat → Nat) : Prop := nx.length = K + 1 ∧ ∀ c, c < K → nx[c + 1]? = some (e c)
theorem NxE.put {nx : List Nat} {K : Nat} {e : Nat → Nat} (h : NxE nx K e) (x : Nat) : NxE (nx.set (x + 1) (e x - 1)) K (fun c => if c = x then e c - 1 else e c) := by
  refine ⟨by rw [List.length_set]; exact h.1, fun c hc => ?_⟩
  rw [List.getElem?_set]
  by_cases k : x = c
  · subst k; simp [h.1]; omega
  · rw [if_neg (by omega), h.2 c hc, show (fun c => if c = x then e c - 1 else e c) c = e c from if_neg (fun k' => k k'.symm)]
end Lec
namespace Go.Proofs.Ytjpcfpffbicpnaa
open Go.RowKit Lec
/-- Before the next places are laid. -/
structure IndP (w wx : World) (p ga b2 b6 n : Nat) (a : List Int) : Prop where
  c2 : Blk wx b2 182 [.pointer (some ⟨p, 0, none⟩)]
  c6 : Blk wx b6 57 [.slice (some ⟨ga, 0, none⟩) n n]
  ba : Blk wx ga 3 (intsV a)
  h2 : w.heap.size ≤ b2
  h6 : w.heap.size ≤ b6
  ha : w.heap.size ≤ ga
  bel : Below w.heap.size w wx
theorem IndP.setA {w wx : World} {p ga b2 b6 n : Nat} {a : List Int} (h : IndP w wx p ga b2 b6 n a) (i : Nat) (u : Int) : IndP w (wx.setCell ⟨ga, i, none⟩ (.int .i64 u)) p ga b2 b6 n (a.set i u) :=
  ⟨h.c2.far _ (h.c2.one h.ba (by decide)), h.c6.far _ (h.c6.one h.ba (by decide)), by rw [intsV_set]; exact h.ba.set i _, h.h2, h.h6, h.ha, h.bel.setCell h.ha _⟩

theorem blk_row {w : World} {g k : Nat} {T : TypeId} {xs : List Value} (h : Blk w g T xs) (cs : Array Value) (hne : g ≠ k) : Blk (w.setRow k cs) g T xs := (setRow_other w k g cs hne).trans h
theorem IndW.row {w wx : World} {p ga gn cap b2 b6 b8 n K B : Nat} {a : List Int} {nx : List Nat} (h : IndW w wx p ga gn cap b2 b6 b8 n K B a nx) :
    ∃ cur : Array Value, wx.heap[gn]? = some (.cells cur 3 (0, 0)) ∧ K + 1 ≤ cur.size ∧ ∀ nx' : List Nat, nx'.length = K + 1 →
      IndW w (wx.setRow gn (cur.toList.take 0 ++ (natsC nx' ++ cur.toList.drop (0 + (natsC nx').length))).toArray) p ga gn cap b2 b6 b8 n K B a nx' := by
  rcases h.own.2 with ⟨k', _⟩ | ⟨g', cap', cur, k', hB, hg, hnc, hcm, hcs, htk⟩
  · simp at k'
  · simp only [Value.slice.injEq, Option.some.injEq, Addr.mk.injEq, and_true, true_and] at k'
    obtain ⟨rfl, rfl⟩ := k'
    refine ⟨cur, hg, by omega, fun nx' hl => ?_⟩
    have hgn := h.bgn
    have hhn := h.hn
    have hha := h.ha
    have hln : (natsC nx').length = K + 1 := by simp [hl]
    refine ⟨blk_row h.c2 _ (blk_own h.c2 h.own (by decide)), blk_row h.c6 _ (blk_own h.c6 h.own (by decide)), blk_row h.c8 _ (blk_own h.c8 h.own (by decide)), blk_row h.ba _ (by omega), ?_, h.hn, h.h2, h.h6, h.h8, h.n68, h.ha, below_setRow h.bel (by omega) _⟩
    refine ⟨by omega, .inr ⟨gn, cap, _, rfl, hB, setRow_heap _ _ _ _ _ _ hg, hnc, hcm, ?_, ?_⟩⟩
    · simp; omega
    · simp [hl]

def IndPost (w : World) (s d : List Nat) (K : Nat) (e : Ending) (w' : World) : Prop :=
  ∃ (g : Nat) (b : List Nat), e = .returned (.slice (some ⟨g, 0, none⟩) s.length s.length) ∧ Blk w' g 3 (natsC b) ∧ w.heap.size ≤ g ∧ Sa.Induced s d K (b.map fun v : Nat => (v : Int)) ∧ Below w.heap.size w w'

set_option maxRecDepth 100000 in
set_option maxHeartbeats 4000000 in
theorem induce_any (w : World) (p : Nat) (s d : List Nat) (K : Nat) (hf : Frm w p s K) (hm : s.length ≤ 131072) (hk : K ≤ 200000) (z : Sa.Lay s d K) (D : Option Addr) (c' : Nat) (hd : Rds w D (natsC d)) :
    Calls Try.prog 119 #[.pointer (some ⟨p, 0, none⟩), .slice D d.length c'] w (IndPost w s d K) := by
  obtain ⟨A, c, a1, a2, a3, a4, c4, a5, xs3, h0, h1, h2, h3, h4, h5, r0, r1, r2, r3, r4, r5, h6, h7⟩ := hf.out
  obtain ⟨a3', rfl⟩ : ∃ x, a3 = some x := by obtain ⟨x, e, _⟩ := r3 0 _ (List.getElem?_eq_getElem (show 0 < (natsC xs3).length by simp [h6])); exact ⟨x, e⟩
  have HK0 := Lib.hid h0
  have HK1 := Lib.hid h1
  have HK2 := Lib.hid h2
  have HK3 := Lib.hid h3
  have HR0 := Lib.hid r0
  have HR1 := Lib.hid r1
  have HR2 := Lib.hid r2
  have HR3 := Lib.hid r3
  have HD := Lib.hid hd
  have HX3 := Lib.hid h6
  have HX4 := Lib.hid h7
  have hpos := z.pos
  have hdl : d.length ≤ s.length := by have := Sa.nodup_len z.nod (m := List.range s.length) (fun x hx => List.mem_range.2 ((z.mem x).1 hx).2.1); simpa using this
  have hmn := mk_ints s.length (by omega)
  clear h0 h1 h2 h3 h4 h5 r0 r1 r2 r3 r4 r5 h6 h7 hd
  go_enter Try.func119, Try.ntmps119
  go_upto_region 1 with (fail)
  obtain ⟨w1, hw1⟩ : ∃ w1, w1 = w.alloc (.cells #[.pointer (some ⟨p, 0, none⟩)] 182) := ⟨_, rfl⟩
  have hb2 : Blk w1 w.heap.size 182 [.pointer (some ⟨p, 0, none⟩)] := by rw [hw1]; exact Blk.new _ _ _
  have hbe : Below w.heap.size w w1 := by rw [hw1]; exact (Below.refl _ _).alloc (Nat.le_refl _) _
  have hs1 : w1.heap.size = w.heap.size + 1 := by rw [hw1]; simp
  rw [← hw1]
  have HS1 := Lib.hid hs1
  clear hw1 hs1
  have kp := cell_ext hbe (Nat.le_refl _) HK0.out
  have k2 := hb2.cell (o := 0) rfl
  go_upto_region 3 with (fail)
  obtain ⟨w2, hw2⟩ : ∃ w2, w2 = (w1.alloc (.cells (Array.replicate s.length (.int .i64 0)) 3)).alloc (.cells #[.slice (some ⟨w1.heap.size, 0, none⟩) s.length s.length] 57) := ⟨_, rfl⟩
  have hP : IndP w w2 p w1.heap.size w.heap.size (w1.heap.size + 1) s.length (List.replicate s.length 0) := by
    rw [hw2]
    exact ⟨(hb2.allocA _).allocA _, Blk.newL _ _ _ _ _ (by simp) rfl, (Blk.newL _ _ _ _ _ rfl (by simp [intsV])).allocA _, Nat.le_refl _, by have := HS1.out; omega, by have := HS1.out; omega, Below.allocA (Below.allocA hbe (Nat.le_refl _) _) (Nat.le_refl _) _⟩
  rw [← hw2]
  clear hw2 hbe hb2 kp k2 hmn HS1
  generalize w1.heap.size + 1 = b6 at *
  generalize w1.heap.size = ga at *
  generalize w.heap.size = b2 at hP ⊢
  have k6 := hP.c6.cell (o := 0) rfl
  go_wp2
  clear k6
  go_loopw [26] (fun i wr => ∃ (m : Nat) (a : List Int), i = .int .i64 (m : Int) ∧ m ≤ s.length ∧ Hid (a.length = s.length) ∧ Hid (∀ j, j < m → a[j]? = some (-1)) ∧ IndP w wr p ga b2 b6 s.length a) (fun i _ => s.length - (intOf i).toNat)
  case atStart => exact ⟨0, _, rfl, by omega, Lib.hid (by simp), Lib.hid (fun j hj => by omega), hP⟩
  case round =>
    clear hP
    obtain ⟨m, a, rfl, hmn, HAL, HA, hP⟩ := hrel
    by_cases h0 : m < s.length
    · have h0i : (m : Int) < (s.length : Int) := by omega
      have hm0 : (0 : Int) ≤ (m : Int) := by omega
      have k6 := hP.c6.cell (o := 0) rfl
      obtain ⟨y, hy⟩ : ∃ y, a[m]? = some y := ⟨_, List.getElem?_eq_getElem (by rw [HAL.out]; exact h0)⟩
      have va := hP.ba.cell (intsV_at hy)
      have fa := hP.ba.froz m
      clear hy
      go_wp2
      go_roundw
      case rel =>
        refine ⟨m + 1, a.set m (-1), by go_num, by omega, Lib.hid (by rw [List.length_set]; exact HAL.out), Lib.hid (fun j hj => ?_), hP.setA m (-1)⟩
        rw [List.getElem?_set]
        by_cases e : m = j
        · subst e; simp [HAL.out, h0]
        · rw [if_neg e]; exact HA.out j (by omega)
      case measure => first | (simp [intOf]; done) | (simp [intOf]; omega)
    · obtain rfl : m = s.length := by omega
      have h0i : ¬ (s.length : Int) < (s.length : Int) := by omega
      have ha : a = List.replicate s.length (-1) := List.ext_getElem? (fun j => by
        by_cases hj : j < s.length
        · rw [HA.out j hj, List.getElem?_replicate, if_pos hj]
        · rw [List.getElem?_eq_none (by rw [HAL.out]; omega), List.getElem?_eq_none (by simp; omega)])
      subst ha
      have k2 := hP.c2.cell (o := 0) rfl
      have kp3 := cell_ext hP.bel (Nat.le_refl _) HK3.out
      have HR3' := Lib.hid (HR3.out.ext hP.bel (Nat.le_refl _))
      have hbz := Nat.le_refl wr.heap.size
      go_wp2_with (at_builtin; refine wp_app rfl _ _ 57 rfl wr.heap.size 3 (.int .i64 0) 1 8 Try.underlying57 info_int rfl (by decide) (by decide) (.slice none 0 0) 0 [] rfl (World.ownsRow_nil _ _ _ _) (some a3') (K + 1) (K + 1) (natsC xs3) rfl (fun e => by cases e) (by simp; exact HX3.out) HR3'.out (nats_one _) (by omega) hbz ?_; intro v' w3 hown' hg'; obtain ⟨A6, c6, rfl, _, _, p5, _, p7⟩ := own_rds hown'; have HO := Lib.hid hown'; have HG := Lib.hid hg'; clear hown' hg'; have HP7 := Lib.hid p7; have HP5 := Lib.hid p5; clear p5 p7)
      obtain ⟨gn, rfl, hgn⟩ : ∃ gn, A6 = some ⟨gn, 0, none⟩ ∧ gn < w3.heap.size := by
        cases hA : A6 with
        | none => have := (HP5.out hA).1; omega
        | some x => obtain ⟨g, rfl, _, h⟩ := HP7.out x hA; exact ⟨g, rfl, h⟩
      obtain ⟨w4, hw4⟩ : ∃ w4, w4 = w3.alloc (.cells #[.slice (some ⟨gn, 0, none⟩) (K + 1) c6] 57) := ⟨_, rfl⟩
      have hW : ∃ b8, b8 = w3.heap.size ∧ IndW w w4 p ga gn c6 b2 b6 b8 s.length K wr.heap.size (List.replicate s.length (-1)) xs3 := by
        have hg := HG.out
        have hb : Below wr.heap.size wr w3 := ⟨hg.os, hg.tape, hg.output, hg.size, fun k hk => hg.block k hk (by simp [Value.ownBlock])⟩
        have ho := HO.out
        rw [Nat.zero_add, List.nil_append] at ho
        have hs3 := hg.size
        have h6lt := hP.c6.lt
        have h8 := hP.bel.size
        refine ⟨_, rfl, ?_⟩
        rw [hw4]
        exact ⟨(hP.c2.ext hb (Nat.le_refl _)).allocA _, (hP.c6.ext hb (Nat.le_refl _)).allocA _, Blk.newL _ _ _ _ _ rfl rfl, (hP.ba.ext hb (Nat.le_refl _)).allocA _, own_ext ho ((Below.refl w3.heap.size w3).alloc (Nat.le_refl _) _) (Nat.le_refl _), hP.ba.lt, hP.h2, ⟨hP.h6, h6lt⟩, by omega, by omega, hP.ha, Below.allocA (hP.bel.trans (hb.mono h8)) (Nat.le_refl _) _⟩
      rw [← hw4]
      obtain ⟨b8, hb8, hW⟩ := hW
      rw [← hb8]
      generalize wr.heap.size = B at *
      clear hw4 hb8 HO HG HP5 HP7 hgn hP k2 kp3 HR3' hbz HA HAL
      go_loopw [40] (fun i wr => ∃ (m : Nat) (a : List Int) (nx : List Nat) (nxf src : Nat → Nat), i = .int .i64 (m : Int) ∧ m ≤ d.length ∧ Sa.P0 s d K m a nxf src ∧ NxT nx K nxf ∧ IndW w wr p ga gn c6 b2 b6 b8 s.length K B a nx) (fun i _ => d.length - (intOf i).toNat)
      case atStart => exact ⟨0, _, xs3, _, _, rfl, by omega, Sa.P0.init z, ⟨HX3.out, HX4.out⟩, hW⟩
      case round =>
        clear hW
        obtain ⟨m, a, nx, nxf, src, rfl, hmd, hP0, hNX, hW⟩ := hrel
        by_cases hd : m < d.length
        · have hdi : (m : Int) < (d.length : Int) := by omega
          have hv : d[m]? = some d[m] := List.getElem?_eq_getElem hd
          generalize d[m] = v at *
          have hrm := hP0.room z hv
          have hle := Sa.lo_le s (Sa.sy s v + 1)
          have HP1 := Lib.hid (hP0.put z hv)
          have HNX1 := Lib.hid (hNX.put (Sa.sy s v))
          obtain ⟨D', rfl, cd⟩ := (HD.out.ext hW.bel (Nat.le_refl _)) m _ (natsC_at hv)
          have kp := cell_ext hW.bel (Nat.le_refl _) HK0.out
          obtain ⟨aa, rfl, c1⟩ := (HR0.out.ext hW.bel (Nat.le_refl _)) v _ (natsC_at (v := Sa.sy s v) (by rw [List.getElem?_eq_getElem hrm.2.1]; simp [Sa.sy, List.getD_eq_getElem?_getD, hrm.2.1]))
          obtain ⟨y, hy⟩ : ∃ y, a[nxf (Sa.sy s v)]? = some y := ⟨_, List.getElem?_eq_getElem (by rw [hP0.len]; omega)⟩
          have HY := Lib.hid hy
          have HQ := Lib.hid (hNX.2 (Sa.sy s v) hrm.1)
          have HHV := Lib.hid hv
          have hvl := hrm.2.1
          have hxK := hrm.1
          have hql : nxf (Sa.sy s v) < s.length := by omega
          clear hv hy hP0 hNX hrm hle
          generalize hsx : Sa.sy s v = x at *
          generalize hnq : nxf x = q at *
          have HSX := Lib.hid hsx
          clear hsx
          have HNQ := Lib.hid hnq
          clear hnq
          have hvi : (v : Int) < (s.length : Int) := by omega
          have hv0 : (0 : Int) ≤ (v : Int) := by omega
          have hxi : (x : Int) < (K : Int) + 1 := by omega
          have hx0 : (0 : Int) ≤ (x : Int) := by omega
          have hqi : (q : Int) < (s.length : Int) := by omega
          have hq0 : (0 : Int) ≤ (q : Int) := by omega
          go_wp2
          have HW := hW
          have k2 := HW.c2.cell (o := 0) rfl
          have k6 := HW.c6.cell (o := 0) rfl
          have k8 := HW.c8.cell (o := 0) rfl
          have vn := (HW.own.cellAt x (by omega)).trans (natsC_at HQ.out)
          have fn := HW.own.frozenAt x
          have va := hW.ba.cell (intsV_at HY.out)
          have fa := hW.ba.froz q
          refine wp_region_qtail 13 (by kernel_rfl) (by kernel_rfl) ?_
          simp only [List.take_succ_cons, List.take_zero, List.drop_succ_cons, List.drop_zero]
          repeat (go_big_quiet_step (fail))
          refine wpQuiet_nil ?_
          go_upto_region 13 with (fail)
          have hW2 := (hW.drewN 1).setA q (v : Int)
          obtain ⟨wY, hwY⟩ : ∃ wY, wY = (wr.drewN 1).setCell ⟨ga, q, none⟩ (.int .i64 (v : Int)) := ⟨_, rfl⟩
          rw [← hwY] at hW2 ⊢
          clear hwY k2 k6 k8 vn fn va fa kp c1 HW hW cd
          have HW := hW2
          have k2 := HW.c2.cell (o := 0) rfl
          have k6 := HW.c6.cell (o := 0) rfl
          have k8 := HW.c8.cell (o := 0) rfl
          have vn := (HW.own.cellAt x (by omega)).trans (natsC_at HQ.out)
          have fn := HW.own.frozenAt x
          have kp := cell_ext hW2.bel (Nat.le_refl _) HK0.out
          obtain ⟨aa', e', c1⟩ := (HR0.out.ext hW2.bel (Nat.le_refl _)) v _ (natsC_at (v := x) (by rw [List.getElem?_eq_getElem hvl, ← HSX.out]; simp [Sa.sy, List.getD_eq_getElem?_getD, hvl]))
          obtain rfl := Option.some.inj e'
          clear e'
          refine wp_region_qtail 12 (by kernel_rfl) (by kernel_rfl) ?_
          simp only [List.take_succ_cons, List.take_zero, List.drop_succ_cons, List.drop_zero]
          repeat (go_big_quiet_step (fail))
          refine wpQuiet_nil ?_
          go_wp2
          go_roundw
          case rel =>
            refine ⟨m + 1, _, _, _, _, by go_num, by omega, HP1.out, HNX1.out, ?_⟩
            have h := (hW2.drewN 1).setN x (q + 1)
            rw [show ((q + 1 : Nat) : Int) = (q : Int) + 1 by omega] at h
            exact h
          case measure => first | (simp [intOf]; done) | (simp [intOf]; omega)
        · obtain rfl : m = d.length := by omega
          have hdi : ¬ (d.length : Int) < (d.length : Int) := by omega
          have hA0 := hP0.toA0 z
          have HNXL := Lib.hid hNX.1
          clear hP0 hNX
          have k2 := hW.c2.cell (o := 0) rfl
          have k8 := hW.c8.cell (o := 0) rfl
          have kp2 := cell_ext hW.bel (Nat.le_refl _) HK2.out
          obtain ⟨cur, hcur, hcs, hrow⟩ := (hW.drewN 1).row
          have HCUR := Lib.hid hcur
          have HROW := Lib.hid (hrow ((List.range (K + 1)).map (Sa.lo s)) (by simp))
          clear hcur hrow
          obtain ⟨a2', rfl⟩ : ∃ x, a2 = some x := by obtain ⟨x, e, _⟩ := HR2.out 0 _ (List.getElem?_eq_getElem (show 0 < (natsC ((List.range (K + 1)).map (Sa.lo s))).length by simp)); exact ⟨x, e⟩
          go_wp2
          refine wp_region_qtail 5 (by kernel_rfl) (by kernel_rfl) ?_
          simp only [List.take_succ_cons, List.take_zero, List.drop_succ_cons, List.drop_zero]
          repeat (go_big_quiet_step (fail))
          refine wpQuiet_nil ?_
          refine wpList_copy_own (w := wr.drewN 1) rfl _ _ 57 57 rfl 3 Try.underlying57 (by kernel_rfl) gn 0 (K + 1) c6 a2' (K + 1) (K + 1) rfl rfl cur 3 HCUR.out (natsC ((List.range (K + 1)).map (Sa.lo s))) (by simp) ?_ (by simp; omega) (nats_one _) ?_
          · intro j v hv
            obtain ⟨x, e, hx⟩ := (HR2.out.ext hW.bel (Nat.le_refl _)) j v hv
            obtain rfl := Option.some.inj e
            exact hx
          have hW3 := HROW.out
          generalize World.setRow _ _ _ = wY at hW3 ⊢
          clear hW k2 k8 kp2 HCUR HROW HNXL
          have hL0 := Sa.LInv.init hA0
          have hN0 : NxT ((List.range (K + 1)).map (Sa.lo s)) K (Sa.lo s) := ⟨by simp, fun c hc => by rw [List.getElem?_map, List.getElem?_range (by omega)]; rfl⟩
          have hx0 := z.sym (s.length - 1) (by omega)
          have hq0 : Sa.lo s (Sa.sy s (s.length - 1)) < s.length := by
            obtain ⟨u, hu, _⟩ := hL0.fill _ hx0 _ (Nat.le_refl _) (by rw [if_pos rfl]; omega)
            have := (List.getElem?_eq_some_iff.1 hu).1
            rwa [List.length_set, hA0.len] at this
          have HPUT := Lib.hid (put_any w wY p ga gn c6 b2 b6 b8 K B s a _ hW3 hf hm hk (s.length - 1) (by omega) hx0 _ (hN0.2 _ hx0) hq0 hA0.len hN0.1)
          rw [show ((s.length - 1 : Nat) : Int) = (s.length : Int) - 1 by omega] at HPUT
          have HN1 := Lib.hid (hN0.put (Sa.sy s (s.length - 1)))
          have HL0 := Lib.hid hL0
          rw [show ((s.length - 1 : Nat) : Int) = (s.length : Int) - 1 by omega] at HL0
          clear hL0 hN0 hx0 hq0
          go_wp2_with fail
          refine HPUT.out.mono ?_
          rintro e w5 ⟨rfl, hW⟩
          clear HPUT hW3
          have k6 := hW.c6.cell (o := 0) rfl
          go_wp2
          clear k6
          go_loopw [83] (fun i wr => ∃ (m : Nat) (a' : List Int) (nx : List Nat) (nxf src : Nat → Nat), i = .int .i64 (m : Int) ∧ m ≤ s.length ∧ Sa.LInv s d K a m a' nxf src ∧ NxT nx K nxf ∧ IndW w wr p ga gn c6 b2 b6 b8 s.length K B a' nx) (fun i _ => s.length - (intOf i).toNat)
          case atStart => exact ⟨0, _, _, _, _, rfl, by omega, HL0.out, HN1.out, hW⟩
          case round =>
            clear hW HL0 HN1
            obtain ⟨m, al, nx, nxf, src, rfl, hmn, hL, hNX, hW⟩ := hrel
            by_cases hmn2 : m < s.length
            · have hmi : (m : Int) < (s.length : Int) := by omega
              have hm0 : (0 : Int) ≤ (m : Int) := by omega
              obtain ⟨Y, hY⟩ : ∃ y, al[m]? = some y := ⟨_, List.getElem?_eq_getElem (by rw [hL.len]; exact hmn2)⟩
              have k2 := hW.c2.cell (o := 0) rfl
              have k6 := hW.c6.cell (o := 0) rfl
              have va := hW.ba.cell (intsV_at hY)
              have kp := cell_ext hW.bel (Nat.le_refl _) HK1.out
              by_cases hy1 : 1 ≤ Y
              · obtain ⟨v, hv⟩ : ∃ v : Nat, Y = ((v + 1 : Nat) : Int) := ⟨(Y - 1).toNat, by omega⟩
                have hY2 := hY
                rw [hv] at hY2
                have hvn := (hL.at hA0 hY2).1
                obtain ⟨aa, rfl, c1⟩ := (HR1.out.ext hW.bel (Nat.le_refl _)) v _ (boolsC_at (smL_at s v (by omega)))
                have hyv : Y - 1 = (v : Int) := by omega
                have hy2 : Y ≤ (s.length : Int) := by omega
                have hyt : (Y - 1).toNat = v := by omega
                have hy3 : (0 : Int) ≤ Y - 1 := by omega
                have hy4 : Y - 1 < (s.length : Int) := by omega
                have HYV := Lib.hid hyv
                cases hs : Sa.sm s v with
                | true =>
                  have HL1 := Lib.hid (hL.skip (fun u hu => by
                    rw [hY2] at hu; injection hu with hu
                    obtain rfl : v = u := by omega
                    exact hs))
                  rw [hs] at c1
                  clear hY hY2 hv hyv hs hL
                  go_wp2
                  go_roundw
                  case rel => exact ⟨m + 1, _, _, _, _, by go_num, by omega, HL1.out, hNX, hW⟩
                  case measure => first | (simp [intOf]; done) | (simp [intOf]; omega)
                | false =>
                  have hrm := hL.room hA0 hY2 hs
                  have HL1 := Lib.hid (hL.put hA0 hY2 hs)
                  have HN1 := Lib.hid (hNX.put (Sa.sy s v))
                  have hmid := Sa.mid_le s (Sa.sy s v)
                  have hle := Sa.lo_le s (Sa.sy s v + 1)
                  have HPUT := Lib.hid (put_any w wr p ga gn c6 b2 b6 b8 K B s al _ hW hf hm hk v hrm.1 hrm.2.1 _ (hNX.2 _ hrm.2.1) (by omega) hL.len hNX.1)
                  rw [← HYV.out] at HPUT
                  rw [hs] at c1
                  clear hY hY2 hv hyv hs hL hrm hmid hle
                  go_wp2_with fail
                  refine HPUT.out.mono ?_
                  rintro e w6 ⟨rfl, hW2⟩
                  clear HPUT k2 k6 va kp c1
                  go_wp2
                  go_roundw
                  case rel => exact ⟨m + 1, _, _, _, _, by go_num, by omega, HL1.out, HN1.out, by rw [← HYV.out]; exact hW2⟩
                  case measure => first | (simp [intOf]; done) | (simp [intOf]; omega)
              · have HL1 := Lib.hid (hL.skip (fun u hu => by
                  rw [hY] at hu; injection hu with hu
                  omega))
                clear hY hL kp
                go_wp2
                go_roundw
                case rel => exact ⟨m + 1, _, _, _, _, by go_num, by omega, HL1.out, hNX, hW⟩
                case measure => first | (simp [intOf]; done) | (simp [intOf]; omega)
            · obtain rfl : m = s.length := by omega
              have hmi : ¬ (s.length : Int) < (s.length : Int) := by omega
              have hE := hL.toEnd hA0
              have HLA := Lib.hid hL
              have HNXL := Lib.hid hNX.1
              clear hL hNX
              have k2 := hW.c2.cell (o := 0) rfl
              have k8 := hW.c8.cell (o := 0) rfl
              have kp2 := cell_ext hW.bel (Nat.le_refl _) HK2.out
              obtain ⟨cur, hcur, hcs, hrow⟩ := (hW.drewN 1).row
              have HCUR := Lib.hid hcur
              have HROW := Lib.hid (hrow ((List.range (K + 1)).map (Sa.lo s)) (by simp))
              clear hcur hrow
              go_wp2
              refine wp_region_qtail 5 (by kernel_rfl) (by kernel_rfl) ?_
              simp only [List.take_succ_cons, List.take_zero, List.drop_succ_cons, List.drop_zero]
              repeat (go_big_quiet_step (fail))
              refine wpQuiet_nil ?_
              refine wpList_copy_own (w := wr.drewN 1) rfl _ _ 57 57 rfl 3 Try.underlying57 (by kernel_rfl) gn 0 (K + 1) c6 a2' (K + 1) (K + 1) rfl rfl cur 3 HCUR.out (natsC ((List.range (K + 1)).map (Sa.lo s))) (by simp) ?_ (by simp; omega) (nats_one _) ?_
              · intro j v hv
                obtain ⟨x, e, hx⟩ := (HR2.out.ext hW.bel (Nat.le_refl _)) j v hv
                obtain rfl := Option.some.inj e
                exact hx
              have hW3 := HROW.out
              generalize World.setRow _ _ _ = wY at hW3 ⊢
              clear hW k2 k8 kp2 HCUR HROW HNXL
              have hN0 : NxE ((List.range (K + 1)).map (Sa.lo s)) K (fun c => Sa.lo s (c + 1)) := ⟨by simp, fun c hc => by rw [List.getElem?_map, List.getElem?_range (by omega)]; rfl⟩
              have hS0 := Sa.SInv.init hE (fun _ => 0)
              go_wp2
              go_loopw [14] (fun i wr => ∃ (zz : Int) (m : Nat) (a' : List Int) (nx : List Nat) (ef src : Nat → Nat), i = .int .i64 zz ∧ Hid (zz = (m : Int) - 1) ∧ m ≤ s.length ∧ -1 ≤ zz ∧ zz < s.length ∧ Sa.SInv s K al m a' ef src ∧ NxE nx K ef ∧ IndW w wr p ga gn c6 b2 b6 b8 s.length K B a' nx) (fun i _ => (intOf i + 1).toNat)
              case atStart => exact ⟨_, s.length, _, _, _, _, rfl, Lib.hid rfl, by omega, by omega, by omega, hS0, hN0, hW3⟩
              case round =>
                clear hW3 hS0 hN0
                obtain ⟨zz, j, a', nx, ef, src, rfl, HZ, hjn, hz1, hz2, hS, hNX, hW⟩ := hrel
                by_cases hz0 : 0 ≤ zz
                · obtain ⟨m, rfl⟩ : ∃ m : Nat, zz = m := ⟨zz.toNat, by omega⟩
                  obtain rfl : j = m + 1 := by have := HZ.out; omega
                  have hmn2 : m < s.length := by omega
                  have gi := hS.seen' hE hmn2
                  obtain ⟨u, hY, hun, _⟩ := hS.at hE gi
                  have k2 := hW.c2.cell (o := 0) rfl
                  have k6 := hW.c6.cell (o := 0) rfl
                  have va := hW.ba.cell (intsV_at hY)
                  have kp := cell_ext hW.bel (Nat.le_refl _) HK1.out
                  clear gi HZ
                  by_cases hy1 : 1 ≤ u
                  · obtain ⟨v, rfl⟩ : ∃ v : Nat, u = v + 1 := ⟨u - 1, by omega⟩
                    obtain ⟨aa, rfl, c1⟩ := (HR1.out.ext hW.bel (Nat.le_refl _)) v _ (boolsC_at (smL_at s v (by omega)))
                    have hy1i : (1 : Int) ≤ ((v + 1 : Nat) : Int) := by omega
                    obtain ⟨Y, hYY⟩ : ∃ Y : Int, Y = ((v + 1 : Nat) : Int) := ⟨_, rfl⟩
                    rw [← hYY] at va hy1i
                    have hyv : Y - 1 = (v : Int) := by omega
                    have hy2 : Y ≤ (s.length : Int) := by omega
                    have hyt : (Y - 1).toNat = v := by omega
                    have hy3 : (0 : Int) ≤ Y - 1 := by omega
                    have hy4 : Y - 1 < (s.length : Int) := by omega
                    have HYV := Lib.hid hyv
                    clear hYY hyv
                    cases hs : Sa.sm s v with
                    | false =>
                      have HS1 := Lib.hid (hS.skip hE (fun u hu => by
                        rw [hY] at hu; injection hu with hu
                        obtain rfl : v = u := by omega
                        exact hs))
                      rw [hs] at c1
                      clear hY hs hS
                      go_wp2
                      go_roundw
                      case rel => exact ⟨(m : Int) - 1, m, _, _, _, _, rfl, Lib.hid rfl, by omega, by omega, by omega, HS1.out, hNX, hW⟩
                      case measure => first | (simp [intOf]; done) | (simp [intOf]; omega)
                    | true =>
                      have hrm := hS.room hE hmn2 hY hs
                      have HS1 := Lib.hid (hS.put hE hmn2 hY hs)
                      have HN1 := Lib.hid (hNX.put (Sa.sy s v))
                      have HQ0 := Lib.hid (hNX.2 (Sa.sy s v) hrm.2.1)
                      rw [hs] at c1
                      obtain ⟨a0, rfl, cs⟩ := (HR0.out.ext hW.bel (Nat.le_refl _)) v _ (natsC_at (v := Sa.sy s v) (by rw [List.getElem?_eq_getElem (show v < s.length by omega)]; simp [Sa.sy, List.getD_eq_getElem?_getD, show v < s.length by omega]))
                      have kp0 := cell_ext hW.bel (Nat.le_refl _) HK0.out
                      have hxK := hrm.2.1
                      obtain ⟨y, hy⟩ : ∃ y, a'[ef (Sa.sy s v) - 1]? = some y := ⟨_, List.getElem?_eq_getElem (by rw [hS.len]; omega)⟩
                      have HY := Lib.hid hy
                      have HNL := Lib.hid hNX.1
                      have hq1 : ef (Sa.sy s v) - 1 < m := hrm.2.2.2
                      have hq2 : 0 < ef (Sa.sy s v) := by omega
                      clear hY hs hS hNX hrm hy
                      obtain ⟨r, hr⟩ : ∃ r, ef (Sa.sy s v) = r + 1 := ⟨ef (Sa.sy s v) - 1, by omega⟩
                      have HR := Lib.hid hr
                      rw [hr, Nat.add_sub_cancel] at HS1 HN1 HY hq1
                      rw [hr] at HQ0
                      clear hr hq2
                      generalize hsx : Sa.sy s v = x at *
                      have HSX := Lib.hid hsx
                      clear hsx
                      have vn := (hW.own.cellAt (x + 1) (by omega)).trans (natsC_at HQ0.out)
                      have fn := hW.own.frozenAt (x + 1)
                      rw [show ((r + 1 : Nat) : Int) = (r : Int) + 1 by omega] at vn
                      have k8 := hW.c8.cell (o := 0) rfl
                      have hx0 : (0 : Int) ≤ (x : Int) := by omega
                      have hxi : (x : Int) < (K : Int) := by omega
                      go_upto_region 33 with (fail)
                      have hW2 := hW.setN (x + 1) r
                      obtain ⟨wY, hwY⟩ : ∃ wY, wY = wr.setCell ⟨gn, x + 1, none⟩ (.int .i64 (r : Int)) := ⟨_, rfl⟩
                      rw [← hwY] at hW2 ⊢
                      clear hwY k2 k6 k8 vn fn va kp kp0 c1 cs hW
                      have k6 := hW2.c6.cell (o := 0) rfl
                      have k8 := hW2.c8.cell (o := 0) rfl
                      have vn := (hW2.own.cellAt (x + 1) (by omega)).trans (natsC_at (show (nx.set (x + 1) r)[x + 1]? = some r by rw [List.getElem?_set]; simp [HNL.out, hxK]))
                      have fn := hW2.own.frozenAt (x + 1)
                      have va := hW2.ba.cell (intsV_at HY.out)
                      have fa := hW2.ba.froz r
                      have hri : (r : Int) < (s.length : Int) := by omega
                      have hr0 : (0 : Int) ≤ (r : Int) := by omega
                      have hwx : IntKind.i64.wrap ((x : Int) + 1) = (x : Int) + 1 := wrapI (by omega)
                      have hx1 : (0 : Int) ≤ (x : Int) + 1 := by omega
                      have hx2 : (x : Int) + 1 < (K : Int) + 1 := by omega
                      have hxt : ((x : Int) + 1).toNat = x + 1 := by omega
                      have hwy : IntKind.i64.wrap (Y - 1) = Y - 1 := wrapI (by omega)
                      have HW3 := Lib.hid ((hW2.drewN 1).setA r (v : Int))
                      rw [← HYV.out] at HW3
                      refine wp_region_qtail 8 (by kernel_rfl) (by kernel_rfl) ?_
                      simp only [List.take_succ_cons, List.take_zero, List.drop_succ_cons, List.drop_zero]
                      repeat (go_big_quiet_step (fail))
                      refine wpQuiet_nil ?_
                      go_wp2
                      go_roundw
                      case rel => exact ⟨(m : Int) - 1, m, _, _, _, _, rfl, Lib.hid rfl, by omega, by omega, by omega, HS1.out, HN1.out, by rw [← HYV.out]; exact HW3.out⟩
                      case measure => first | (simp [intOf]; done) | (simp [intOf]; omega)
                  · obtain rfl : u = 0 := by omega
                    have HS1 := Lib.hid (hS.skip hE (fun u hu => by
                      rw [hY] at hu; injection hu with hu
                      omega))
                    clear hY hS kp
                    go_wp2
                    go_roundw
                    case rel => exact ⟨(m : Int) - 1, m, _, _, _, _, rfl, Lib.hid rfl, by omega, by omega, by omega, HS1.out, hNX, hW⟩
                    case measure => first | (simp [intOf]; done) | (simp [intOf]; omega)
                · have k6 := hW.c6.cell (o := 0) rfl
                  obtain rfl : j = 0 := by have := HZ.out; omega
                  clear HZ
                  go_wp2
                  go_ret
                  have hI : Sa.Induced s d K a' := ⟨a, al, nxf, _, ef, src, hA0, HLA.out, hS⟩
                  obtain ⟨b, hb, _⟩ := hI.nat
                  subst hb
                  refine ⟨ga, b, rfl, ?_, hW.ha, hI, hW.bel⟩
                  have h := hW.ba
                  rwa [← natsC_ints] at h
end Go.Proofs.Ytjpcfpffbicpnaa

end
section
set_option linter.unusedVariables false
set_option linter.unusedSimpArgs false
namespace Go.Proofs.Ytjpcfpffbicpnaa
open Go.RowKit Lec
def NamesPost (w : World) (s : List Nat) (e : Ending) (w' : World) : Prop :=
  ∃ (g : Nat) (l o : List Nat), e = .returned (.tuple #[.slice (some ⟨g, 0, none⟩) (Sa.lmsL s).length (Sa.lmsL s).length, .int .i64 ((Sa.nm s o ((Sa.lmsL s).length - 1) + 1 : Nat) : Int)]) ∧ Blk w' g 3 (natsC l) ∧ w.heap.size ≤ g ∧ Below w.heap.size w w' ∧
    l.length = (Sa.lmsL s).length ∧ Sa.Ord s o ∧ (∀ i v, o[i]? = some v → l[Sa.idx s v]? = some (Sa.nm s o i))

set_option maxRecDepth 100000 in
set_option maxHeartbeats 4000000 in
theorem names_any (w : World) (p : Nat) (s : List Nat) (K : Nat) (hf : Frm w p s K) (hm : s.length ≤ 131072) (hk : K ≤ 200000) (hpos : 0 < s.length) (hks : ∀ i, i < s.length → Sa.sy s i < K) :
    Calls Try.prog 118 #[.pointer (some ⟨p, 0, none⟩)] w (NamesPost w s) := by
  obtain ⟨A, c, a1, a2, a3, a4, c4, a5, xs3, h0, h1, h2, h3, h4, h5, r0, r1, r2, r3, r4, r5, h6, h7⟩ := hf.out
  have HIND := Lib.hid (induce_any w p s (Sa.lmsL s) K hf hm hk (Sa.layL hpos hks) a4 c4 r4)
  have HF := Lib.hid hf
  have HK4 := Lib.hid h4
  have HK5 := Lib.hid h5
  have HR5 := Lib.hid r5
  clear h0 h1 h2 h3 h5 r0 r1 r2 r3 r4 r5 h6 h7 hf
  have hhalf := Sa.lmsL_half s
  go_enter Try.func118, Try.ntmps118
  go_wp2_with fail
  refine HIND.out.mono ?_
  rintro e w1 ⟨g, b, rfl, hb, hg, hI, hbel⟩
  clear HIND h4
  obtain ⟨b', e1, e2, e3, e4⟩ := hI.nat
  have hbb : b' = b := by
    have := List.map_inj_right (f := fun v : Nat => (v : Int)) (fun x y h => by have h' : (x : Int) = (y : Int) := h; omega) |>.1 e1
    exact this.symm
  subst hbb
  have HORD := Lib.hid hI.ord
  have HBL := Lib.hid e2
  have HB4 := Lib.hid e4
  have hbz := Nat.le_refl w1.heap.size
  clear hI e1 e3 e4 e2
  go_wp2
  go_loopw [4, 18] (fun v i wr => ∃ (m : Nat) (A4 : Option Addr) (c4 : Nat), i = .int .i64 (m : Int) ∧ m ≤ s.length ∧ v = .slice A4 ((b'.take m).filter (Sa.lmsB s)).length c4 ∧ Hid (wr.ownsRow w1.heap.size 3 1 v ((b'.take m).filter (Sa.lmsB s)).length (natsC ((b'.take m).filter (Sa.lmsB s)))) ∧ Below w1.heap.size w1 wr) (fun _ i _ => s.length - (intOf i).toNat)
  case atStart => exact ⟨0, none, 0, rfl, by omega, rfl, Lib.hid (World.ownsRow_nil _ _ _ _), Below.refl _ _⟩
  case round =>
    obtain ⟨m, A4, c4', rfl, hmn, rfl, HO, hbe⟩ := hrel
    have hlen : ((b'.take m).filter (Sa.lmsB s)).length ≤ m := Nat.le_trans (List.length_filter_le _ _) (by rw [List.length_take]; omega)
    by_cases hm2 : m < s.length
    · have hmi : (m : Int) < (s.length : Int) := by omega
      have hm0 : (0 : Int) ≤ (m : Int) := by omega
      have hmb : m < b'.length := by rw [HBL.out]; exact hm2
      have vb := (hb.ext hbe (Nat.le_refl _)).cell (natsC_at (List.getElem?_eq_getElem hmb))
      have hv := HB4.out _ (List.getElem_mem hmb)
      have HT : Hid ((b'.take (m + 1)).filter (Sa.lmsB s) = (b'.take m).filter (Sa.lmsB s) ++ (if Sa.lmsB s b'[m] = true then [b'[m]] else [])) := Lib.hid (by rw [List.take_succ_eq_append_getElem hmb, List.filter_append]; cases h : Sa.lmsB s b'[m] <;> simp [h])
      generalize b'[m] = v at *
      have hbw := hbel.trans (hbe.mono hbel.size)
      have kp := cell_ext hbw (Nat.le_refl _) HK5.out
      have hvi : (v : Int) < (s.length : Int) + 1 := by omega
      have hv0 : (0 : Int) ≤ (v : Int) := by omega
      obtain ⟨aa, rfl, c1⟩ := (HR5.out.ext hbw (Nat.le_refl _)) v _ (intsV_at (v := numb s v) (by rw [List.getElem?_map, List.getElem?_range (by omega)]; rfl))
      have hbz2 : w1.heap.size ≤ wr.heap.size := hbe.size
      cases hl : Sa.lmsB s v with
      | true =>
        have hnn : numb s v = (Sa.idx s v : Int) := by unfold numb; rw [if_pos hl]
        rw [hnn] at c1
        have HT2 : Hid ((b'.take (m + 1)).filter (Sa.lmsB s) = (b'.take m).filter (Sa.lmsB s) ++ [v]) := Lib.hid (by rw [HT.out, if_pos hl])
        have hix : (0 : Int) ≤ (Sa.idx s v : Int) := by omega
        generalize hFL : (b'.take m).filter (Sa.lmsB s) = fl at *
        have HFL := Lib.hid hFL
        clear hnn hl hFL hbw HT
        generalize Sa.idx s v = ix at *
        go_wp2_with (at_builtin; refine wp_app1 (w0 := wr) rfl rfl _ _ 57 rfl w1.heap.size 3 (.int .i64 0) 1 8 Try.underlying57 info_int rfl (by decide) (by decide) _ fl.length _ rfl HO.out rfl rfl (one_cell1 rfl) (by omega) hbz2 ?_; intro v' w2 hown' hg' hb'; obtain ⟨A6, c6, rfl, _, _, _, _, _⟩ := own_rds hown'; have HO2 := Lib.hid hown'; have HB2 := Lib.hid hb'; clear hown' hg' hb')
        go_roundw
        case rel =>
          refine ⟨m + 1, A6, c6, by go_num, by omega, ?_, ?_, hbe.trans HB2.out⟩
          · rw [HT2.out]; simp
          · rw [HT2.out]; have h := HO2.out; simpa [natsC] using Lib.hid h
        case measure => first | (simp [intOf]; done) | (simp [intOf]; omega)
      | false =>
        have hnn : numb s v = -1 := by unfold numb; rw [if_neg (by rw [hl]; exact Bool.false_ne_true)]
        rw [hnn] at c1
        have HT2 : Hid ((b'.take (m + 1)).filter (Sa.lmsB s) = (b'.take m).filter (Sa.lmsB s)) := Lib.hid (by rw [HT.out, if_neg (by rw [hl]; exact Bool.false_ne_true), List.append_nil])
        clear hnn hl hbw HT
        go_wp2
        go_roundw
        case rel =>
          refine ⟨m + 1, A4, c4', by go_num, by omega, ?_, ?_, hbe⟩
          · rw [HT2.out]
          · rw [HT2.out]; exact HO
        case measure => first | (simp [intOf]; done) | (simp [intOf]; omega)
    · obtain rfl : m = s.length := by omega
      have hmi : ¬ (s.length : Int) < (s.length : Int) := by omega
      have hT : b'.take s.length = b' := List.take_of_length_le (by rw [HBL.out]; exact Nat.le_refl _)
      rw [hT] at HO hlen ⊢
      have hol := HORD.out.len
      generalize b'.filter (Sa.lmsB s) = o at *
      have hbw := hbel.trans (hbe.mono hbel.size)
      have hlw := hbw.size
      obtain ⟨A5, c5, he5, _, _, _, r5', _⟩ := own_rds HO.out
      obtain ⟨rfl, _, rfl⟩ := Value.slice.inj he5
      have HRO := Lib.hid r5'
      have hmk := mk_ints o.length (by omega)
      have HOL := Lib.hid hol
      clear hol
      clear he5 r5' HO hb hbe hbz
      go_wp2
      obtain ⟨w2, hw2⟩ : ∃ w2, w2 = wr.alloc (.cells (Array.replicate o.length (.int .i64 0)) 3) := ⟨_, rfl⟩
      have hb2 : Blk w2 wr.heap.size 3 (natsC (List.replicate o.length 0)) := by rw [hw2]; exact Blk.newL _ _ _ _ _ rfl (by simp [natsC])
      have hbe2 : Below wr.heap.size wr w2 := by rw [hw2]; exact (Below.refl _ _).alloc (Nat.le_refl _) _
      rw [← hw2]
      clear hw2 hmk
      generalize hG : wr.heap.size = G at *
      have HG := Lib.hid hG
      clear hG
      obtain ⟨w0, rfl⟩ : ∃ x, x = wr := ⟨wr, rfl⟩
      go_loopw [8, 40] (fun k i wx => ∃ (m : Nat) (l : List Nat), i = .int .i64 (m : Int) ∧ m ≤ o.length ∧ k = .int .i64 (Sa.nm s o (m - 1) : Int) ∧ Hid (l.length = o.length) ∧ Hid (∀ j v, j < m → o[j]? = some v → l[Sa.idx s v]? = some (Sa.nm s o j)) ∧ Blk wx G 3 (natsC l) ∧ Below G w0 wx) (fun _ i _ => o.length - (intOf i).toNat)
      case atStart => exact ⟨0, _, rfl, by omega, rfl, Lib.hid (by simp), Lib.hid (fun j v hj => by omega), hb2, hbe2⟩
      case round =>
        clear hb2 hbe2
        obtain ⟨m, l, rfl, hmo, rfl, HLL, HLN, hbl, hbe2⟩ := hrel
        have hbw2 : Below w.heap.size w wr := hbw.trans (hbe2.mono hlw)
        have HRO2 := Lib.hid (HRO.out.ext hbe2 (Nat.le_of_eq HG.out))
        by_cases hm3 : m < o.length
        · have hmi2 : (m : Int) < (o.length : Int) := by omega
          have hv : o[m]? = some o[m] := List.getElem?_eq_getElem hm3
          generalize o[m] = v at *
          have hLv := (HORD.out.mem v).1 (List.mem_iff_getElem?.2 ⟨m, hv⟩)
          obtain ⟨ao, rfl, co⟩ := HRO2.out m _ (natsC_at hv)
          have kp := cell_ext hbw2 (Nat.le_refl _) HK5.out
          obtain ⟨aa, rfl, c1⟩ := (HR5.out.ext hbw2 (Nat.le_refl _)) v _ (intsV_at (v := (Sa.idx s v : Int)) (by rw [List.getElem?_map, List.getElem?_range (by have := hLv.2.1; omega)]; simp [numb, (Sa.lmsB_iff s v).2 hLv]))
          have hvl := hLv.2.1
          have hvi : (v : Int) < (s.length : Int) + 1 := by omega
          have hv0 : (0 : Int) ≤ (v : Int) := by omega
          have hix := Sa.idx_lt hLv
          have hixn : Sa.idx s v < o.length := by rw [HOL.out]; exact hix
          have hixi : (Sa.idx s v : Int) < (o.length : Int) := by omega
          have hix0 : (0 : Int) ≤ (Sa.idx s v : Int) := by omega
          obtain ⟨y, hy⟩ : ∃ y, l[Sa.idx s v]? = some y := ⟨_, List.getElem?_eq_getElem (by rw [HLL.out]; exact hixn)⟩
          have HLN2 : Hid (∀ j u, j < m + 1 → o[j]? = some u → (l.set (Sa.idx s v) (Sa.nm s o m))[Sa.idx s u]? = some (Sa.nm s o j)) := Lib.hid (fun j u hj hu => by
            rw [List.getElem?_set]
            by_cases e : j = m
            · subst e
              obtain rfl : v = u := by rw [hv] at hu; injection hu
              simp [HLL.out, hixn]
            · have hne : Sa.idx s v ≠ Sa.idx s u := fun h => by
                have hLu := (HORD.out.mem u).1 (List.mem_iff_getElem?.2 ⟨j, hu⟩)
                have h1 := Sa.idx_at hLv
                have h2 := Sa.idx_at hLu
                rw [h, h2] at h1
                injection h1 with h1
                subst h1
                have hn := HORD.out.nod
                rw [List.nodup_iff_pairwise_ne, List.pairwise_iff_getElem] at hn
                obtain ⟨a1, b1⟩ := List.getElem?_eq_some_iff.1 hv
                obtain ⟨a2, b2⟩ := List.getElem?_eq_some_iff.1 hu
                exact hn j m a2 a1 (by omega) (b2.trans b1.symm)
              rw [if_neg hne]
              exact HLN.out j u (by omega) hu)
          have HLL2 : Hid ((l.set (Sa.idx s v) (Sa.nm s o m)).length = o.length) := Lib.hid (by rw [List.length_set]; exact HLL.out)
          have HY := Lib.hid hy
          have HHV := Lib.hid hv
          have hnm := Sa.nm_le s o m
          have hnm1 := Sa.nm_le s o (m - 1)
          clear hv hy hix
          by_cases hm0 : m = 0
          · have HE0 : Hid (Sa.nm s o m = Sa.nm s o (m - 1)) := Lib.hid (by rw [hm0])
            have hmz : ¬ (0 : Int) < (m : Int) := by omega
            clear hm0
            have vl := hbl.cell (natsC_at HY.out)
            have fl := hbl.froz (Sa.idx s v)
            have hb3 := hbl.set (Sa.idx s v) (.int .i64 (Sa.nm s o m : Int))
            rw [← natsC_set] at hb3
            have HB3 := Lib.hid hb3
            rw [HE0.out] at HB3
            clear hb3 hbl
            generalize Sa.nm s o (m - 1) = k0 at *
            generalize Sa.idx s v = ix at *
            go_wp2
            go_roundw
            case rel => exact ⟨m + 1, _, by go_num, by omega, by rw [← HE0.out]; rfl, HLL2, HLN2, by rw [HE0.out]; exact HB3.out, hbe2.setCell (Nat.le_refl _) _⟩
            case measure => first | (simp [intOf]; done) | (simp [intOf]; omega)
          · have hmz : (0 : Int) < (m : Int) := by omega
            have hu : o[m - 1]? = some o[m - 1] := List.getElem?_eq_getElem (by omega)
            generalize o[m - 1] = u at *
            have hLu := (HORD.out.mem u).1 (List.mem_iff_getElem?.2 ⟨m - 1, hu⟩)
            obtain ⟨ao', e', cu⟩ := HRO2.out (m - 1) _ (natsC_at hu)
            obtain rfl := Option.some.inj e'
            clear e'
            have hmt : ((m : Int) - 1).toNat = m - 1 := by omega
            have hmo0 : (0 : Int) ≤ (m : Int) - 1 := by omega
            have hmo1 : (m : Int) - 1 < (o.length : Int) := by omega
            have HSM := Lib.hid (same_any wr p s K (HF.out.ext hbw2 (Nat.le_refl _)) hm u v hLu hLv)
            have HNS : Hid (Sa.nm s o m = Sa.nm s o (m - 1) + (if Sa.sameB s u v then 0 else 1)) := Lib.hid (by
              obtain ⟨m', rfl⟩ : ∃ m', m = m' + 1 := ⟨m - 1, by omega⟩
              rw [Nat.add_sub_cancel] at hu ⊢
              rw [Sa.nm, Sa.getD_of hu, Sa.getD_of HHV.out])
            clear hu hm0 hLv hLu
            generalize Sa.idx s v = ix at *
            go_wp2_with fail
            refine HSM.out.mono ?_
            rintro e w3 ⟨rfl, q3, rfl⟩
            have hbl3 := hbl.drew q3
            have vl := hbl3.cell (natsC_at HY.out)
            have fl := hbl3.froz ix
            have hb3 := hbl3.set ix (.int .i64 (Sa.nm s o m : Int))
            rw [← natsC_set] at hb3
            have HB3 := Lib.hid hb3
            clear hb3 hbl3 vl fl
            have vl := hbl.cell (natsC_at HY.out)
            have fl := hbl.froz ix
            clear HSM
            cases hsb : Sa.sameB s u v with
            | true =>
              have HN3 : Hid (Sa.nm s o m = Sa.nm s o (m - 1)) := Lib.hid (by rw [HNS.out, hsb]; rfl)
              rw [HN3.out] at HB3
              clear hsb HNS
              generalize Sa.nm s o (m - 1) = k0 at *
              go_wp2
              go_roundw
              case rel => exact ⟨m + 1, _, by go_num, by omega, by rw [← HN3.out]; rfl, HLL2, HLN2, by rw [HN3.out]; exact HB3.out, Below.setCell (hbe2.trans ((drawn_below wr q3).mono (Nat.le_of_lt hbl.lt))) (Nat.le_refl _) _⟩
              case measure => first | (simp [intOf]; done) | (simp [intOf]; omega)
            | false =>
              have HN3 : Hid (Sa.nm s o m = Sa.nm s o (m - 1) + 1) := Lib.hid (by rw [HNS.out, hsb]; rfl)
              rw [HN3.out] at HB3
              rw [show ((Sa.nm s o (m - 1) + 1 : Nat) : Int) = (Sa.nm s o (m - 1) : Int) + 1 by omega] at HB3
              clear hsb HNS
              generalize Sa.nm s o (m - 1) = k0 at *
              go_wp2
              go_roundw
              case rel => exact ⟨m + 1, _, by go_num, by omega, by rw [show m + 1 - 1 = m by omega, HN3.out]; go_num, HLL2, HLN2, by rw [HN3.out]; exact HB3.out, Below.setCell (hbe2.trans ((drawn_below wr q3).mono (Nat.le_of_lt hbl.lt))) (Nat.le_refl _) _⟩
              case measure => first | (simp [intOf]; done) | (simp [intOf]; omega)
        · obtain rfl : m = o.length := by omega
          have hmi2 : ¬ (o.length : Int) < (o.length : Int) := by omega
          have hnm1 := Sa.nm_le s o (o.length - 1)
          go_wp2
          go_ret2
          refine ⟨G, l, o, ?_, hbl, hlw, hbw2, by rw [HLL.out, HOL.out], HORD.out, fun i v hv => HLN.out i v ((List.getElem?_eq_some_iff.1 hv).1) hv⟩
          rw [← HOL.out]
          rfl
end Go.Proofs.Ytjpcfpffbicpnaa

end
section
set_option linter.unusedVariables false
set_option linter.unusedSimpArgs false
namespace Lec
open Go Go.RowKit
abbrev ptrsC (ps : List Nat) : List Value := ps.map fun p => Value.pointer (some ⟨p, 0, none⟩)
def lenV : Value → Nat
  | .slice _ n _ => n
  | _ => 0
end Lec
namespace Go.Proofs.Ytjpcfpffbicpnaa
open Go.RowKit Lec
theorem eq_nil (w : World) : (Go.binOp .eql 57 (.slice none 0 0) (.slice none 0 0)).run Try.prog w = .ok (.bool true) w := by kernel_rfl
theorem ne_nil (w : World) (a : Addr) (n c : Nat) : (Go.binOp .eql 57 (.slice (some a) n c) (.slice none 0 0)).run Try.prog w = .ok (.bool false) w := by kernel_rfl
theorem info_fr : (Try.prog.info? 182).map (fun i => (i.zero, i.size, i.bytes)) = some (some (.pointer none), 1, 8) := by kernel_rfl
/-- All frames that wait are in memory. -/
def Frms (w : World) (st : List (Nat × List Nat × Nat)) : Prop := ∀ f, f ∈ st → Frm w f.1 f.2.1 f.2.2 ∧ FrmTy w f.1
theorem Frms.ext {w w' : World} {st : List (Nat × List Nat × Nat)} {B : Nat} (h : Frms w st) (hb : Below B w w') (hB : w.heap.size ≤ B) : Frms w' st := fun f hf => ⟨(h f hf).1.ext hb hB, (h f hf).2.ext hb hB⟩
theorem Frms.grown {w w' : World} {st : List (Nat × List Nat × Nat)} {row : Option Nat} (h : Frms w st) (hg : w.grownBy w' row) (hr : ∀ k, row = some k → ∃ cs fr, w.heap[k]? = some (.cells cs 182 fr)) : Frms w' st := fun f hf => ⟨((h f hf).2.grown (h f hf).1 hg hr).2, ((h f hf).2.grown (h f hf).1 hg hr).1⟩
theorem own_row {w : World} {base n : Nat} {e : TypeId} {v : Value} {xs : List Value} (h : w.ownsRow base e 1 v n xs) : ∀ k, v.ownBlock = some k → ∃ cs fr, w.heap[k]? = some (.cells cs e fr) := by
  intro k hk
  rcases h.2 with ⟨rfl, _⟩ | ⟨g, cap, cur, rfl, _, hg, _⟩
  · simp [Value.ownBlock] at hk
  · have : g = k := by simpa [Value.ownBlock] using hk
    subst this
    exact ⟨cur, (0, 0), hg⟩
abbrev stC (st : List (Nat × List Nat × Nat)) : List Value := ptrsC (st.reverse.map (·.1))
theorem stC_cons (f : Nat × List Nat × Nat) (st : List (Nat × List Nat × Nat)) : stC (f :: st) = stC st ++ [.pointer (some ⟨f.1, 0, none⟩)] := by simp [stC, ptrsC]

/-- While no answer is there. -/
structure SoA (w wr : World) (root cs : List Nat) (K : Nat) (st : List (Nat × List Nat × Nat)) (A : Option Addr) (V : Value) : Prop where
  chain : Sa.Chain st cs root
  pos : 0 < cs.length
  len : cs.length ≤ 131072
  kk : K ≤ 200000
  sym : ∀ i, i < cs.length → Sa.sy cs i < K
  rd : Rds wr A (natsC cs)
  far : Far wr A
  fr : Frms wr st
  own : wr.ownsRow w.heap.size 182 1 V st.length (stC st)
  bel : Below w.heap.size w wr
  dep : st.length + cs.length ≤ 131072
/-- An answer is there; wf: the world as the frames last saw it. -/
structure SoB (w wr : World) (root cs av : List Nat) (st : List (Nat × List Nat × Nat)) (B : Option Addr) (g : Nat) (wf : World) : Prop where
  chain : Sa.Chain st cs root
  sa : Sa.IsSA cs av
  fr : Frms wf st
  rd : Rds wf B (stC st)
  bel : Below w.heap.size w wf
  bel2 : Below wf.heap.size wf wr
  hg : wf.heap.size ≤ g
  blk : Blk wr g 3 (natsC av)
  dep : st.length ≤ 131072

def SortedPost (w : World) (s : List Nat) (e : Ending) (w' : World) : Prop :=
  ∃ (g : Nat) (b : List Nat), e = .returned (.slice (some ⟨g, 0, none⟩) s.length s.length) ∧ Blk w' g 3 (natsC b) ∧ w.heap.size ≤ g ∧ Below w.heap.size w w' ∧ Sa.IsSA s b

def SoRel (w : World) (root : List Nat) (s0 k0 v5 v6 : Value) (wr : World) : Prop :=
  ∃ (cs : List Nat) (st : List (Nat × List Nat × Nat)) (A : Option Addr) (c K : Nat), s0 = .slice A cs.length c ∧ k0 = .int .i64 (K : Int) ∧
    ((v6 = .slice none 0 0 ∧ SoA w wr root cs K st A v5) ∨ (∃ (av : List Nat) (B : Option Addr) (c5 g : Nat) (wf : World), v6 = .slice (some ⟨g, 0, none⟩) cs.length cs.length ∧ v5 = .slice B st.length c5 ∧ st.length ≤ c5 ∧ SoB w wr root cs av st B g wf))

def SoRel2 (w : World) (root : List Nat) (v5 v6 : Value) (wr : World) : Prop :=
  ∃ (cs av : List Nat) (st : List (Nat × List Nat × Nat)) (B : Option Addr) (c5 g : Nat) (wf : World), v6 = .slice (some ⟨g, 0, none⟩) cs.length cs.length ∧ v5 = .slice B st.length c5 ∧ st.length ≤ c5 ∧ SoB w wr root cs av st B g wf

/-- s[:k]: one equation, wherever s lies. -/
theorem slice_hi {P : Program} {t e : TypeId} (ht : P.underlying t = some (.slice e)) (hsz : ∃ z, ∀ w, (Go.sizeOf e).run P w = Result.ok z w) (A : Option Addr) (n c k : Nat) (hk : k ≤ c) (w : World) :
    (Instr.sliceAt t (.slice A n c) none (some (.int .i64 (k : Int))) none).run P w = .ok (.slice A k c) w := by
  have he : P.elem t = e := by unfold Program.elem; rw [ht]
  obtain ⟨z, hz⟩ := hsz
  rw [run_sliceAt_slice w t _ _ _ _ (by rw [he]; exact ht), run_slice_h w t A n c (by rw [he]; exact ht) .i64 k (by omega) (by omega), he, hz]
  simp [Result.andThen, sliced]
  intro h
  cases A <;> rfl

set_option maxRecDepth 100000 in
set_option maxHeartbeats 4000000 in
theorem sorted_any (w : World) (A : Option Addr) (c : Nat) (s : List Nat) (K : Nat) (hr : Rds w A (natsC s)) (hfar : Far w A) (hm : s.length ≤ 131072) (hpos : 0 < s.length) (hk : K ≤ 200000) (hks : ∀ i, i < s.length → Sa.sy s i < K) :
    Calls Try.prog 94 #[.slice A s.length c, .int .i64 (K : Int)] w (SortedPost w s) := by
  have hA0 : SoA w w s s K [] A (.slice none 0 0) := ⟨rfl, hpos, hm, hk, hks, hr, hfar, fun f hf => by simp at hf, World.ownsRow_nil _ _ _ _, Below.refl _ _, by simpa using hm⟩
  clear hr hm hpos hk hks hfar
  have hen := eq_nil
  have hnn := ne_nil
  go_enter Try.func94, Try.ntmps94
  go_wp2
  go_loopw [0, 1, 5, 6] (fun s0 k0 v5 v6 wr => SoRel w s s0 k0 v5 v6 wr) (fun s0 _ _ _ _ => lenV s0)
  case atStart => exact ⟨s, [], A, c, K, rfl, rfl, .inl ⟨rfl, hA0⟩⟩
  case round =>
    clear hA0
    obtain ⟨cs, st, A, c, K, rfl, rfl, hrel⟩ := hrel
    rcases hrel with ⟨rfl, hA⟩ | ⟨av, B, c5, g, wf, rfl, rfl, h5, hB⟩
    · have hcl := hA.len
      have hcp := hA.pos
      have hkk := hA.kk
      go_wp2_with fail
      refine (fresh_any wr A cs.length c cs K rfl hcl hkk hA.sym hA.rd hA.far).mono ?_
      rintro e w1 ⟨p, rfl, hf, hb1, hty⟩
      have hbel1 := hA.bel.trans (hb1.mono hA.bel.size)
      have hbz := hbel1.size
      have ho1 := own_ext hA.own hb1 (Nat.le_refl _)
      have HO := Lib.hid ho1
      have HFR1 := Lib.hid (hA.fr.ext hb1 (Nat.le_refl _))
      have HROW := Lib.hid (own_row ho1)
      have hdep := hA.dep
      clear ho1
      go_upto_region 6 with (at_builtin; refine wp_app1 (w0 := w1) rfl rfl _ _ 181 rfl w.heap.size 182 (.pointer none) 1 8 Try.underlying181 info_fr rfl (by decide) (by decide) u5 st.length _ rfl HO.out rfl rfl (one_cell1 rfl) (by omega) hbz ?_; intro v' w2 hown' hg' hb'; have HO2 := Lib.hid hown'; have HB2 := Lib.hid hb'; have HG2 := Lib.hid hg'; clear hown' hg' hb')
      have hal : Below w1.heap.size w1 (w1.alloc (.cells #[.pointer (some ⟨p, 0, none⟩)] 182)) := (Below.refl _ _).alloc (Nat.le_refl _) _
      have hrow := own_row (own_ext HO.out hal (Nat.le_refl _))
      have hfr2 : Frms w2 ((p, cs, K) :: st) := Frms.grown (fun f hf' => by
        rcases List.mem_cons.1 hf' with rfl | hf'
        · exact ⟨hf.ext hal (Nat.le_refl _), hty.ext hal (Nat.le_refl _)⟩
        · exact (HFR1.out.ext hal (Nat.le_refl _)) f hf') HG2.out hrow
      have hbel2 := hbel1.trans HB2.out
      have ho2 := HO2.out
      rw [show (#[Value.pointer (some ⟨p, 0, none⟩)] : Array Value).toList = [.pointer (some ⟨p, 0, none⟩)] from rfl, ← stC_cons (p, cs, K) st] at ho2
      have HO3 := Lib.hid ho2
      have HFR2 := Lib.hid hfr2
      have hsym := hA.sym
      have hch := hA.chain
      clear hal hrow hfr2 ho2 HO2 HO HROW HFR1 HG2 HB2 hf hty hA hb1 hbz
      go_wp2_with fail
      refine (names_any w2 p cs K (HFR2.out _ (List.mem_cons_self ..)).1 hcl hkk hcp hsym).mono ?_
      rintro e w3 ⟨g, l, o, rfl, hbl, hg, hb3, hll, hord, hln⟩
      have hhalf := Sa.lmsL_half cs
      have hnamed := hord.named hll hln
      have hbel3 := hbel2.trans (hb3.mono hbel2.size)
      have HO4 := Lib.hid (own_ext HO3.out hb3 (Nat.le_refl _))
      have HFR3 := Lib.hid (HFR2.out.ext hb3 (Nat.le_refl _))
      have hchain : Sa.Chain ((p, cs, K) :: st) l s := ⟨hnamed, hcp, hcl, hkk, hsym, hch⟩
      have hdep2 : ((p, cs, K) :: st).length + l.length ≤ 131072 := by rw [List.length_cons, hll]; omega
      have hnm := Sa.nm_le cs o ((Sa.lmsL cs).length - 1)
      have HBD := Lib.hid (hord.bound hll hln)
      obtain ⟨A7, c7, he7, hc7, _, _, r7, _⟩ := own_rds HO4.out
      subst he7
      have HR7 := Lib.hid r7
      have HLL := Lib.hid hll
      have HC7 : Hid (st.length + 1 ≤ c7) := Lib.hid hc7
      clear HO3 HFR2 hb3 hbel2 r7 hc7
      by_cases hM : (Sa.lmsL cs).length = 0
      · have hM1 : (((Sa.lmsL cs).length : Int) == 0) = true := by rw [beq_iff_eq]; omega
        have hl0 : l = [] := List.eq_nil_of_length_eq_zero (by rw [hll, hM])
        have hlt : l.length < cs.length := by rw [hll]; omega
        have HLT := Lib.hid hlt
        rw [hM] at hll HLL
        rw [hM] at hM1 ⊢
        clear hM hnm hln hord hll hlt hnamed hhalf hdep
        go_wp2
        subst hl0
        refine ⟨⟨[], (p, cs, K) :: st, some ⟨g, 0, none⟩, 0, Sa.nm cs o 0 + 1, rfl, by go_num, .inr ⟨[], A7, c7, w3.heap.size, w3, rfl, rfl, HC7.out, hchain, Sa.IsSA.nil, HFR3.out, HR7.out, hbel3, (Below.refl _ _).alloc (Nat.le_refl _) _, Nat.le_refl _, Blk.newL _ _ _ _ _ rfl rfl, by omega⟩⟩, ?_⟩
        show lenV (.slice _ _ _) < lenV (.slice _ _ _); unfold lenV; exact hcp
      · by_cases hN : Sa.nm cs o ((Sa.lmsL cs).length - 1) + 1 = (Sa.lmsL cs).length
        · have hln2 : ∀ i v : Nat, o[i]? = some v → l[Sa.idx cs v]? = some i := fun i v hv => by
            have h1 := hln i v hv
            have h2 := (List.getElem?_eq_some_iff.1 hv).1
            have h3 := hord.len
            rwa [Sa.Ord.diff ((Sa.lmsL cs).length - 1) (by omega) (by omega) i (by omega)] at h1
          have HINJ := Lib.hid (hord.inj hll hln2)
          have HLN2 := Lib.hid hln2
          have HORD := Lib.hid hord
          rw [hN] at HBD
          have hM1 : (((Sa.lmsL cs).length : Int) == 0) = false := by rw [beq_eq_false_iff_ne]; omega
          have hN1 : (((Sa.nm cs o ((Sa.lmsL cs).length - 1) + 1 : Nat) : Int) == ((Sa.lmsL cs).length : Int)) = true := by rw [beq_iff_eq]; omega
          have hmk := mk_ints (Sa.lmsL cs).length (by omega)
          have hMb : (Sa.lmsL cs).length ≤ 131072 := by omega
          have hMpos : 0 < (Sa.lmsL cs).length := by omega
          have hlt : l.length < cs.length := by rw [hll]; omega
          have HLT := Lib.hid hlt
          rw [hN] at hN1 ⊢
          clear hM hN hnm hln hln2 hord hll hlt hnamed hhalf
          generalize hMM : (Sa.lmsL cs).length = M at *
          have HMM := Lib.hid hMM
          clear hMM
          go_wp2
          obtain ⟨w4, hw4⟩ : ∃ w4, w4 = w3.alloc (.cells (Array.replicate M (.int .i64 0)) 3) := ⟨_, rfl⟩
          have hb4 : Blk w4 w3.heap.size 3 (natsC (List.replicate M 0)) := by rw [hw4]; exact Blk.newL _ _ _ _ _ rfl (by simp [natsC])
          have hbe4 : Below w3.heap.size w3 w4 := by rw [hw4]; exact (Below.refl _ _).alloc (Nat.le_refl _) _
          rw [← hw4]
          clear hw4 hmk hN1
          generalize hG : w3.heap.size = G at hb4 hbe4 ⊢
          go_loopw [43] (fun i wx => ∃ (m : Nat) (av : List Nat), i = .int .i64 (m : Int) ∧ m ≤ M ∧ Hid (av.length = M) ∧ Hid (∀ j c, j < m → l[j]? = some c → av[c]? = some j) ∧ Blk wx G 3 (natsC av) ∧ Below G w3 wx) (fun i _ => M - (intOf i).toNat)
          case atStart => exact ⟨0, _, rfl, by omega, Lib.hid (by simp), Lib.hid (fun j c hj => by omega), hb4, hbe4⟩
          case round =>
            clear hb4 hbe4
            obtain ⟨m, av, rfl, hmM, HAL, HAV, hba, hbe⟩ := hrel
            by_cases hm2 : m < M
            · have hmi : (m : Int) < (M : Int) := by omega
              have hml : m < l.length := by rw [HLL.out]; exact hm2
              have hc : l[m]? = some l[m] := List.getElem?_eq_getElem hml
              have hcM : l[m] < M := by
                have := HBD.out m hml
                unfold Sa.sy at this
                rwa [Sa.getD_of hc] at this
              generalize l[m] = x at *
              have vl := (hbl.extlt hbe (by rw [← hG]; exact hbl.lt)).cell (natsC_at hc)
              obtain ⟨y, hy⟩ : ∃ y, av[x]? = some y := ⟨_, List.getElem?_eq_getElem (by rw [HAL.out]; exact hcM)⟩
              have va := hba.cell (natsC_at hy)
              have fa := hba.froz x
              have hb5 := hba.set x (.int .i64 (m : Int))
              rw [← natsC_set] at hb5
              have HB5 := Lib.hid hb5
              have HC := Lib.hid hc
              have hxi : (x : Int) < (M : Int) := by omega
              have hx0 : (0 : Int) ≤ (x : Int) := by omega
              clear hc hy hb5
              go_wp2
              go_roundw
              case rel =>
                refine ⟨m + 1, _, by go_num, by omega, Lib.hid (by rw [List.length_set]; exact HAL.out), Lib.hid (fun j c hj hc => ?_), HB5.out, hbe.setCell (Nat.le_refl _) _⟩
                rw [List.getElem?_set]
                by_cases e : j = m
                · subst e
                  rw [HC.out] at hc; injection hc with hc
                  subst hc
                  simp [HAL.out, hcM]
                · rw [if_neg (fun k => by subst k; exact e (HINJ.out j m _ hc HC.out))]
                  exact HAV.out j c (by omega) hc
              case measure => first | (simp [intOf]; done) | (simp [intOf]; omega)
            · obtain rfl : m = M := by omega
              have hmi : ¬ (m : Int) < (m : Int) := by omega
              have hsa : Sa.IsSA l av := HORD.out.simple (by rw [HLL.out, HMM.out]) HLN2.out (by rw [HAL.out, HLL.out]) (fun i v hv => HAV.out _ i (by rw [← HMM.out]; exact Sa.idx_lt ((HORD.out.mem v).1 (List.mem_iff_getElem?.2 ⟨i, hv⟩))) (HLN2.out i v hv))
              go_wp2
              go_roundw
              case rel =>
                refine ⟨l, (p, cs, K) :: st, some ⟨g, 0, none⟩, m, m, by rw [HLL.out], rfl, .inr ⟨av, A7, c7, G, w3, by rw [HLL.out], rfl, HC7.out, hchain, hsa, HFR3.out, HR7.out, hbel3, ?_, Nat.le_of_eq hG, hba, by omega⟩⟩
                rw [hG]; exact hbe
              case measure => show lenV (.slice _ _ _) < lenV (.slice _ _ _); unfold lenV; rw [← HLL.out]; exact HLT.out
        · have hM1 : (((Sa.lmsL cs).length : Int) == 0) = false := by rw [beq_eq_false_iff_ne]; omega
          have hN1 : (((Sa.nm cs o ((Sa.lmsL cs).length - 1) + 1 : Nat) : Int) == ((Sa.lmsL cs).length : Int)) = false := by rw [beq_eq_false_iff_ne]; omega
          have hsoa : SoA w w3 s l (Sa.nm cs o ((Sa.lmsL cs).length - 1) + 1) ((p, cs, K) :: st) (some ⟨g, 0, none⟩) (.slice A7 (st.length + 1) c7) := ⟨hchain, by rw [hll]; omega, by rw [hll]; omega, by omega, HBD.out, hbl.rds, Blk.farA hbl (by decide), HFR3.out, HO4.out, hbel3, hdep2⟩
          have HS := Lib.hid hsoa
          have hlt : l.length < cs.length := by rw [hll]; omega
          have HLT := Lib.hid hlt
          clear hsoa hll hlt hnm hM hN hchain hnamed hord hln hbel3 hdep2 hch hsym HO4 HFR3 HBD hbl hhalf
          generalize Sa.nm cs o ((Sa.lmsL cs).length - 1) + 1 = k' at *
          go_wp2
          go_roundw
          case rel => exact ⟨l, _, _, _, _, by rw [HLL.out], rfl, .inl ⟨rfl, HS.out⟩⟩
          case measure => show lenV (.slice _ _ _) < lenV (.slice _ _ _); unfold lenV; rw [← HLL.out]; exact HLT.out
    · clear hen
      go_wp2
      clear hnn
      go_loopw [5, 6] (fun v5 v6 wr => SoRel2 w s v5 v6 wr) (fun v5 _ _ => lenV v5)
      case atStart => exact ⟨cs, av, st, B, c5, g, wf, rfl, rfl, h5, hB⟩
      case round =>
        clear hB h5
        obtain ⟨cs, av, st, B, c5, g, wf, rfl, rfl, h5, hB⟩ := hrel
        cases st with
        | nil =>
          go_wp2
          go_ret
          have hc : cs = s := hB.chain
          subst hc
          exact ⟨g, av, rfl, hB.blk, Nat.le_trans hB.bel.size hB.hg, hB.bel.trans (hB.bel2.mono hB.bel.size), hB.sa⟩
        | cons f st =>
          obtain ⟨p, s', K'⟩ := f
          obtain ⟨hnamed, hpos, hsl, hKb, hsym, hch⟩ := hB.chain
          have hdep := hB.dep
          have hc5 : st.length + 1 ≤ c5 := h5
          rw [List.length_cons] at hdep ⊢
          have hrd := hB.rd
          rw [stC_cons] at hrd
          obtain ⟨bs, rfl, cst⟩ := hrd st.length (.pointer (some ⟨p, 0, none⟩)) (by rw [List.getElem?_append_right (by simp [stC])]; simp [stC])
          have hR2 : Rds wf (some bs) (stC st) := fun i u hu => hrd i u (by rw [List.getElem?_append_left (List.getElem?_eq_some_iff.1 hu).1]; exact hu)
          have HR2 := Lib.hid hR2
          have cst' := cell_ext hB.bel2 (Nat.le_refl _) cst
          have hsl61 := slice_hi (P := Try.prog) (t := 181) (e := 182) Try.underlying181 ⟨1, fun w => by kernel_rfl⟩ (some bs) (st.length + 1) c5 st.length (by omega)
          have hfr := (hB.fr _ (List.mem_cons_self ..)).1
          have hfrs : Frms wf st := fun f hf => hB.fr f (List.mem_cons_of_mem _ hf)
          have HFS := Lib.hid hfrs
          have HFP := Lib.hid hfr
          have hsa := hB.sa
          have hal := hsa.len
          have hbl := hB.blk
          have hbel2 := hB.bel2
          have hbel := hB.bel
          have hgg := hB.hg
          have HK4 : Hid (∃ a4 c4, wf.cell? ⟨p, 4, none⟩ = some (.slice a4 (Sa.lmsL s').length c4) ∧ Rds wf a4 (natsC (Sa.lmsL s'))) := Lib.hid (by
            obtain ⟨A, c, a1, a2, a3, a4, c4, a5, xs3, h0, h1, h2, h3, h4, h5, r0, r1, r2, r3, r4, r5, h6, h7⟩ := hfr.out
            exact ⟨a4, c4, h4, r4⟩)
          have hll := hnamed.len
          have hhalf := Sa.lmsL_half s'
          have hcb : 2 * cs.length ≤ s'.length := by omega
          have HLLN := Lib.hid hll
          have HAL0 := Lib.hid hal
          obtain ⟨a4, c4, k4, r4⟩ := HK4.out
          have HR4 := Lib.hid r4
          have HKK4 := Lib.hid k4
          clear hrd hR2 hB hfr hfrs cst h5 hll hal hhalf r4 k4 HK4
          go_wp2
          clear hsl61 cst'
          have hAB : av.length = cs.length := HAL0.out
          go_loopw [71] (fun i wx => ∃ (m : Nat) (al : List Nat), i = .int .i64 (m : Int) ∧ m ≤ cs.length ∧ Hid (al.length = cs.length) ∧ Hid (∀ j x, av[j]? = some x → al[j]? = some (if j < m then (Sa.lmsL s').getD x 0 else x)) ∧ Blk wx g 3 (natsC al) ∧ Below wf.heap.size wf wx) (fun i _ => cs.length - (intOf i).toNat)
          case atStart => exact ⟨0, av, rfl, by omega, HAL0, Lib.hid (fun j x h => by rw [if_neg (by omega)]; exact h), hbl, hbel2⟩
          case round =>
            clear hbl hbel2 hAB
            obtain ⟨m, al, rfl, hmM, HAL, HAV, hba, hbe⟩ := hrel
            by_cases hm2 : m < cs.length
            · have hmi : (m : Int) < (cs.length : Int) := by omega
              have hm0 : (0 : Int) ≤ (m : Int) := by omega
              have hml : m < av.length := by rw [HAL0.out]; exact hm2
              have hx : av[m]? = some av[m] := List.getElem?_eq_getElem hml
              have hxl := hsa.lt _ (List.getElem_mem hml)
              generalize av[m] = x at *
              have hax := HAV.out m x hx
              rw [if_neg (Nat.lt_irrefl _)] at hax
              have va := hba.cell (natsC_at hax)
              have fa := hba.froz m
              have hxL : x < (Sa.lmsL s').length := by rw [← HLLN.out]; exact hxl
              have hD : (Sa.lmsL s')[x]? = some ((Sa.lmsL s').getD x 0) := by rw [List.getElem?_eq_getElem hxL]; simp [List.getD_eq_getElem?_getD, hxL]
              have k4 := cell_ext hbe (Nat.le_refl _) HKK4.out
              obtain ⟨ad, rfl, cd⟩ := (HR4.out.ext hbe (Nat.le_refl _)) x _ (natsC_at hD)
              have HD := Lib.hid hD
              have HX := Lib.hid hx
              generalize (Sa.lmsL s').getD x 0 = y at *
              have hxi : (x : Int) < ((Sa.lmsL s').length : Int) := by omega
              have hx0 : (0 : Int) ≤ (x : Int) := by omega
              have hb5 := hba.set m (.int .i64 (y : Int))
              rw [← natsC_set] at hb5
              have HB5 := Lib.hid hb5
              clear hD hx hax hb5
              go_wp2
              go_roundw
              case rel =>
                refine ⟨m + 1, _, by go_num, by omega, Lib.hid (by rw [List.length_set]; exact HAL.out), Lib.hid (fun j u hj => ?_), HB5.out, hbe.setCell hgg _⟩
                rw [List.getElem?_set]
                by_cases e : m = j
                · subst e
                  rw [HX.out] at hj; injection hj with hj
                  subst hj
                  rw [if_pos rfl, if_pos (by rw [HAL.out]; exact hm2), if_pos (Nat.lt_succ_self _)]
                  rw [List.getD_eq_getElem?_getD, HD.out]; rfl
                · rw [if_neg e, HAV.out j u hj]
                  by_cases e2 : j < m
                  · rw [if_pos e2, if_pos (by omega)]
                  · rw [if_neg e2, if_neg (by omega)]
              case measure => first | (simp [intOf]; done) | (simp [intOf]; omega)
            · obtain rfl : m = cs.length := by omega
              have hmi : ¬ (cs.length : Int) < (cs.length : Int) := by omega
              have hback : al = Sa.back s' av := List.ext_getElem? (fun j => by
                by_cases hj : j < cs.length
                · have hj2 : j < av.length := by rw [HAL0.out]; exact hj
                  rw [HAV.out j _ (List.getElem?_eq_getElem hj2), if_pos hj]
                  unfold Sa.back
                  rw [List.getElem?_map, List.getElem?_eq_getElem hj2]; rfl
                · rw [List.getElem?_eq_none (by rw [HAL.out]; omega), List.getElem?_eq_none (by unfold Sa.back; rw [List.length_map, HAL0.out]; omega)])
              subst hback
              have hIND := induce_any wr p s' (Sa.back s' av) K' (HFP.out.ext hbe (Nat.le_refl _)) hsl hKb (Sa.layB hpos hsym hnamed hsa) (some ⟨g, 0, none⟩) cs.length hba.rds
              rw [HAL.out] at hIND
              have HIND := Lib.hid hIND
              have HORD := Lib.hid (hnamed.back hsa).2.2
              clear hIND
              go_wp2_with fail
              refine HIND.out.mono ?_
              rintro e w7 ⟨g2, b, rfl, hb7, hg7, hI7, hbe7⟩
              clear HIND
              have HSA := Lib.hid (hI7.sorted HORD.out)
              clear hI7
              go_wp2
              go_roundw
              case rel => exact ⟨s', b, st, some bs, c5, g2, wf, rfl, rfl, by omega, hch, HSA.out, HFS.out, HR2.out, hbel, hbe.trans (hbe7.mono hbe.size), Nat.le_trans hbe.size hg7, hb7, by omega⟩
              case measure => exact Nat.lt_succ_self st.length
end Go.Proofs.Ytjpcfpffbicpnaa

end