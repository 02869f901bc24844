/- The walk of suffix.fresh. -/
import Derived.Test.YtfiioobdknbacaaSufR
set_option linter.unusedVariables false
set_option linter.unusedSimpArgs false
namespace Go.Proofs.Ytfiioobdknbacaa
open Go.RowKit Lec
set_option maxRecDepth 100000 in
set_option maxHeartbeats 4000000 in
theorem fresh_any (w : World) (A : Option Addr) (n c : Nat) (s : List Nat) (K : Nat) (hn : s.length = n) (hm : n ≤ 131072) (hk : K ≤ 200000) (hks : ∀ i, i < s.length → Sa.sy s i < K) (hr : Rds w A (natsC s)) (hfar : Far w A) :
    Calls Try.prog 122 #[.slice A n c, .int .i64 (K : Int)] w (FreshPost w s K) := by
  have HR := Lib.hid hr
  have HN := Lib.hid hn
  have HK := Lib.hid hks
  clear hr hn hks
  go_enter Try.func122, Try.ntmps122
  go_wp2
  refine fresh_reg w A n c K hm hk _ ?_
  intro p g1 g2 g3 g5 B wx hf
  go_wp2
  go_loopw [7] (fun i wr => ∃ (z : Int) (bs : List Bool), i = .int .i64 z ∧ -2 ≤ z ∧ z ≤ (n : Int) - 2 ∧ bs.length = n ∧ Hid (∀ j : Nat, j < n → z < j → bs[j]? = some (Sa.sm s j)) ∧ FreshW w wr A n c K p g1 g2 g3 g5 B (boolsC bs) (List.replicate (K + 1) (.int .i64 0)) (List.replicate (K + 1) (.int .i64 0)) (.slice none 0 0) (List.replicate (n + 1) (.int .i64 0))) (fun i _ => (intOf i + 2).toNat)
  case atStart =>
    refine ⟨(n : Int) - 2, List.replicate n false, rfl, by omega, by omega, by simp, fun j hj hz => ?_, ?_⟩
    · rw [List.getElem?_replicate, if_pos hj, Sa.sm_last s j (by rw [HN.out]; omega)]
    · simpa using hf
  case round =>
    clear hf
    obtain ⟨z, bs, rfl, hz1, hz2, hbl, HS, hf⟩ := hrel
    by_cases h0 : 0 ≤ z
    · obtain ⟨i, rfl⟩ : ∃ i : Nat, z = i := ⟨z.toNat, by omega⟩
      have hi1 : i + 1 < n := by omega
      have k1 := hf.bp.cell (o := 1) rfl
      have hfz := hf.b1.froz i
      have kc := hf.b1.cell (o := i) (boolsC_at (List.getElem?_eq_getElem (show i < bs.length by omega)))
      generalize bs[i] = bi at *
      have ks := hf.b1.cell (o := i + 1) (boolsC_at (HS.out (i + 1) hi1 (by omega)))
      have hs1 : i < s.length := by rw [HN.out]; omega
      have hs2 : i + 1 < s.length := by rw [HN.out]; omega
      have hst := Sa.sm_step s i hs2
      have hr' := HR.out.ext hf.bel (Nat.le_refl _)
      obtain ⟨a, rfl, c1⟩ := hr' i _ (natsC_at (v := Sa.sy s i) (by rw [List.getElem?_eq_getElem hs1]; simp [Sa.sy, List.getD_eq_getElem?_getD, hs1]))
      obtain ⟨a', e', c2⟩ := hr' (i + 1) _ (natsC_at (v := Sa.sy s (i + 1)) (by rw [List.getElem?_eq_getElem hs2]; simp [Sa.sy, List.getD_eq_getElem?_getD, hs2]))
      obtain rfl := Option.some.inj e'
      clear e' hr'
      have c3 := c2
      rw [add_pos _ _ (by omega)] at c3
      have HST := Lib.hid hst
      have hwi : IntKind.i64.wrap ((i : Int) + 1) = (i : Int) + 1 := wrapI (by omega)
      have hzi : (0 : Int) ≤ (i : Int) := by omega
      have hzi1 : (0 : Int) ≤ (i : Int) + 1 := by omega
      have hin : (i : Int) < (n : Int) := by omega
      have hin1 : (i : Int) + 1 < (n : Int) := by omega
      have hti : ((i : Int) + 1).toNat = i + 1 := by omega
      have hbl := Lib.hid hbl
      clear hst hs1 hs2
      generalize Sa.sy s i = x at *
      generalize Sa.sy s (i + 1) = y at *
      generalize Sa.sm s (i + 1) = t at *
      rcases Nat.lt_trichotomy x y with hxy | hxy | hxy
      · have hxyi : (x : Int) < (y : Int) := by omega
        go_wp2
        refine wp_region_qtail 38 (by kernel_rfl) (by kernel_rfl) ?_
        simp only [List.take_succ_cons, List.take_zero, List.drop_succ_cons, List.drop_zero]
        repeat (go_big_quiet_step (fail))
        refine wpQuiet_nil ?_
        go_wp2
        go_roundw
        case rel =>
          refine ⟨(i : Int) - 1, bs.set i (Sa.sm s i), rfl, by omega, by omega, by rw [List.length_set]; exact hbl.out, Lib.hid (fun j hj hz => ?_), ?_⟩
          · rw [List.getElem?_set]
            by_cases e : i = j
            · subst e; simp [hbl.out, hj]
            · rw [if_neg e]; exact HS.out j hj (by omega)
          · have h := (hf.drewN 1).set1 i (.bool (Sa.sm s i))
            rw [← boolsC_set] at h
            have e : Sa.sm s i = true := by rw [HST.out]; (simp [hxy])
            rw [e] at h ⊢
            exact h
        case measure => simp [intOf]; omega
      · have hxyn : ¬ x < y := by omega
        have hxye : ((x : Int) == (y : Int)) = true := by rw [beq_iff_eq]; omega
        have HXY := Lib.hid hxy
        clear hxy
        go_wp2
        refine wp_region_qtail 38 (by kernel_rfl) (by kernel_rfl) ?_
        simp only [List.take_succ_cons, List.take_zero, List.drop_succ_cons, List.drop_zero]
        repeat (go_big_quiet_step (fail))
        refine wpQuiet_nil ?_
        go_wp2
        go_roundw
        case rel =>
          refine ⟨(i : Int) - 1, bs.set i (Sa.sm s i), rfl, by omega, by omega, by rw [List.length_set]; exact hbl.out, Lib.hid (fun j hj hz => ?_), ?_⟩
          · rw [List.getElem?_set]
            by_cases e : i = j
            · subst e; simp [hbl.out, hj]
            · rw [if_neg e]; exact HS.out j hj (by omega)
          · have h := (hf.drewN 1).set1 i (.bool (Sa.sm s i))
            rw [← boolsC_set] at h
            have e : Sa.sm s i = t := by rw [HST.out]; (simp [HXY.out])
            rw [e] at h ⊢
            exact h
        case measure => simp [intOf]; omega
      · have hxyn : ¬ x < y := by omega
        have hxye : ((x : Int) == (y : Int)) = false := by rw [beq_eq_false_iff_ne]; omega
        go_wp2
        refine wp_region_qtail 38 (by kernel_rfl) (by kernel_rfl) ?_
        simp only [List.take_succ_cons, List.take_zero, List.drop_succ_cons, List.drop_zero]
        repeat (go_big_quiet_step (fail))
        refine wpQuiet_nil ?_
        go_wp2
        go_roundw
        case rel =>
          refine ⟨(i : Int) - 1, bs.set i (Sa.sm s i), rfl, by omega, by omega, by rw [List.length_set]; exact hbl.out, Lib.hid (fun j hj hz => ?_), ?_⟩
          · rw [List.getElem?_set]
            by_cases e : i = j
            · subst e; simp [hbl.out, hj]
            · rw [if_neg e]; exact HS.out j hj (by omega)
          · have h := (hf.drewN 1).set1 i (.bool (Sa.sm s i))
            rw [← boolsC_set] at h
            have e : Sa.sm s i = false := by rw [HST.out]; (simp [show ¬ x < y by omega, show ¬ x = y by omega])
            rw [e] at h ⊢
            exact h
        case measure => simp [intOf]; omega
    · have hbs : bs = smL s := List.ext_getElem? (fun j => by
        by_cases hj : j < n
        · rw [HS.out j hj (by omega), smL_at s j (by rw [HN.out]; exact hj)]
        · rw [List.getElem?_eq_none (by omega), List.getElem?_eq_none (by unfold smL; simp; rw [HN.out]; omega)])
      subst hbs
      clear HS hbl
      go_wp2
      go_loopw [74] (fun i wr => ∃ (m : Nat) (xs2 xs3 : List Nat), i = .int .i64 (m : Int) ∧ m ≤ n ∧ Tab xs2 (K + 1) (upS s m) ∧ Tab xs3 (K + 1) (upL s m) ∧ FreshW w wr A n c K p g1 g2 g3 g5 B (boolsC (smL s)) (natsC xs2) (natsC xs3) (.slice none 0 0) (List.replicate (n + 1) (.int .i64 0))) (fun i _ => n - (intOf i).toNat)
      case atStart =>
        refine ⟨0, List.replicate (K + 1) 0, List.replicate (K + 1) 0, rfl, by omega, ⟨by simp, fun c hc => ?_⟩, ⟨by simp, fun c hc => ?_⟩, ?_⟩
        · rw [List.getElem?_replicate, if_pos hc]; unfold upS; split <;> rfl
        · rw [List.getElem?_replicate, if_pos hc]; rfl
        · have e : natsC (List.replicate (K + 1) 0) = List.replicate (K + 1) (.int .i64 0) := by simp [natsC]
          rw [e]; exact hf
      case round =>
        clear hf
        obtain ⟨m, xs2, xs3, rfl, hmn, h2, h3, hf⟩ := hrel
        by_cases h8 : m < n
        · have h8i : (m : Int) < (n : Int) := by omega
          have hms : m < s.length := by rw [HN.out]; exact h8
          have k1 := hf.bp.cell (o := 1) rfl
          have k2 := hf.bp.cell (o := 2) rfl
          have k3 := hf.bp.cell (o := 3) rfl
          have kb := hf.b1.cell (o := m) (boolsC_at (smL_at s m hms))
          obtain ⟨a, rfl, c1⟩ := (HR.out.ext hf.bel (Nat.le_refl _)) m _ (natsC_at (v := Sa.sy s m) (by rw [List.getElem?_eq_getElem hms]; simp [Sa.sy, List.getD_eq_getElem?_getD, hms]))
          have hx := HK.out m hms
          have hS := upS_succ s m
          have hL := upL_succ s m
          have hl2 := upS_le s m (Sa.sy s m + 1)
          have hl3 := upL_le s m (Sa.sy s m)
          have v2 := hf.b2.cell (o := Sa.sy s m + 1) (natsC_at (h2.2 _ (by omega)))
          have v3 := hf.b3.cell (o := Sa.sy s m) (natsC_at (h3.2 _ (by omega)))
          have f2 := hf.b2.froz (Sa.sy s m + 1)
          have f3 := hf.b3.froz (Sa.sy s m)
          cases hb : Sa.sm s m with
          | true =>
            have T2 : Hid (Tab (xs2.set (Sa.sy s m + 1) (upS s m (Sa.sy s m + 1) + 1)) (K + 1) (upS s (m + 1))) := h2.set _ _ _ (fun c _ => by rw [hS, hb]; by_cases e : c = Sa.sy s m + 1 <;> simp [e])
            have T3 : Hid (Tab xs3 (K + 1) (upL s (m + 1))) := h3.congr (fun c _ => by rw [hL, hb]; simp)
            rw [hb] at kb
            have HF := Lib.hid (hf.set2 (Sa.sy s m + 1) (.int .i64 ((upS s m (Sa.sy s m + 1) + 1 : Nat) : Int)))
            rw [← natsC_set] at HF
            clear hS hL h2 h3 hf hb
            generalize upS s m (Sa.sy s m + 1) = v at *
            generalize upL s m (Sa.sy s m) = u at *
            generalize Sa.sy s m = x at *
            go_wp2
            go_roundw
            case rel => exact ⟨m + 1, _, _, by go_num, by omega, T2.out, T3.out, HF.out⟩
            case measure => simp [intOf]; omega
          | false =>
            have T2 : Hid (Tab xs2 (K + 1) (upS s (m + 1))) := h2.congr (fun c _ => by rw [hS, hb]; simp)
            have T3 : Hid (Tab (xs3.set (Sa.sy s m) (upL s m (Sa.sy s m) + 1)) (K + 1) (upL s (m + 1))) := h3.set _ _ _ (fun c _ => by rw [hL, hb]; by_cases e : c = Sa.sy s m <;> simp [e])
            rw [hb] at kb
            have HF := Lib.hid (hf.set3 (Sa.sy s m) (.int .i64 ((upL s m (Sa.sy s m) + 1 : Nat) : Int)))
            rw [← natsC_set] at HF
            clear hS hL h2 h3 hf hb
            generalize upS s m (Sa.sy s m + 1) = v at *
            generalize upL s m (Sa.sy s m) = u at *
            generalize Sa.sy s m = x at *
            go_wp2
            go_roundw
            case rel => exact ⟨m + 1, _, _, by go_num, by omega, T2.out, T3.out, HF.out⟩
            case measure => simp [intOf]; omega
        · obtain rfl : m = n := by omega
          have h8i : ¬ (m : Int) < (m : Int) := by omega
          go_wp2
          go_loopw [107] (fun i wr => ∃ (c' : Nat) (xs2 xs3 : List Nat), i = .int .i64 (c' : Int) ∧ c' ≤ K ∧ Tab xs2 (K + 1) (fun j => if j ≤ c' then Sa.lo s j else Sa.ns s (j - 1)) ∧ Tab xs3 (K + 1) (fun j => if j < c' then Sa.mid s j else Sa.nl s j) ∧ FreshW w wr A m c K p g1 g2 g3 g5 B (boolsC (smL s)) (natsC xs2) (natsC xs3) (.slice none 0 0) (List.replicate (m + 1) (.int .i64 0))) (fun i _ => K - (intOf i).toNat)
          case atStart =>
            refine ⟨0, xs2, xs3, rfl, by omega, h2.congr (fun j hj => ?_), h3.congr (fun j hj => ?_), hf⟩
            · unfold upS
              by_cases e : j = 0
              · subst e; rw [if_pos (by omega), if_pos rfl, Sa.lo_zero]
              · rw [if_neg (by omega), if_neg e, ← HN.out]; rfl
            · rw [if_neg (by omega)]; unfold upL; rw [← HN.out]; rfl
          case round =>
            clear hf h2 h3 h8i
            obtain ⟨d, xs2, xs3, rfl, hdk, h2, h3, hf⟩ := hrel
            by_cases hd : d < K
            · have hdi : (d : Int) < (K : Int) := by omega
              have k2 := hf.bp.cell (o := 2) rfl
              have k3 := hf.bp.cell (o := 3) rfl
              have v2 := hf.b2.cell (o := d) (natsC_at (h2.at (c := d) (by omega) (if_pos (Nat.le_refl _))))
              have v3 := hf.b3.cell (o := d) (natsC_at (h3.at (c := d) (by omega) (if_neg (Nat.lt_irrefl _))))
              have f3 := hf.b3.froz d
              have hlo := Sa.lo_le s d
              have hlo1 := Sa.lo_le s (d + 1)
              have hus := Sa.lo_succ s d
              have hml := Sa.mid_le s d
              have hmd : Sa.mid s d = Sa.lo s d + Sa.nl s d := rfl
              rw [HN.out] at hlo hlo1
              have T3 : Hid (Tab (xs3.set d (Sa.nl s d + Sa.lo s d)) (K + 1) (fun j => if j < d + 1 then Sa.mid s j else Sa.nl s j)) := h3.set _ _ _ (fun j _ => by
                by_cases e : j = d
                · subst e; rw [if_pos (by omega), if_pos rfl, hmd]; omega
                · rw [if_neg e]; by_cases e2 : j < d
                  · rw [if_pos e2, if_pos (by omega)]
                  · rw [if_neg e2, if_neg (by omega)])
              have T2 : Hid (Tab (xs2.set (d + 1) (Sa.ns s d + (Sa.nl s d + Sa.lo s d))) (K + 1) (fun j => if j ≤ d + 1 then Sa.lo s j else Sa.ns s (j - 1))) := h2.set _ _ _ (fun j _ => by
                by_cases e : j = d + 1
                · subst e; rw [if_pos (by omega), if_pos rfl]; omega
                · rw [if_neg e]; by_cases e2 : j ≤ d
                  · rw [if_pos e2, if_pos (by omega)]
                  · rw [if_neg e2, if_neg (by omega)])
              have V2 : Hid ((natsC xs2)[d + 1]? = some (.int .i64 (Sa.ns s d : Int))) := by
                exact natsC_at (h2.at (c := d + 1) (by omega) (if_neg (by omega)))
              have hb1 : Sa.nl s d + Sa.lo s d ≤ m := by omega
              have hb2 : Sa.ns s d + (Sa.nl s d + Sa.lo s d) ≤ m := by omega
              have V3 : Hid ((natsC (xs3.set d (Sa.nl s d + Sa.lo s d)))[d]? = some (.int .i64 ((Sa.nl s d + Sa.lo s d : Nat) : Int))) := natsC_at (by rw [List.getElem?_set]; simp [h3.1, hd]; omega)
              clear h2 h3 hus hml hmd hlo hlo1
              generalize Sa.nl s d = u at *
              generalize Sa.lo s d = x at *
              generalize Sa.ns s d = y at *
              go_wp2
              refine wp_region_qtail 16 (by kernel_rfl) (by kernel_rfl) ?_
              simp only [List.take_succ_cons, List.take_zero, List.drop_succ_cons, List.drop_zero]
              repeat (go_big_quiet_step (fail))
              refine wpQuiet_nil ?_
              go_wp2
              have hf1 := (hf.drewN 1).set3 d (.int .i64 ((u + x : Nat) : Int))
              rw [← natsC_set] at hf1
              obtain ⟨wX, hwX⟩ : ∃ wX, wX = (wr.drewN 1).setCell ⟨g3, d, none⟩ (.int .i64 ((u : Int) + (x : Int))) := ⟨_, rfl⟩
              rw [show ((u + x : Nat) : Int) = (u : Int) + (x : Int) by omega, ← hwX] at hf1
              rw [← hwX]
              clear hwX hf k2 k3 v2 v3 f3
              have k2 := hf1.bp.cell (o := 2) rfl
              have k3 := hf1.bp.cell (o := 3) rfl
              have v3 := hf1.b3.cell V3.out
              have v2 := hf1.b2.cell V2.out
              have f2 := hf1.b2.froz (d + 1)
              have hz1 : (0 : Int) ≤ (d : Int) + 1 := by omega
              have hz2 : (d : Int) + 1 < (K : Int) + 1 := by omega
              have hwd : IntKind.i64.wrap ((d : Int) + 1) = (d : Int) + 1 := wrapI (by omega)
              have htd : ((d : Int) + 1).toNat = d + 1 := by omega
              have HF2 := Lib.hid ((hf1.drewN 1).set2 (d + 1) (.int .i64 ((y + (u + x) : Nat) : Int)))
              rw [← natsC_set] at HF2
              rw [show ((u + x : Nat) : Int) = (u : Int) + (x : Int) by omega] at v3
              clear hf1
              refine wp_region_qtail 17 (by kernel_rfl) (by kernel_rfl) ?_
              simp only [List.take_succ_cons, List.take_zero, List.drop_succ_cons, List.drop_zero]
              repeat (go_big_quiet_step (fail))
              refine wpQuiet_nil ?_
              go_wp2
              go_roundw
              case rel => exact ⟨d + 1, _, _, by go_num, by omega, T2.out, T3.out, by have h := HF2.out; rw [show ((y + (u + x) : Nat) : Int) = (y : Int) + ((u : Int) + (x : Int)) by omega] at h; exact h⟩
              case measure => simp [intOf]; omega
            · obtain rfl : d = K := by omega
              have hdi : ¬ (d : Int) < (d : Int) := by omega
              have T2 : Tab xs2 (d + 1) (Sa.lo s) := h2.congr (fun j hj => by rw [if_pos (by omega)])
              have T3 : ∀ j, j < d → xs3[j]? = some (Sa.mid s j) := fun j hj => h3.at (c := j) (by omega) (if_pos hj)
              have HL3 := Lib.hid h3.1
              have HT2 := Lib.hid T2
              have HT3 := Lib.hid T3
              clear h2 h3 T2 T3
              have k5 := hf.bp.cell (o := 5) rfl
              go_wp2
              clear k5
              go_loopw [149] (fun i wr => ∃ (j : Nat) (A4 : Option Addr) (c4 : Nat) (xs5 : List Int), i = .int .i64 (j : Int) ∧ j ≤ m + 1 ∧ Hid (xs5.length = m + 1) ∧ Hid (∀ q, q < j → xs5[q]? = some (numb s q)) ∧ FreshW w wr A m c d p g1 g2 g3 g5 B (boolsC (smL s)) (natsC xs2) (natsC xs3) (.slice A4 (Sa.cnt j (Sa.lmsB s)) c4) (intsV xs5) ∧ Hid (wr.ownsRow B 3 1 (.slice A4 (Sa.cnt j (Sa.lmsB s)) c4) (Sa.cnt j (Sa.lmsB s)) (natsC ((List.range j).filter (Sa.lmsB s))))) (fun i _ => m + 1 - (intOf i).toNat)
              case atStart =>
                refine ⟨0, none, 0, List.replicate (m + 1) 0, rfl, by omega, Lib.hid (by simp), Lib.hid (fun q hq => by omega), ?_, Lib.hid (World.ownsRow_nil _ _ _ _)⟩
                have e : intsV (List.replicate (m + 1) 0) = List.replicate (m + 1) (.int .i64 0) := by simp [intsV]
                rw [e]; exact hf
              case round =>
                clear hf
                obtain ⟨j, A4, c4, xs5, rfl, hjm, HL5, HN5, hf, HO⟩ := hrel
                by_cases hj : j < m + 1
                · have hji : (j : Int) < (m : Int) + 1 := by omega
                  have hj0 : (0 : Int) ≤ (j : Int) := by omega
                  have k5 := hf.bp.cell (o := 5) rfl
                  obtain ⟨q5, hq5⟩ : ∃ q, xs5[j]? = some q := ⟨_, List.getElem?_eq_getElem (show j < xs5.length by rw [HL5.out]; omega)⟩
                  have v5 := hf.b5.cell (o := j) (intsV_at hq5)
                  have f5 := hf.b5.froz j
                  clear hq5
                  go_upto_region 24 with (fail)
                  have hf1 := hf.set5 j (.int .i64 (-1))
                  rw [← intsV_set] at hf1
                  have HO1 := own_set (p := g5) (o := j) HO.out hf.h5.2 (.int .i64 (-1))
                  obtain ⟨wX, hwX⟩ : ∃ wX, wX = wr.setCell ⟨g5, j, none⟩ (.int .i64 (-1)) := ⟨_, rfl⟩
                  rw [← hwX] at hf1 HO1 ⊢
                  replace HO1 := Lib.hid HO1
                  clear hwX hf k5 v5 f5 HO
                  have HC := Lib.hid (Sa.cnt_succ j (Sa.lmsB s))
                  have HR' : Hid ((List.range (j + 1)).filter (Sa.lmsB s) = (List.range j).filter (Sa.lmsB s) ++ (if Sa.lmsB s j = true then [j] else [])) := Lib.hid (by rw [List.range_succ, List.filter_append]; cases h : Sa.lmsB s j <;> simp [h])
                  have HN6 : Hid (∀ q, q < j + 1 → (xs5.set j (numb s j))[q]? = some (numb s q)) := Lib.hid (fun q hq => by
                    rw [List.getElem?_set]
                    by_cases e : j = q
                    · subst e; simp [HL5.out]; omega
                    · rw [if_neg e]; exact HN5.out q (by omega))
                  have HL6 : Hid ((xs5.set j (numb s j)).length = m + 1) := Lib.hid (by rw [List.length_set]; exact HL5.out)
                  have k1 := hf1.bp.cell (o := 1) rfl
                  by_cases hl : Sa.lmsB s j = true
                  · obtain ⟨e1, e2, e3, e4⟩ := (Sa.lmsB_iff s j).1 hl
                    rw [HN.out] at e2
                    have HLT := Lib.hid hl
                    have HNB : Hid (numb s j = (Sa.cnt j (Sa.lmsB s) : Int)) := Lib.hid (by unfold numb; rw [if_pos hl]; rfl)
                    have hzi : (0 : Int) < (j : Int) := by omega
                    have hjj : (j : Int) < (m : Int) := by omega
                    have kb := hf1.b1.cell (o := j) (boolsC_at (smL_at s j (by rw [HN.out]; exact e2)))
                    rw [e3] at kb
                    have kb1 := hf1.b1.cell (o := j - 1) (boolsC_at (smL_at s (j - 1) (by rw [HN.out]; omega)))
                    rw [e4] at kb1
                    have ht1 : ((j : Int) - 1).toNat = j - 1 := by omega
                    have hb1 : (0 : Int) ≤ (j : Int) - 1 := by omega
                    have hb2 : (j : Int) - 1 < (m : Int) := by omega
                    have k4 := hf1.bp.cell (o := 4) rfl
                    have k5 := hf1.bp.cell (o := 5) rfl
                    have v5 := hf1.b5.cell (o := j) (intsV_at (show (xs5.set j (-1))[j]? = some (-1) by rw [List.getElem?_set]; simp [HL5.out]; omega))
                    have f5 := hf1.b5.froz j
                    have hcl := Sa.cnt_le j (Sa.lmsB s)
                    clear e3 e4 hl
                    generalize Sa.cnt j (Sa.lmsB s) = M at *
                    go_wp2
                    refine wp_region_qtail 11 (by kernel_rfl) (by kernel_rfl) ?_
                    simp only [List.take_succ_cons, List.take_zero, List.drop_succ_cons, List.drop_zero]
                    repeat (go_big_quiet_step (fail))
                    refine wpQuiet_nil ?_
                    go_upto_region 26 with (fail)
                    have hf2 := (hf1.drewN 1).set5 j (.int .i64 (M : Int))
                    rw [← intsV_set] at hf2
                    have HO2 := own_set (w := wX.drewN 1) (p := g5) (o := j) HO1.out hf1.h5.2 (.int .i64 (M : Int))
                    obtain ⟨wY, hwY⟩ : ∃ wY, wY = (wX.drewN 1).setCell ⟨g5, j, none⟩ (.int .i64 (M : Int)) := ⟨_, rfl⟩
                    rw [← hwY] at hf2 HO2 ⊢
                    replace HO2 := Lib.hid HO2
                    clear hwY hf1 HO1 k1 kb kb1 k4 k5 v5 f5 ht1
                    have k4 := hf2.bp.cell (o := 4) rfl
                    have hbz := hf2.hB
                    go_wp2_with (at_builtin; refine wp_app1 (w0 := wY) rfl rfl _ _ 45 rfl B 3 (.int .i64 0) 1 8 Try.underlying45 info_int rfl (by decide) (by decide) _ M _ rfl HO2.out rfl rfl (one_cell1 rfl) (by omega) hbz ?_; intro v' w1 hown' hg' hb'; obtain ⟨A6, c6, rfl, _, _, _, _, _⟩ := own_rds hown'; have hf3 := hf2.ext hb'; have HO3 := Lib.hid hown'; have k4' := hf3.bp.cell (o := 4) rfl; have f4 := hf3.bp.froz 4; clear hown' hg' hb')
                    go_roundw
                    case rel =>
                      refine ⟨j + 1, A6, c6, (xs5.set j (-1)).set j (M : Int), by go_num, by omega, ?_, ?_, ?_, ?_⟩
                      · exact Lib.hid (by simpa using HL5.out)
                      · rw [HNB.out] at HN6; rw [List.set_set]; exact HN6
                      · rw [HC.out, HLT.out]; exact hf3.set4 _
                      · rw [HR'.out, HC.out, HLT.out]
                        exact Lib.hid (own_set (by have h := HO3.out; simpa [natsC] using h) hf3.hp.2 _)
                    case measure => simp [intOf]; omega
                  · have HNB : Hid (numb s j = -1) := Lib.hid (by unfold numb; rw [if_neg hl])
                    have HLF : Hid (Sa.lmsB s j = false) := Lib.hid (by simpa using hl)
                    have hway : j = 0 ∨ j = m ∨ (0 < j ∧ j < m ∧ Sa.sm s j = false) ∨ (0 < j ∧ j < m ∧ Sa.sm s j = true ∧ Sa.sm s (j - 1) = true) := by
                      by_cases e0 : j = 0
                      · exact .inl e0
                      · by_cases e1 : j = m
                        · exact .inr (.inl e1)
                        · cases e2 : Sa.sm s j with
                          | false => exact .inr (.inr (.inl ⟨by omega, by omega, rfl⟩))
                          | true =>
                            cases e3 : Sa.sm s (j - 1) with
                            | true => exact .inr (.inr (.inr ⟨by omega, by omega, rfl, rfl⟩))
                            | false => exact absurd ((Sa.lmsB_iff s j).2 ⟨by omega, by rw [HN.out]; omega, e2, e3⟩) hl
                    clear hl
                    rcases hway with e0 | e1 | ⟨e1, e2, e3⟩ | ⟨e1, e2, e3, e4⟩
                    · subst e0
                      go_wp2
                      go_roundw
                      case rel =>
                        refine ⟨0 + 1, A4, c4, xs5.set 0 (-1), by go_num, by omega, ?_, ?_, ?_, ?_⟩
                        · rw [HNB.out] at HL6; exact HL6
                        · rw [HNB.out] at HN6; exact HN6
                        · rw [HC.out, HLF.out]; exact hf1
                        · rw [HR'.out, HC.out, HLF.out]; simp only [Bool.toNat_false, Nat.add_zero, Bool.false_eq_true, if_false, List.append_nil]; exact HO1
                      case measure => first | (simp [intOf]; done) | (simp [intOf]; omega)
                    · subst e1
                      by_cases hz : 0 < j
                      · have hzi : (0 : Int) < (j : Int) := by omega
                        have hjj : ¬ (j : Int) < (j : Int) := by omega
                        go_wp2
                        go_roundw
                        case rel =>
                          refine ⟨j + 1, A4, c4, xs5.set j (-1), by go_num, by omega, ?_, ?_, ?_, ?_⟩
                          · rw [HNB.out] at HL6; exact HL6
                          · rw [HNB.out] at HN6; exact HN6
                          · rw [HC.out, HLF.out]; exact hf1
                          · rw [HR'.out, HC.out, HLF.out]; simp only [Bool.toNat_false, Nat.add_zero, Bool.false_eq_true, if_false, List.append_nil]; exact HO1
                        case measure => first | (simp [intOf]; done) | (simp [intOf]; omega)
                      · have hzi : ¬ (0 : Int) < (j : Int) := by omega
                        go_wp2
                        go_roundw
                        case rel =>
                          refine ⟨j + 1, A4, c4, xs5.set j (-1), by go_num, by omega, ?_, ?_, ?_, ?_⟩
                          · rw [HNB.out] at HL6; exact HL6
                          · rw [HNB.out] at HN6; exact HN6
                          · rw [HC.out, HLF.out]; exact hf1
                          · rw [HR'.out, HC.out, HLF.out]; simp only [Bool.toNat_false, Nat.add_zero, Bool.false_eq_true, if_false, List.append_nil]; exact HO1
                        case measure => first | (simp [intOf]; done) | (simp [intOf]; omega)
                    · have hzi : (0 : Int) < (j : Int) := by omega
                      have hjj : (j : Int) < (m : Int) := by omega
                      have kb := hf1.b1.cell (o := j) (boolsC_at (smL_at s j (by rw [HN.out]; exact e2)))
                      rw [e3] at kb
                      clear e3
                      go_wp2
                      go_roundw
                      case rel =>
                        refine ⟨j + 1, A4, c4, xs5.set j (-1), by go_num, by omega, ?_, ?_, ?_, ?_⟩
                        · rw [HNB.out] at HL6; exact HL6
                        · rw [HNB.out] at HN6; exact HN6
                        · rw [HC.out, HLF.out]; exact hf1
                        · rw [HR'.out, HC.out, HLF.out]; simp only [Bool.toNat_false, Nat.add_zero, Bool.false_eq_true, if_false, List.append_nil]; exact HO1
                      case measure => first | (simp [intOf]; done) | (simp [intOf]; omega)
                    · have hzi : (0 : Int) < (j : Int) := by omega
                      have hjj : (j : Int) < (m : Int) := by omega
                      have kb := hf1.b1.cell (o := j) (boolsC_at (smL_at s j (by rw [HN.out]; exact e2)))
                      rw [e3] at kb
                      have kb1 := hf1.b1.cell (o := j - 1) (boolsC_at (smL_at s (j - 1) (by rw [HN.out]; omega)))
                      rw [e4] at kb1
                      have ht1 : ((j : Int) - 1).toNat = j - 1 := by omega
                      have hb1 : (0 : Int) ≤ (j : Int) - 1 := by omega
                      have hb2 : (j : Int) - 1 < (m : Int) := by omega
                      clear e3 e4
                      go_wp2
                      go_roundw
                      case rel =>
                        refine ⟨j + 1, A4, c4, xs5.set j (-1), by go_num, by omega, ?_, ?_, ?_, ?_⟩
                        · rw [HNB.out] at HL6; exact HL6
                        · rw [HNB.out] at HN6; exact HN6
                        · rw [HC.out, HLF.out]; exact hf1
                        · rw [HR'.out, HC.out, HLF.out]; simp only [Bool.toNat_false, Nat.add_zero, Bool.false_eq_true, if_false, List.append_nil]; exact HO1
                      case measure => first | (simp [intOf]; done) | (simp [intOf]; omega)
                · obtain rfl : j = m + 1 := by omega
                  have hji : ¬ ((m + 1 : Nat) : Int) < (m : Int) + 1 := by omega
                  go_wp2
                  go_ret
                  have hlast : Sa.lmsB s m = false := by
                    cases h : Sa.lmsB s m with
                    | false => rfl
                    | true => have := ((Sa.lmsB_iff s m).1 h).2.1; rw [HN.out] at this; omega
                  obtain ⟨A7, c7, e7, _, _, _, r7, _⟩ := own_rds HO.out
                  obtain ⟨rfl, e8, rfl⟩ := Value.slice.inj e7
                  have hcnt : Sa.cnt (m + 1) (Sa.lmsB s) = (Sa.lmsL s).length := by rw [Sa.cnt_succ, hlast, Sa.lmsL_len, HN.out]; rfl
                  have hfil : (List.range (m + 1)).filter (Sa.lmsB s) = Sa.lmsL s := by rw [List.range_succ, List.filter_append]; unfold Sa.lmsL; rw [HN.out]; simp [hlast]
                  rw [hfil] at r7
                  have hb := hf.bp
                  rw [hcnt] at hb
                  refine ⟨p, rfl, ⟨A, c, some ⟨g1, 0, none⟩, some ⟨g2, 0, none⟩, some ⟨g3, 0, none⟩, A4, c4, some ⟨g5, 0, none⟩, xs3, ?_, ?_, hb.cell rfl, hb.cell rfl, hb.cell rfl, ?_, HR.out.ext hf.bel (Nat.le_refl _), hf.b1.rds, ?_, hf.b3.rds, r7, ?_, HL3.out, HT3.out⟩, hf.bel, ⟨Blk.farA hf.bp (by decide), ?_⟩⟩
                  · rw [HN.out]; exact hb.cell rfl
                  · rw [HN.out]; exact hb.cell rfl
                  · rw [HN.out]; exact hb.cell rfl
                  · rw [← tab_eq HT2.out]; exact hf.b2.rds
                  · rw [HN.out, ← map_eq HL5.out HN5.out]; exact hf.b5.rds
                  · intro o n' c' A' hA'
                    rw [hb.cellE o] at hA'
                    rcases (show o = 0 ∨ o = 1 ∨ o = 2 ∨ o = 3 ∨ o = 4 ∨ o = 5 ∨ 6 ≤ o by omega) with rfl | rfl | rfl | rfl | rfl | rfl | ho
                    · obtain ⟨rfl, _⟩ := Value.slice.inj (Option.some.inj hA'); exact hfar.ext hf.bel (Nat.le_refl _)
                    · obtain ⟨rfl, _⟩ := Value.slice.inj (Option.some.inj hA'); exact Blk.farA hf.b1 (by decide)
                    · obtain ⟨rfl, _⟩ := Value.slice.inj (Option.some.inj hA'); exact Blk.farA hf.b2 (by decide)
                    · obtain ⟨rfl, _⟩ := Value.slice.inj (Option.some.inj hA'); exact Blk.farA hf.b3 (by decide)
                    · obtain ⟨rfl, _⟩ := Value.slice.inj (Option.some.inj hA'); exact own_far HO.out (by decide)
                    · obtain ⟨rfl, _⟩ := Value.slice.inj (Option.some.inj hA'); exact Blk.farA hf.b5 (by decide)
                    · rw [List.getElem?_eq_none (by simp; omega)] at hA'; cases hA'
end Go.Proofs.Ytfiioobdknbacaa
