/- The walk of the law SuffixRises. -/
import Derived.Test.YtkjajdhempceaaaAskS
import Derived.Test.YtkjajdhempceaaaCommon
set_option linter.unusedVariables false
set_option linter.unusedSimpArgs false
namespace Lec.Sa
theorem lcpL_rise : ∀ (xs ys : List Nat), xs < ys → lcpL ys xs < ys.length ∧ ∀ u v, xs[lcpL ys xs]? = some u → ys[lcpL ys xs]? = some v → u < v
  | xs, [], h => absurd h (lt_nil _)
  | [], b :: bs, h => ⟨by simp [lcpL], fun u v hu => by simp at hu⟩
  | a :: ar, b :: bs, h => by
    rw [List.cons_lt_cons_iff] at h
    by_cases e : b = a
    · subst e
      have hlt : ar < bs := by
        rcases h with h | h
        · omega
        · exact h.2
      obtain ⟨h1, h2⟩ := lcpL_rise ar bs hlt
      have hu : lcpL (b :: bs) (b :: ar) = lcpL bs ar + 1 := by rw [lcpL, if_pos rfl]
      rw [hu]
      exact ⟨by simp; omega, fun u v hu hv => h2 u v (by simpa using hu) (by simpa using hv)⟩
    · have hlt : a < b := by
        rcases h with h | h
        · exact h
        · exact absurd h.1.symm e
      have hu : lcpL (b :: bs) (a :: ar) = 0 := by rw [lcpL, if_neg e]
      rw [hu]
      exact ⟨by simp, fun u v hu hv => by simp at hu hv; omega⟩
theorem rise {s : List Nat} {x y : Nat} (h : s.drop x < s.drop y) : y + lcp s y x < s.length ∧ (x + lcp s y x < s.length → sy s (x + lcp s y x) < sy s (y + lcp s y x)) := by
  obtain ⟨h1, h2⟩ := lcpL_rise _ _ h
  rw [List.length_drop] at h1
  have h1' : y + lcp s y x < s.length := by unfold lcp; omega
  exact ⟨h1', fun hx => h2 _ _ (get_drop s x _ hx) (get_drop s y _ h1')⟩
end Lec.Sa
namespace Go.Proofs.Ytkjajdhempceaaa
open Go.RowKit Lec

set_option maxRecDepth 100000 in
set_option maxHeartbeats 4000000 in
theorem SuffixRises_walk (W : World) (A : Option Addr) (c : Nat) (xs : List (List Int × List Int)) (hrow : Row AskS W A xs) (hlc : xs.length ≤ c) (hcm : c ≤ maxLen) (hnone : A = none → xs.length = 0 ∧ c = 0) (hby : c * 48 ≤ reachBytes) :
    Calls Try.prog 7 #[.slice A xs.length c] W fun e w' => e = .returned (.bool true) ∧ Below W.heap.size W w' := by
  have HR := Lib.hid hrow
  have hlen : xs.length ≤ 9223372036854775807 := by unfold maxLen at hcm; omega
  clear hrow hnone hby hcm hlc
  go_enter Try.func7, Try.ntmps7
  go_wp2
  go_loopw [3] (fun i wr => ∃ k : Nat, k ≤ xs.length ∧ i = .int .i64 (k : Int) ∧ Hid (Below W.heap.size W wr)) (fun i _ => xs.length - (intOf i).toNat)
  case atStart => exact ⟨0, by omega, rfl, Below.refl _ _⟩
  case round =>
    obtain ⟨k, hk, rfl, HX⟩ := hrel
    obtain ⟨w0, rfl⟩ : ∃ x, x = wr := ⟨wr, rfl⟩
    by_cases h1 : k < xs.length ∧ k < 6
    · obtain ⟨h1, h2⟩ := h1
      have h1i : (k : Int) < (xs.length : Int) := by omega
      have h2i : (k : Int) < 6 := by omega
      obtain ⟨a, B, cb, D, d, rfl, hc0, hc1, hb1, hb3, hb4, hd1, hd3, hd4⟩ := askS_at (HR.out.ext HX.out (Nat.le_refl _)) k h1
      generalize xs[k] = x at *
      obtain ⟨L, Is⟩ := x
      dsimp only at hc0 hc1 hb1 hb3 hb4 hd1 hd3 hd4
      generalize hu : heavyS L Is = u
      have HU := Lib.hid hu
      have HEV := Lib.hid (heavyS_any w0 B L.length cb D Is.length d L Is rfl rfl)
      clear hd3 hu
      rw [HU.out] at HEV
      go_wp2_with fail
      refine HEV.out.mono ?_
      rintro e w1 ⟨rfl, hbe1⟩
      have HX1 : Hid (Below W.heap.size W w1) := HX.out.trans (hbe1.mono HX.out.size)
      cases u with
      | true =>
        go_wp2
        go_ret
        exact ⟨rfl, HX1.out⟩
      | false =>
        obtain ⟨hl1, hl2⟩ := heavyS_light HU.out
        have HB4 := Lib.hid (hb4.ext hbe1 (Nat.le_refl _))
        have HB3 := Lib.hid hb3
        clear HU hbe1 HEV hc0 hc1 hb4 hd4 hb3
        obtain ⟨l, hl⟩ : ∃ l, l = L.length := ⟨_, rfl⟩
        have HLL : Hid (L.length = l) := Lib.hid hl.symm
        rw [← hl] at hb1 hl1 HB3 ⊢
        clear hl
        cases hms : mayS 512 L with
        | false =>
          have HBAD := Lib.hid (Sort_bad w1 B l cb L HLL.out (by omega) HB4.out hms)
          clear hms
          go_wp2_with fail
          refine HBAD.out.mono ?_
          rintro e w2 ⟨rfl, rfl⟩
          go_wp2_with (go_at_call 15; refine (num4 _ _).mono ?_; rintro e wq ⟨rfl, rfl⟩)
          go_roundw
          case rel => exact ⟨k + 1, by omega, by go_num, HX1.out⟩
          case measure => first | (simp [intOf]; done) | (simp [intOf]; omega)
        | true =>
          have HLS := Lib.hid (symN_cells hms)
          have hsl := symN_len L
          have hsb := symN_lt hms
          generalize symN L = s at *
          have hls : l = s.length := by rw [hsl]; exact HLL.out.symm
          subst hls
          have HS512 : Hid (∀ x, x ∈ s → x < 512) := Lib.hid (fun x hx => by
            obtain ⟨i, hi, rfl⟩ := List.mem_iff_getElem.1 hx
            have := hsb i hi
            unfold Sa.sy at this
            rwa [List.getD_eq_getElem?_getD, List.getElem?_eq_getElem hi] at this)
          have HBS : Hid (Rds w1 B (natsC s)) := Lib.hid (by rw [← HLS.out]; exact HB4.out)
          have HSORT := Lib.hid (Sort_nat w1 B cb s (by omega) HBS.out HB3.out HS512.out)
          clear hms hsl hsb
          go_wp2_with fail
          refine HSORT.out.mono ?_
          rintro e w2 ⟨A2, b, rfl, hown, hsa, hb2⟩
          obtain ⟨A2', c2', he2, _, _, _, r2, _⟩ := own_rds hown
          obtain ⟨rfl, _, rfl⟩ := Value.slice.inj he2
          have HSA := Lib.hid hsa
          have HBL := Lib.hid hsa.len
          have HX2 : Hid (Below W.heap.size W w2) := Lib.hid (HX1.out.trans (hb2.mono HX1.out.size))
          have HB2 := Lib.hid (HBS.out.ext hb2 (Nat.le_refl _))
          have HA2 := Lib.hid r2
          clear hown hsa hb2 r2 he2 HSORT
          have HCOM := Lib.hid (Common_any w2 B cb s (by omega) HB2.out HB3.out HS512.out A2 s.length (b.map fun v : Nat => (v : Int)) (by rw [List.length_map]; exact HBL.out) (by rw [← natsC_ints]; exact HA2.out) b HSA.out)
          go_wp2_with (go_at_call 15; refine (num4 _ _).mono ?_; rintro e wq ⟨rfl, rfl⟩)
          refine HCOM.out.mono ?_
          rintro e w3 ⟨hb3, ⟨hav, C3, rfl, r3⟩ | ⟨hne, _⟩⟩
          · have hnn : ((s.length : Int) != (s.length : Int)) = false := by simp
            have hmk := mk_bools s.length (by omega)
            have HX3 : Hid (Below W.heap.size W w3) := Lib.hid (HX2.out.trans (hb3.mono HX2.out.size))
            have HA3 := Lib.hid (HA2.out.ext hb3 (Nat.le_refl _))
            have HB3' := Lib.hid (HB2.out.ext hb3 (Nat.le_refl _))
            have HC3 := Lib.hid r3
            clear hb3 hav r3 HCOM
            go_wp2_with (go_at_call 15; refine (num4 _ _).mono ?_; rintro e wq ⟨rfl, rfl⟩)
            obtain ⟨w4, hw4⟩ : ∃ w4, w4 = w3.alloc (.cells (Array.replicate s.length (.bool false)) 4) := ⟨_, rfl⟩
            have hb4 : Blk w4 w3.heap.size 4 (boolsC (List.replicate s.length false)) := by rw [hw4]; exact Blk.newL _ _ _ _ _ rfl (by simp [boolsC])
            have hbe4 : Below w3.heap.size w3 w4 := by rw [hw4]; exact (Below.refl _ _).alloc (Nat.le_refl _) _
            rw [← hw4]
            clear hw4 hmk
            go_loopw [10] (fun i wx => ∃ (m : Nat) (sn : List Bool), i = .int .i64 (m : Int) ∧ m ≤ s.length ∧ Hid (sn.length = s.length) ∧ Hid (∀ v, sn[v]? = some true → ∃ j, j < m ∧ b[j]? = some v) ∧ Blk wx w3.heap.size 4 (boolsC sn) ∧ Below w3.heap.size w3 wx) (fun i _ => s.length - (intOf i).toNat)
            case atStart => exact ⟨0, _, rfl, by omega, Lib.hid (by simp), Lib.hid (fun v hv => by rw [List.getElem?_replicate] at hv; split at hv <;> simp at hv), hb4, hbe4⟩
            case round =>
              clear hb4 hbe4
              obtain ⟨m, sn, rfl, hmM, HSL, HSN, hbs, hbe⟩ := hrel
              obtain ⟨wz, rfl⟩ : ∃ x, x = wr := ⟨wr, rfl⟩
              by_cases hm2 : m < s.length
              · have hmi : (m : Int) < (s.length : Int) := by omega
                have hm0 : (0 : Int) ≤ (m : Int) := by omega
                obtain ⟨v, hv⟩ : ∃ v, b[m]? = some v := ⟨_, List.getElem?_eq_getElem (by rw [HBL.out]; exact hm2)⟩
                have HV := Lib.hid hv
                have hvl := HSA.out.lt v (List.mem_iff_getElem?.2 ⟨m, hv⟩)
                obtain ⟨ab, rfl, cb1⟩ := (HA3.out.ext hbe (Nat.le_refl _)) m _ (natsC_at hv)
                obtain ⟨z, hz⟩ : ∃ z, sn[v]? = some z := ⟨_, List.getElem?_eq_getElem (by rw [HSL.out]; exact hvl)⟩
                have hz0 : z = false := by
                  cases z with
                  | false => rfl
                  | true =>
                    obtain ⟨j, hj, hjv⟩ := HSN.out v hz
                    exact absurd (HSA.out.lt_at hj hjv hv) (List.lt_irrefl _)
                subst hz0
                have cz := hbs.cell (boolsC_at hz)
                have fz := hbs.froz v
                have hvi : (v : Int) < (s.length : Int) := by omega
                have hv0 : ¬ (v : Int) < 0 := by omega
                have hv00 : (0 : Int) ≤ (v : Int) := by omega
                have hv1 : ¬ (s.length : Int) ≤ (v : Int) := by omega
                have hb5 := hbs.set v (.bool true)
                rw [← boolsC_set] at hb5
                have hbe5 : Below w3.heap.size w3 (wz.setCell ⟨w3.heap.size, v, none⟩ (.bool true)) := hbe.setCell (Nat.le_refl _) _
                have HSN2 : Hid (∀ u, (sn.set v true)[u]? = some true → ∃ j, j < m + 1 ∧ b[j]? = some u) := Lib.hid (fun u hu => by
                  rw [List.getElem?_set] at hu
                  by_cases e : v = u
                  · subst e; exact ⟨m, by omega, HV.out⟩
                  · rw [if_neg e] at hu
                    obtain ⟨j, hj, hjv⟩ := HSN.out u hu
                    exact ⟨j, by omega, hjv⟩)
                obtain ⟨ac, rfl, cc1⟩ := (HC3.out.ext hbe5 (Nat.le_refl _)) m _ (natsC_at (Sa.comL_at s b m (by rw [HBL.out]; exact hm2)))
                obtain ⟨w5, hw5⟩ : ∃ w5, w5 = wz.setCell ⟨w3.heap.size, v, none⟩ (.bool true) := ⟨_, rfl⟩
                rw [← hw5] at hb5 hbe5
                have HB5 := Lib.hid hb5
                have HBE5 := Lib.hid hbe5
                have HW5 := Lib.hid hw5
                clear hv hz hb5 hbe5 hw5
                by_cases hk1 : m = 0
                · have hne : (((Sa.valC s b m : Nat) : Int) != 0) = false := by rw [hk1]; rfl
                  have hm00 : ((m : Int) == 0) = true := by rw [beq_iff_eq]; omega
                  clear hk1
                  go_wp2
                  go_roundw
                  case rel => exact ⟨m + 1, _, by go_num, by omega, Lib.hid (by rw [List.length_set]; exact HSL.out), HSN2, by have := HB5.out; rwa [HW5.out] at this, by have := HBE5.out; rwa [HW5.out] at this⟩
                  case measure => first | (simp [intOf]; done) | (simp [intOf]; omega)
                · obtain ⟨u, hu⟩ : ∃ u, b[m - 1]? = some u := ⟨_, List.getElem?_eq_getElem (by rw [HBL.out]; omega)⟩
                  have hun := HSA.out.lt u (List.mem_iff_getElem?.2 ⟨m - 1, hu⟩)
                  have HVAL : Hid (Sa.valC s b m = Sa.lcp s v u) := Lib.hid (by unfold Sa.valC; rw [if_neg hk1, Sa.getD_of HV.out, Sa.getD_of hu])
                  have HRISE := Lib.hid (Sa.rise (HSA.out.lt_at (show m - 1 < m by omega) hu HV.out))
                  have hle := Sa.lcp_le (s := s) (i := v) (j := u) (by omega)
                  have hkt : ((m : Int) - 1).toNat = m - 1 := by omega
                  have hk10 : (0 : Int) ≤ (m : Int) - 1 := by omega
                  have hk1n : (m : Int) - 1 < (s.length : Int) := by omega
                  have hkw : IntKind.i64.wrap ((m : Int) - 1) = (m : Int) - 1 := wrapI (by omega)
                  have hm00 : ((m : Int) == 0) = false := by rw [beq_eq_false_iff_ne]; omega
                  obtain ⟨ab', e', cb3⟩ := (HA3.out.ext HBE5.out (Nat.le_refl _)) (m - 1) _ (natsC_at hu)
                  obtain rfl := Option.some.inj e'
                  obtain ⟨ab', e', cb4⟩ := (HA3.out.ext HBE5.out (Nat.le_refl _)) m _ (natsC_at HV.out)
                  obtain rfl := Option.some.inj e'
                  rw [HW5.out] at cb3 cb4
                  clear e'
                  have hkp : ¬ m = 0 := hk1
                  have hmp : 0 < m := by omega
                  clear hu hk1
                  go_wp2
                  go_quiet (fail)
                  go_wp2
                  rw [← HW5.out]
                  clear cb3 cb4 cc1 cb1 cz fz
                  have HB25 := Lib.hid (HB3'.out.ext HBE5.out (Nat.le_refl _))
                  obtain ⟨_, _, cc1⟩ := (HC3.out.ext HBE5.out (Nat.le_refl _)) m _ (natsC_at (Sa.comL_at s b m (by rw [HBL.out]; exact hm2)))
                  rename_i acq ecq
                  obtain rfl := Option.some.inj ecq
                  clear ecq
                  have HCC1 := Lib.hid cc1
                  clear cc1
                  go_loopw [13] (fun h wy => ∃ (h2 q : Nat), h = .int .i64 (h2 : Int) ∧ h2 ≤ Sa.lcp s v u ∧ wy = w5.drewN q) (fun h _ => s.length + 1 - (intOf h).toNat)
                  case atStart => exact ⟨0, _, rfl, by omega, rfl⟩
                  case round =>
                    obtain ⟨h2, q, rfl, hh2, rfl⟩ := hrel
                    have v3 : IntKind.i64.wrap ((v : Int) + (h2 : Int)) = (v : Int) + (h2 : Int) := wrapI (by omega)
                    have v4 : IntKind.i64.wrap ((u : Int) + (h2 : Int)) = (u : Int) + (h2 : Int) := wrapI (by omega)
                    by_cases t1 : u + h2 < s.length
                    · have t1i : (u : Int) + (h2 : Int) < (s.length : Int) := by omega
                      by_cases t2 : v + h2 < s.length
                      · have t2i : (v : Int) + (h2 : Int) < (s.length : Int) := by omega
                        obtain ⟨al, rfl, c1⟩ := HB25.out (v + h2) _ (natsC_at (v := Sa.sy s (v + h2)) (by rw [List.getElem?_eq_getElem t2]; simp [Sa.sy, List.getD_eq_getElem?_getD, t2]))
                        obtain ⟨al', e', c2⟩ := HB25.out (u + h2) _ (natsC_at (v := Sa.sy s (u + h2)) (by rw [List.getElem?_eq_getElem t1]; simp [Sa.sy, List.getD_eq_getElem?_getD, t1]))
                        obtain rfl := Option.some.inj e'
                        clear e'
                        have n1 : (0 : Int) ≤ (v : Int) + (h2 : Int) := by omega
                        have n2 : (0 : Int) ≤ (u : Int) + (h2 : Int) := by omega
                        have v1 : ((v : Int) + (h2 : Int)).toNat = v + h2 := by omega
                        have v2 : ((u : Int) + (h2 : Int)).toNat = u + h2 := by omega
                        by_cases t3 : Sa.sy s (u + h2) = Sa.sy s (v + h2)
                        · have HMORE := Lib.hid (Sa.lcp_more hh2 t2 t1 t3.symm)
                          have t3i : ((Sa.sy s (u + h2) : Int) == (Sa.sy s (v + h2) : Int)) = true := by rw [beq_iff_eq]; omega
                          clear t3
                          generalize Sa.sy s (v + h2) = x1 at *
                          generalize Sa.sy s (u + h2) = x2 at *
                          go_wp2
                          go_quiet (fail)
                          go_wp2
                          go_roundw
                          case rel => exact ⟨h2 + 1, _, by go_num, HMORE.out, by first | rfl | (rw [World.drewN_drewN])⟩
                          case measure => first | (simp [intOf]; done) | (simp [intOf]; omega)
                        · have hall := Sa.lcp_all hh2 (fun h => t3 h.2.2.symm)
                          have HALL : Hid (h2 = Sa.valC s b m) := Lib.hid (by rw [HVAL.out]; exact hall)
                          have HVN : Hid (v + h2 < s.length) := Lib.hid t2
                          have hrs := HRISE.out.2 (by rw [← hall]; exact t1)
                          rw [← hall] at hrs
                          have t3i : ((Sa.sy s (u + h2) : Int) == (Sa.sy s (v + h2) : Int)) = false := by rw [beq_eq_false_iff_ne]; omega
                          have t4i : ¬ (Sa.sy s (v + h2) ≤ Sa.sy s (u + h2)) := by omega
                          have HCC := HCC1.out
                          rw [← HALL.out] at HCC
                          have HCC := Lib.hid HCC
                          clear t3 hall hrs
                          generalize Sa.sy s (v + h2) = x1 at *
                          generalize Sa.sy s (u + h2) = x2 at *
                          have cc2 := HCC.out
                          have hh : ((h2 : Int) != (h2 : Int)) = false := by simp
                          have ge : decide ((s.length : Int) ≤ (v : Int) + (h2 : Int)) = false := decide_eq_false (by have := HVN.out; omega)
                          have ge2 : ¬ s.length ≤ v + h2 := by have := HVN.out; omega
                          go_wp2
                          go_quiet (fail)
                          go_wp2
                          go_quiet (fail)
                          go_wp2
                          go_roundw
                          case rel => exact ⟨m + 1, _, by go_num, by omega, Lib.hid (by rw [List.length_set]; exact HSL.out), HSN2, HB5.out, HBE5.out.trans ((drawn_below _ _).mono HBE5.out.size)⟩
                          case measure => first | (simp [intOf]; done) | (simp [intOf]; omega)
                      · have hall := Sa.lcp_all hh2 (fun h => t2 h.1)
                        exact absurd (by rw [hall]; exact HRISE.out.1) t2
                    · have hall := Sa.lcp_all hh2 (fun h => t1 h.2.1)
                      have HALL : Hid (h2 = Sa.valC s b m) := Lib.hid (by rw [HVAL.out]; exact hall)
                      have HVN : Hid (v + h2 < s.length) := Lib.hid (by rw [hall]; exact HRISE.out.1)
                      have t1i : decide ((u : Int) + (h2 : Int) < (s.length : Int)) = false := decide_eq_false (by omega)
                      have HCC := HCC1.out
                      rw [← HALL.out] at HCC
                      have HCC := Lib.hid HCC
                      clear hall
                      have cc2 := HCC.out
                      have hh : ((h2 : Int) != (h2 : Int)) = false := by simp
                      have ge : decide ((s.length : Int) ≤ (v : Int) + (h2 : Int)) = false := decide_eq_false (by have := HVN.out; omega)
                      have ge2 : ¬ s.length ≤ v + h2 := by have := HVN.out; omega
                      go_wp2
                      go_quiet (fail)
                      go_wp2
                      go_quiet (fail)
                      go_wp2
                      go_roundw
                      case rel => exact ⟨m + 1, _, by go_num, by omega, Lib.hid (by rw [List.length_set]; exact HSL.out), HSN2, HB5.out, HBE5.out.trans ((drawn_below _ _).mono HBE5.out.size)⟩
                      case measure => first | (simp [intOf]; done) | (simp [intOf]; omega)
              · obtain rfl : m = s.length := by omega
                have hmi : ¬ (s.length : Int) < (s.length : Int) := by omega
                go_wp2
                go_roundw
                case rel => exact ⟨k + 1, by omega, by go_num, HX3.out.trans (hbe.mono HX3.out.size)⟩
                case measure => first | (simp [intOf]; done) | (simp [intOf]; omega)
          · exact absurd rfl hne
    · by_cases h2 : k < xs.length
      · have h1i : (k : Int) < (xs.length : Int) := by omega
        have h2i : ¬ (k : Int) < 6 := by omega
        go_wp2_with (go_at_call 19; refine (wakes4 _).mono ?_; rintro e w1 ⟨rfl, hb⟩)
        go_ret
        exact ⟨rfl, HX.out.trans (hb.mono HX.out.size)⟩
      · have h1i : ¬ (k : Int) < (xs.length : Int) := by omega
        go_wp2_with (go_at_call 19; refine (wakes4 _).mono ?_; rintro e w1 ⟨rfl, hb⟩)
        go_ret
        exact ⟨rfl, HX.out.trans (hb.mono HX.out.size)⟩
end Go.Proofs.Ytkjajdhempceaaa
