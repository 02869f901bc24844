/- The walk of the law SuffixRuns. -/
import Derived.Test.YtkjajdhempceaaaAskS
import Derived.Test.YtkjajdhempceaaaSortN
set_option linter.unusedVariables false
set_option linter.unusedSimpArgs false
namespace Go.Proofs.Ytkjajdhempceaaa
open Go.RowKit Lec
/-- Three rows that are filled. -/
structure Trip (w wr : World) (g1 g2 g3 : Nat) (x1 x2 x3 : List Nat) : Prop where
  b1 : Blk wr g1 3 (natsC x1)
  b2 : Blk wr g2 3 (natsC x2)
  b3 : Blk wr g3 3 (natsC x3)
  h2 : w.heap.size ≤ g2
  h3 : w.heap.size ≤ g3
  n12 : g1 ≠ g2
  n13 : g1 ≠ g3
  n23 : g2 ≠ g3
  bel : Below w.heap.size w wr
theorem Trip.set2 {w wr : World} {g1 g2 g3 : Nat} {x1 x2 x3 : List Nat} (h : Trip w wr g1 g2 g3 x1 x2 x3) (i v : Nat) : Trip w (wr.setCell ⟨g2, i, none⟩ (.int .i64 (v : Int))) g1 g2 g3 x1 (x2.set i v) x3 :=
  ⟨h.b1.far _ h.n12, by rw [natsC_set]; exact h.b2.set i _, h.b3.far _ (Ne.symm h.n23), h.h2, h.h3, h.n12, h.n13, h.n23, h.bel.setCell h.h2 _⟩
theorem Trip.set3 {w wr : World} {g1 g2 g3 : Nat} {x1 x2 x3 : List Nat} (h : Trip w wr g1 g2 g3 x1 x2 x3) (i v : Nat) : Trip w (wr.setCell ⟨g3, i, none⟩ (.int .i64 (v : Int))) g1 g2 g3 x1 x2 (x3.set i v) :=
  ⟨h.b1.far _ h.n13, h.b2.far _ h.n23, by rw [natsC_set]; exact h.b3.set i _, h.h2, h.h3, h.n12, h.n13, h.n23, h.bel.setCell h.h3 _⟩

set_option maxRecDepth 100000 in
set_option maxHeartbeats 4000000 in
theorem SuffixRuns_walk (W : World) (A : Option Addr) (c : Nat) (xs : List (List Int × List Int)) (hrow : Row AskS W A xs) (hlc : xs.length ≤ c) (hcm : c ≤ maxLen) (hnone : A = none → xs.length = 0 ∧ c = 0) (hby : c * 48 ≤ reachBytes) :
    Calls Try.prog 4 #[.slice A xs.length c] W fun e w' => e = .returned (.bool true) ∧ Below W.heap.size W w' := by
  have hlen : xs.length ≤ 9223372036854775807 := by unfold maxLen at hcm; omega
  clear hrow hnone hby hcm hlc
  go_enter Try.func4, Try.ntmps4
  go_wp2
  go_loopw [3] (fun i wr => ∃ n : Nat, n ≤ 130 ∧ i = .int .i64 (n : Int) ∧ Hid (Below W.heap.size W wr)) (fun i _ => 130 - (intOf i).toNat)
  case atStart => exact ⟨0, by omega, rfl, Below.refl _ _⟩
  case round =>
    obtain ⟨n, hn, rfl, HX⟩ := hrel
    by_cases h1 : n < 100
    · have h1i : (n : Int) < 100 := by omega
      have hmk := mk_ints n (by omega)
      go_upto_region 4 with (fail)
      go_cut [4, 5, 6] (fun s4 s5 s6 wx => ∃ g1 g2 g3, s4 = .slice (some ⟨g1, 0, none⟩) n n ∧ s5 = .slice (some ⟨g2, 0, none⟩) n n ∧ s6 = .slice (some ⟨g3, 0, none⟩) n n ∧ Trip wr wx g1 g2 g3 (List.replicate n 0) (List.replicate n 0) (List.replicate n 0))
      case first =>
        go_region_held3 (fun w' => True) (first | trivial | go_keep) (fail)
        all_goals
          go_wp2_with fail
          go_meet
          refine ⟨_, _, _, rfl, rfl, rfl, Blk.drew1 ?_, Blk.drew1 ?_, Blk.drew1 ?_, by omega, by omega, by omega, by omega, by omega, Below.drew1 ?_⟩
          iterate 3 ((repeat (first | ((refine Blk.newL _ _ _ _ _ ?_ ?_) <;> (simp [natsC]; done)) | refine Blk.allocA ?_ _)))
          repeat (first | exact Below.refl _ _ | refine Below.allocA ?_ (Nat.le_refl _) _)
      case rest =>
        obtain ⟨g1, g2, g3, rfl, rfl, rfl, hT⟩ := hcut
        obtain ⟨w0, rfl⟩ : ∃ x, x = wr := ⟨wr, rfl⟩
        clear hmk
        go_wp2
        go_loopw [7] (fun i wx => ∃ (m : Nat) (x2 x3 : List Nat), i = .int .i64 (m : Int) ∧ m ≤ n ∧ Hid (x2.length = n) ∧ Hid (x3.length = n) ∧ Hid (∀ j, j < m → x2[j]? = some j ∧ x3[j]? = some (n - 1 - j)) ∧ Trip w0 wx g1 g2 g3 (List.replicate n 0) x2 x3) (fun i _ => n - (intOf i).toNat)
        case atStart => exact ⟨0, _, _, rfl, by omega, Lib.hid (by simp), Lib.hid (by simp), Lib.hid (fun j hj => by omega), hT⟩
        case round =>
          clear hT
          obtain ⟨m, x2, x3, rfl, hmn, HL2, HL3, HV, hT⟩ := hrel
          by_cases h2 : m < n
          · have h2i : (m : Int) < (n : Int) := by omega
            obtain ⟨y2, hy2⟩ : ∃ y, x2[m]? = some y := ⟨_, List.getElem?_eq_getElem (by rw [HL2.out]; exact h2)⟩
            obtain ⟨y3, hy3⟩ : ∃ y, x3[m]? = some y := ⟨_, List.getElem?_eq_getElem (by rw [HL3.out]; exact h2)⟩
            have c2 := hT.b2.cell (natsC_at hy2)
            have f2 := hT.b2.froz m
            have HT2 := Lib.hid (hT.set2 m m)
            have c3 := HT2.out.b3.cell (natsC_at hy3)
            have f3 := HT2.out.b3.froz m
            have HT3 := Lib.hid (HT2.out.set3 m (n - 1 - m))
            rw [show ((n - 1 - m : Nat) : Int) = (n : Int) - 1 - (m : Int) by omega] at HT3
            clear hy2 hy3
            go_wp2
            go_roundw
            case rel =>
              refine ⟨m + 1, _, _, by go_num, by omega, Lib.hid (by rw [List.length_set]; exact HL2.out), Lib.hid (by rw [List.length_set]; exact HL3.out), Lib.hid (fun j hj => ?_), HT3.out⟩
              rw [List.getElem?_set, List.getElem?_set]
              by_cases e : m = j
              · subst e; simp [HL2.out, HL3.out, h2]
              · rw [if_neg e, if_neg e]; exact HV.out j (by omega)
            case measure => first | (simp [intOf]; done) | (simp [intOf]; omega)
          · obtain rfl : m = n := by omega
            have h2i : ¬ (m : Int) < (m : Int) := by omega
            have e2 : x2 = List.range m := List.ext_getElem? (fun j => by
              by_cases hj : j < m
              · rw [(HV.out j hj).1, List.getElem?_range hj]
              · rw [List.getElem?_eq_none (by rw [HL2.out]; omega), List.getElem?_eq_none (by simp; omega)])
            have e3 : x3 = Sa.downL m := List.ext_getElem? (fun j => by
              by_cases hj : j < m
              · rw [(HV.out j hj).2, Sa.downL_at m j hj]
              · rw [List.getElem?_eq_none (by rw [HL3.out]; omega), List.getElem?_eq_none (by rw [Sa.downL_len]; omega)])
            subst e2 e3
            have hs1 := Sort_nat wr (some ⟨g1, 0, none⟩) m (List.replicate m 0) (by simp; omega) hT.b1.rds (fun e => by cases e) (fun x hx => by rw [List.eq_of_mem_replicate hx]; omega)
            rw [List.length_replicate] at hs1
            have HS1 := Lib.hid hs1
            have HBEL := Lib.hid hT.bel
            have HR2 := Lib.hid hT.b2.rds
            have HR3 := Lib.hid hT.b3.rds
            clear hs1 hT HV HL2 HL3
            go_wp2_with fail
            refine HS1.out.mono ?_
            rintro e w1 ⟨A1, b1, rfl, ho1, hsa1, hb1⟩
            obtain rfl : b1 = Sa.downL m := hsa1.eq (Sa.sa_same 0 m)
            rw [List.length_replicate] at ho1 ⊢
            have HO1 := Lib.hid ho1
            have HB1 := Lib.hid hb1
            have hs2 := Sort_nat w1 (some ⟨g2, 0, none⟩) m (List.range m) (by simp; omega) (HR2.out.ext hb1 (Nat.le_refl _)) (fun e => by cases e) (fun x hx => by have := List.mem_range.1 hx; omega)
            rw [List.length_range] at hs2
            have HS2 := Lib.hid hs2
            clear hs2 ho1 hsa1 hb1 HS1
            go_wp2_with fail
            refine HS2.out.mono ?_
            rintro e w2 ⟨A2, b2, rfl, ho2, hsa2, hb2⟩
            obtain rfl : b2 = List.range m := hsa2.eq (Sa.sa_up m)
            rw [List.length_range] at ho2 ⊢
            have HO2 := Lib.hid ho2
            have HB2 := Lib.hid (HB1.out.trans (hb2.mono HB1.out.size))
            have HO12 := Lib.hid (own_ext HO1.out hb2 (Nat.le_refl _))
            have hs3 := Sort_nat w2 (some ⟨g3, 0, none⟩) m (Sa.downL m) (by rw [Sa.downL_len]; omega) (HR3.out.ext HB2.out (Nat.le_refl _)) (fun e => by cases e) (fun x hx => by
              obtain ⟨i, hi, rfl⟩ := List.mem_iff_getElem.1 hx
              rw [Sa.downL_get]; omega)
            rw [Sa.downL_len] at hs3
            have HS3 := Lib.hid hs3
            clear hs3 ho2 hsa2 hb2 HS2 HO1 HB1
            go_wp2_with fail
            refine HS3.out.mono ?_
            rintro e w3 ⟨A3, b3, rfl, ho3, hsa3, hb3⟩
            obtain rfl : b3 = Sa.downL m := hsa3.eq (Sa.sa_down m)
            rw [Sa.downL_len] at ho3 ⊢
            have HB3 := Lib.hid (HB2.out.trans (hb3.mono HB2.out.size))
            obtain ⟨_, _, e1, _, _, _, r1, _⟩ := own_rds (own_ext HO12.out hb3 (Nat.le_refl _))
            obtain ⟨_, _, e2, _, _, _, r2, _⟩ := own_rds (own_ext HO2.out hb3 (Nat.le_refl _))
            obtain ⟨_, _, e3, _, _, _, r3, _⟩ := own_rds ho3
            obtain ⟨rfl, _, rfl⟩ := Value.slice.inj e1
            obtain ⟨rfl, _, rfl⟩ := Value.slice.inj e2
            obtain ⟨rfl, _, rfl⟩ := Value.slice.inj e3
            have HR1 := Lib.hid r1
            have HR2 := Lib.hid r2
            have HR3 := Lib.hid r3
            have hnn : ((m : Int) != (m : Int)) = false := by simp
            clear r1 r2 r3 ho3 hsa3 hb3 HS3 HO12 HO2 HB2 e1 e2 e3
            go_wp2_with (go_at_call 15; refine (num4 _ _).mono ?_; rintro e wq ⟨rfl, rfl⟩)
            go_loop [14] (fun i => ∃ j : Nat, i = .int .i64 (j : Int) ∧ j ≤ m) (fun i => m - (intOf i).toNat)
            case atStart => exact ⟨0, rfl, by omega⟩
            case round =>
              obtain ⟨j, rfl, hj⟩ := hrel
              by_cases h3 : j < m
              · have h3i : (j : Int) < (m : Int) := by omega
                have hj0 : (0 : Int) ≤ (j : Int) := by omega
                obtain ⟨a1, rfl, c1⟩ := HR1.out j _ (natsC_at (Sa.downL_at m j h3))
                obtain ⟨a2, rfl, c2⟩ := HR2.out j _ (natsC_at (List.getElem?_range h3))
                obtain ⟨a3, rfl, c3⟩ := HR3.out j _ (natsC_at (Sa.downL_at m j h3))
                rw [show ((m - 1 - j : Nat) : Int) = (m : Int) - 1 - (j : Int) by omega] at c1 c3
                have hz1 : (((m : Int) - 1 - (j : Int)) != ((m : Int) - 1 - (j : Int))) = false := by simp
                have hz2 : ((j : Int) != (j : Int)) = false := by simp
                go_wp2
                go_round
                case rel => exact ⟨j + 1, by go_num, by omega⟩
                case measure => first | (simp [intOf]; done) | (simp [intOf]; omega)
              · have h3i : ¬ (j : Int) < (m : Int) := by omega
                go_wp2
                go_roundw
                case rel => exact ⟨m + 1 + m / 5, by omega, by go_num, HX.out.trans ((HBEL.out.trans (HB3.out.mono HBEL.out.size)).mono HX.out.size)⟩
                case measure => first | (simp [intOf]; done) | (simp [intOf]; omega)
    · have h1i : ¬ (n : Int) < 100 := by omega
      have hl0 : (0 : Int) ≤ (xs.length : Int) := by omega
      go_wp2_with (go_at_call 19; refine (wakes4 _).mono ?_; rintro e w1 ⟨rfl, hb⟩)
      go_ret
      exact ⟨rfl, HX.out.trans (hb.mono HX.out.size)⟩
end Go.Proofs.Ytkjajdhempceaaa
