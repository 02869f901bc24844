/- The walk of the law BwtRuns. -/
import Derived.Test.YtkjajdhempceaaaAskW
import Derived.Test.YtkjajdhempceaaaBwtB
import Derived.Test.YtkjajdhempceaaaTrip
set_option linter.unusedVariables false
set_option linter.unusedSimpArgs false
namespace Go.Proofs.Ytkjajdhempceaaa
open Go.RowKit Lec
theorem atK_same (n : Nat) : Sa.atK (Sa.rowsL (List.replicate n 0) (Sa.downL n)) (n + 1) = n := by
  have hat : ∀ j, (Sa.rowsL (List.replicate n 0) (Sa.downL n))[j]? = some 0 → j = n := fun j hj => by
    unfold Sa.rowsL at hj
    cases j with
    | zero => simp at hj; omega
    | succ j =>
      rw [List.getElem?_cons_succ] at hj
      by_cases e : j < n
      · rw [Sa.downL_at n j e] at hj; injection hj with hj; omega
      · rw [List.getElem?_eq_none (by rw [Sa.downL_len]; omega)] at hj; cases hj
  refine Sa.atK_of ?_ hat _ (by omega)
  unfold Sa.rowsL
  cases n with
  | zero => rfl
  | succ n => rw [List.getElem?_cons_succ, Sa.downL_at (n + 1) n (by omega)]; congr 1; omega
theorem atK_down (n : Nat) : Sa.atK (Sa.rowsL (Sa.downL n) (Sa.downL n)) (n + 1) = n := by
  have := atK_same n
  unfold Sa.rowsL at this ⊢
  rw [Sa.downL_len]
  rwa [List.length_replicate] at this
theorem atK_up (n : Nat) (h : 1 ≤ n) : Sa.atK (Sa.rowsL (List.range n) (List.range n)) (n + 1) = 1 := by
  refine Sa.atK_of ?_ (fun j hj => ?_) _ (by omega)
  · unfold Sa.rowsL
    rw [List.getElem?_cons_succ, List.getElem?_range (by omega)]
  · unfold Sa.rowsL at hj
    cases j with
    | zero => simp at hj; omega
    | succ j =>
      rw [List.getElem?_cons_succ] at hj
      by_cases e : j < n
      · rw [List.getElem?_range e] at hj; injection hj with hj; omega
      · rw [List.getElem?_eq_none (by simp; omega)] at hj; cases hj
theorem outL_zero (n : Nat) : Sa.outL (List.replicate n 0) (Sa.rowsL (List.replicate n 0) (Sa.downL n)) = List.replicate n 0 := by
  rw [List.eq_replicate_iff]
  refine ⟨by rw [Sa.outL_len (Sa.sa_same 0 n), List.length_replicate], fun x hx => ?_⟩
  unfold Sa.outL at hx
  obtain ⟨v, _, rfl⟩ := List.mem_map.1 hx
  unfold Sa.sy
  rw [List.getD_eq_getElem?_getD, List.getElem?_replicate]
  split <;> rfl
theorem outL_head (s b : List Nat) (h : 1 ≤ s.length) : (Sa.outL s (Sa.rowsL s b))[0]? = some (Sa.sy s (s.length - 1)) := by
  unfold Sa.outL Sa.rowsL
  rw [List.filter_cons_of_pos (by rw [bne_iff_ne]; omega), List.map_cons]
  rfl

set_option maxRecDepth 100000 in
set_option maxHeartbeats 4000000 in
theorem BwtRuns_walk (W : World) (A : Option Addr) (c : Nat) (xs : List (List Int × Int)) (hrow : Row AskW W A xs) (hlc : xs.length ≤ c) (hcm : c ≤ maxLen) (hnone : A = none → xs.length = 0 ∧ c = 0) (hby : c * 32 ≤ reachBytes) :
    Calls Try.prog 10 #[.slice A xs.length c] W fun e w' => e = .returned (.bool true) ∧ Below W.heap.size W w' := by
  have hlen : xs.length ≤ 9223372036854775807 := by unfold maxLen at hcm; omega
  clear hrow hnone hby hcm hlc
  go_enter Try.func10, Try.ntmps10
  go_wp2
  go_loopw [3] (fun i wr => ∃ n : Nat, 1 ≤ n ∧ n ≤ 100 ∧ i = .int .i64 (n : Int) ∧ Hid (Below W.heap.size W wr)) (fun i _ => 100 - (intOf i).toNat)
  case atStart => exact ⟨1, by omega, by omega, rfl, Below.refl _ _⟩
  case round =>
    obtain ⟨n, hn1, hn, rfl, HX⟩ := hrel
    by_cases h1 : n < 60
    · have h1i : (n : Int) < 60 := by omega
      have hmk := mk_ints n (by omega)
      go_upto_region 4 with (fail)
      go_cut [4, 5, 6] (fun s4 s5 s6 wx => ∃ g1 g2 g3, s4 = .slice (some ⟨g1, 0, none⟩) n n ∧ s5 = .slice (some ⟨g2, 0, none⟩) n n ∧ s6 = .slice (some ⟨g3, 0, none⟩) n n ∧ Trip wr wx g1 g2 g3 (List.replicate n 0) (List.replicate n 0) (List.replicate n 0))
      case first =>
        go_region_held3 (fun w' => True) (first | trivial | go_keep) (fail)
        all_goals
          go_wp2_with fail
          go_meet
          refine ⟨_, _, _, rfl, rfl, rfl, Blk.drew1 ?_, Blk.drew1 ?_, Blk.drew1 ?_, by omega, by omega, by omega, by omega, by omega, Below.drew1 ?_⟩
          iterate 3 ((repeat (first | ((refine Blk.newL _ _ _ _ _ ?_ ?_) <;> (simp [natsC]; done)) | refine Blk.allocA ?_ _)))
          repeat (first | exact Below.refl _ _ | refine Below.allocA ?_ (Nat.le_refl _) _)
      case rest =>
        obtain ⟨g1, g2, g3, rfl, rfl, rfl, hT⟩ := hcut
        obtain ⟨w0, rfl⟩ : ∃ x, x = wr := ⟨wr, rfl⟩
        clear hmk
        go_wp2
        go_loopw [7] (fun i wx => ∃ (m : Nat) (x2 x3 : List Nat), i = .int .i64 (m : Int) ∧ m ≤ n ∧ Hid (x2.length = n) ∧ Hid (x3.length = n) ∧ Hid (∀ j, j < m → x2[j]? = some j ∧ x3[j]? = some (n - 1 - j)) ∧ Trip w0 wx g1 g2 g3 (List.replicate n 0) x2 x3) (fun i _ => n - (intOf i).toNat)
        case atStart => exact ⟨0, _, _, rfl, by omega, Lib.hid (by simp), Lib.hid (by simp), Lib.hid (fun j hj => by omega), hT⟩
        case round =>
          clear hT
          obtain ⟨m, x2, x3, rfl, hmn, HL2, HL3, HV, hT⟩ := hrel
          by_cases h2 : m < n
          · have h2i : (m : Int) < (n : Int) := by omega
            obtain ⟨y2, hy2⟩ : ∃ y, x2[m]? = some y := ⟨_, List.getElem?_eq_getElem (by rw [HL2.out]; exact h2)⟩
            obtain ⟨y3, hy3⟩ : ∃ y, x3[m]? = some y := ⟨_, List.getElem?_eq_getElem (by rw [HL3.out]; exact h2)⟩
            have c2 := hT.b2.cell (natsC_at hy2)
            have f2 := hT.b2.froz m
            have HT2 := Lib.hid (hT.set2 m m)
            have c3 := HT2.out.b3.cell (natsC_at hy3)
            have f3 := HT2.out.b3.froz m
            have HT3 := Lib.hid (HT2.out.set3 m (n - 1 - m))
            rw [show ((n - 1 - m : Nat) : Int) = (n : Int) - 1 - (m : Int) by omega] at HT3
            clear hy2 hy3
            go_wp2
            go_roundw
            case rel =>
              refine ⟨m + 1, _, _, by go_num, by omega, Lib.hid (by rw [List.length_set]; exact HL2.out), Lib.hid (by rw [List.length_set]; exact HL3.out), Lib.hid (fun j hj => ?_), HT3.out⟩
              rw [List.getElem?_set, List.getElem?_set]
              by_cases e : m = j
              · subst e; simp [HL2.out, HL3.out, h2]
              · rw [if_neg e, if_neg e]; exact HV.out j (by omega)
            case measure => first | (simp [intOf]; done) | (simp [intOf]; omega)
          · obtain rfl : m = n := by omega
            have h2i : ¬ (m : Int) < (m : Int) := by omega
            have e2 : x2 = List.range m := List.ext_getElem? (fun j => by
              by_cases hj : j < m
              · rw [(HV.out j hj).1, List.getElem?_range hj]
              · rw [List.getElem?_eq_none (by rw [HL2.out]; omega), List.getElem?_eq_none (by simp; omega)])
            have e3 : x3 = Sa.downL m := List.ext_getElem? (fun j => by
              by_cases hj : j < m
              · rw [(HV.out j hj).2, Sa.downL_at m j hj]
              · rw [List.getElem?_eq_none (by rw [HL3.out]; omega), List.getElem?_eq_none (by rw [Sa.downL_len]; omega)])
            subst e2 e3
            have hn1' : 1 ≤ m := hn1
            have hs1 := Make_any wr (some ⟨g1, 0, none⟩) m (List.replicate m 0) (by simp; omega) hT.b1.rds (fun e => by cases e) (fun x hx => by rw [List.eq_of_mem_replicate hx]; omega)
            rw [List.length_replicate] at hs1
            have HS1 := Lib.hid hs1
            have HBEL := Lib.hid hT.bel
            have HR1 := Lib.hid hT.b1.rds
            have HR2 := Lib.hid hT.b2.rds
            have HR3 := Lib.hid hT.b3.rds
            clear hs1 hT HV HL2 HL3
            go_wp2_with fail
            refine HS1.out.mono ?_
            rintro e w1 ⟨b1, v1, he, hsa1, ho1, hb1⟩
            obtain rfl : b1 = Sa.downL m := hsa1.eq (Sa.sa_same 0 m)
            rw [List.length_replicate, atK_same] at he
            rw [List.length_replicate, outL_zero] at ho1
            subst he
            obtain ⟨A1, c1, rfl, _, _, _, r1, _⟩ := own_rds ho1
            have HO1 := Lib.hid r1
            have HB1 := Lib.hid hb1
            have hs2 := Make_any w1 (some ⟨g2, 0, none⟩) m (List.range m) (by simp; omega) (HR2.out.ext hb1 (Nat.le_refl _)) (fun e => by cases e) (fun x hx => by have := List.mem_range.1 hx; omega)
            rw [List.length_range] at hs2
            have HS2 := Lib.hid hs2
            clear hs2 ho1 hsa1 hb1 HS1 r1
            go_wp2_with fail
            refine HS2.out.mono ?_
            rintro e w2 ⟨b2, v2, he, hsa2, ho2, hb2⟩
            obtain rfl : b2 = List.range m := hsa2.eq (Sa.sa_up m)
            rw [List.length_range, atK_up m hn1] at he
            rw [List.length_range] at ho2
            subst he
            obtain ⟨A2, c2, rfl, _, _, _, r2, _⟩ := own_rds ho2
            have HO2 := Lib.hid r2
            have HB2 := Lib.hid (HB1.out.trans (hb2.mono HB1.out.size))
            have HO12 := Lib.hid (HO1.out.ext hb2 (Nat.le_refl _))
            have hs3 := Make_any w2 (some ⟨g3, 0, none⟩) m (Sa.downL m) (by rw [Sa.downL_len]; omega) (HR3.out.ext HB2.out (Nat.le_refl _)) (fun e => by cases e) (fun x hx => by
              obtain ⟨i, hi, rfl⟩ := List.mem_iff_getElem.1 hx
              rw [Sa.downL_get]; omega)
            rw [Sa.downL_len] at hs3
            have HS3 := Lib.hid hs3
            clear hs3 ho2 hsa2 hb2 HS2 HO1 HB1 r2
            go_wp2_with fail
            refine HS3.out.mono ?_
            rintro e w3 ⟨b3, v3, he, hsa3, ho3, hb3⟩
            obtain rfl : b3 = Sa.downL m := hsa3.eq (Sa.sa_down m)
            rw [Sa.downL_len, atK_down] at he
            rw [Sa.downL_len] at ho3
            subst he
            obtain ⟨A3, c3, rfl, _, _, _, r3, _⟩ := own_rds ho3
            have HB3 := Lib.hid (HB2.out.trans (hb3.mono HB2.out.size))
            have HO1 := Lib.hid (HO12.out.ext hb3 (Nat.le_refl _))
            have hh2 := outL_head (List.range m) (List.range m) (by simp; omega)
            have hh3 := outL_head (Sa.downL m) (Sa.downL m) (by rw [Sa.downL_len]; omega)
            rw [List.length_range, show Sa.sy (List.range m) (m - 1) = m - 1 from Sa.getD_of (List.getElem?_range (by omega))] at hh2
            rw [Sa.downL_len, show Sa.sy (Sa.downL m) (m - 1) = 0 from by rw [Sa.sy_at (Sa.downL_at m (m - 1) (by omega))]; omega] at hh3
            obtain ⟨a2, rfl, cc2⟩ := (HO2.out.ext hb3 (Nat.le_refl _)) 0 _ (natsC_at hh2)
            obtain ⟨a3, rfl, cc3⟩ := r3 0 _ (natsC_at hh3)
            rw [add_zero] at cc2 cc3
            rw [show ((m - 1 : Nat) : Int) = (m : Int) - 1 by omega] at cc2
            have HC2 := Lib.hid cc2
            have HC3 := Lib.hid cc3
            have hnn : ((m : Int) != (m : Int)) = false := by simp
            have HEQ := Lib.hid (EqNumbers_any w3 A1 m c1 ((List.replicate m 0).map fun v : Nat => (v : Int)) (by simp) (natsC_rint HO1.out) (some ⟨g1, 0, none⟩) m m ((List.replicate m 0).map fun v : Nat => (v : Int)) (by simp) (natsC_rint (HR1.out.ext HB3.out (Nat.le_refl _))) (by omega))
            rw [decide_eq_true rfl] at HEQ
            clear r3 ho3 hsa3 hb3 HS3 HO12 HO2 HB2 hh2 hh3 cc2 cc3
            go_wp2_with (go_at_call 22; refine (num5 _ _).mono ?_; rintro e wq ⟨rfl, rfl⟩)
            refine HEQ.out.mono ?_
            rintro e w4 ⟨rfl, q, rfl⟩
            have cc2 : (w3.drewN q).cell? a2 = _ := HC2.out
            have cc3 : (w3.drewN q).cell? a3 = _ := HC3.out
            have hz1 : (((m : Int) - 1) != ((m : Int) - 1)) = false := by simp
            have m0 : (0 : Int) < (m : Int) := by omega
            clear hnn
            have hnn : ((m : Int) != (m : Int)) = false := by simp
            go_wp2
            go_roundw
            case rel => exact ⟨m + 1 + m / 4, by omega, by omega, by go_num, HX.out.trans ((HBEL.out.trans ((HB3.out.trans ((drawn_below w3 q).mono HB3.out.size)).mono HBEL.out.size)).mono HX.out.size)⟩
            case measure => first | (simp [intOf]; done) | (simp [intOf]; omega)
    · have h1i : ¬ (n : Int) < 60 := by omega
      have hl0 : (0 : Int) ≤ (xs.length : Int) := by omega
      have hnil : ∀ w', Rds w' none (natsC []) := fun w' i v h => by simp [natsC] at h
      have HM := Lib.hid (Make_any wr none 0 [] (by decide) (hnil _) (fun _ => ⟨rfl, rfl⟩) (fun x hx => by simp at hx))
      go_wp2_with fail
      refine HM.out.mono ?_
      rintro e w1 ⟨b, v, he, hsa, hown, hb1⟩
      have hb : b = [] := List.eq_nil_of_length_eq_zero hsa.len
      subst hb
      obtain ⟨A1, c1, rfl, _, _, _, _, _⟩ := own_rds hown
      have he : e = .returned (.tuple #[.slice A1 0 c1, .int .i64 0, .int .i64 0]) := he
      subst he
      have HX1 := Lib.hid (HX.out.trans (hb1.mono HX.out.size))
      have HBK := Lib.hid (Back_any w1 none 0 [] 0 (by decide) (hnil _) (fun x hx => by simp at hx) (by decide))
      clear hsa hown hb1 HM
      go_wp2_with fail
      refine HBK.out.mono ?_
      rintro e w2 ⟨hb2, ⟨_, g, rfl, _, _⟩ | ⟨hno, _⟩⟩
      · have HX2 := Lib.hid (HX1.out.trans (hb2.mono HX1.out.size))
        have HBB := Lib.hid (Back_bad w2 none 0 0 [] 1 rfl (by decide) (by intro i v h; simp [intsV] at h) (.inr (.inr (by decide))))
        clear hb2 HBK
        go_wp2_with fail
        refine HBB.out.mono ?_
        rintro e w3 ⟨rfl, rfl⟩
        go_wp2_with (first | (go_at_call 22; refine (num5 _ _).mono ?_; rintro e wq ⟨rfl, rfl⟩) | (go_at_call 24; refine (wakes5 _).mono ?_; rintro e w1 ⟨rfl, hb⟩))
        go_ret
        exact ⟨rfl, HX2.out.trans (hb.mono HX2.out.size)⟩
      · exact absurd ⟨fun k hk => by simp at hk, rfl⟩ hno
end Go.Proofs.Ytkjajdhempceaaa
