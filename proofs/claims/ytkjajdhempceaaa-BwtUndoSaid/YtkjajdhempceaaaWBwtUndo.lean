/- The walk of the law BwtUndo. -/
import Derived.Test.YtkjajdhempceaaaAskW
import Derived.Test.YtkjajdhempceaaaHelpCN
import Derived.Test.YtkjajdhempceaaaRankL
set_option linter.unusedVariables false
set_option linter.unusedSimpArgs false
namespace Go.Proofs.Ytkjajdhempceaaa
open Go.RowKit Lec
theorem Calls.q_same {P : Program} {f : FuncId} {args : Array Value} {w : World} {n : Nat} {v : Value} (h : Calls P f args (w.drewN n) fun e w' => e = .returned v ∧ w.drewN n = w') :
    Calls P f args (w.drewN n) fun e w'' => e = .returned v ∧ ∃ m, w'' = w.drewN m := h.mono fun _ _ ⟨he, hm⟩ => ⟨he, n, hm.symm⟩
theorem symN_512 {L : List Int} (h : mayS 512 L = true) : ∀ x, x ∈ symN L → x < 512 := fun x hx => by
  have hsb := symN_lt h
  obtain ⟨i, hi, rfl⟩ := List.mem_iff_getElem.1 hx
  have := hsb i hi
  unfold Sa.sy at this
  rwa [List.getD_eq_getElem?_getD, List.getElem?_eq_getElem hi] at this

set_option maxRecDepth 100000 in
set_option maxHeartbeats 1000000 in
theorem BwtUndo_walk (W : World) (A : Option Addr) (c : Nat) (xs : List (List Int × Int)) (hrow : Row AskW W A xs) (hlc : xs.length ≤ c) (hcm : c ≤ maxLen) (hnone : A = none → xs.length = 0 ∧ c = 0) (hby : c * 32 ≤ reachBytes) :
    Calls Try.prog 9 #[.slice A xs.length c] W fun e w' => e = .returned (.bool true) ∧ Below W.heap.size W w' := by
  have HR := Lib.hid hrow
  have hlen : xs.length ≤ 9223372036854775807 := by unfold maxLen at hcm; omega
  clear hrow hnone hby hcm hlc
  go_enter Try.func9, Try.ntmps9
  go_wp2
  go_loopw [3] (fun i wr => ∃ k : Nat, k ≤ xs.length ∧ i = .int .i64 (k : Int) ∧ Hid (Below W.heap.size W wr)) (fun i _ => xs.length - (intOf i).toNat)
  case atStart => exact ⟨0, by omega, rfl, Below.refl _ _⟩
  case round =>
    obtain ⟨k, hk, rfl, HX⟩ := hrel
    obtain ⟨w0, rfl⟩ : ∃ x, x = wr := ⟨wr, rfl⟩
    by_cases h1 : k < xs.length ∧ k < 6
    · obtain ⟨h1, h2⟩ := h1
      have h1i : (k : Int) < (xs.length : Int) := by omega
      have h2i : (k : Int) < 6 := by omega
      obtain ⟨a, B, cb, rfl, hc0, hc1, hb1, hb3, hb4, ht⟩ := askW_at (HR.out.ext HX.out (Nat.le_refl _)) k h1
      generalize xs[k] = x at *
      obtain ⟨L, t⟩ := x
      dsimp only at hc0 hc1 hb1 hb3 hb4 ht
      generalize hu : heavyW L = u
      have HU := Lib.hid hu
      have HEV := Lib.hid (heavyW_any w0 B L.length cb t L rfl)
      clear ht hu
      rw [HU.out] at HEV
      go_wp2_with fail
      refine HEV.out.mono ?_
      rintro e w1 ⟨rfl, hbe1⟩
      have HX1 : Hid (Below W.heap.size W w1) := HX.out.trans (hbe1.mono HX.out.size)
      cases u with
      | true =>
        go_wp2
        go_ret
        exact ⟨rfl, HX1.out⟩
      | false =>
        have hl1 := heavyW_light HU.out
        have HC0 := Lib.hid (cell_ext hbe1 (Nat.le_refl _) hc0)
        have HB4 := Lib.hid (hb4.ext hbe1 (Nat.le_refl _))
        have HB3 := Lib.hid hb3
        clear HU hbe1 HEV hc0 hc1 hb4 hb3
        obtain ⟨l, hl⟩ : ∃ l, l = L.length := ⟨_, rfl⟩
        have HLL : Hid (L.length = l) := Lib.hid hl.symm
        rw [← hl] at hb1 hl1 HC0 HB3 ⊢
        clear hl
        have hc0 := HC0.out
        cases hms : mayS 512 L with
        | false =>
          have HBAD := Lib.hid (Make_bad w1 B l cb L HLL.out (by omega) HB4.out hms)
          clear hms
          go_wp2_with fail
          refine HBAD.out.mono ?_
          rintro e w3 ⟨rfl, rfl⟩
          go_wp2_with (go_at_call 22; refine (num5 _ _).mono ?_; rintro e wq ⟨rfl, rfl⟩)
          go_roundw
          case rel => exact ⟨k + 1, by omega, by go_num, HX1.out⟩
          case measure => first | (simp [intOf]; done) | (simp [intOf]; omega)
        | true =>
          have HLS := Lib.hid (symN_cells hms)
          have hsl := symN_len L
          have HS512 := Lib.hid (symN_512 hms)
          generalize symN L = s at *
          have hls : l = s.length := by rw [hsl]; exact HLL.out.symm
          subst hls
          have HBS : Hid (Rds w1 B (natsC s)) := Lib.hid (by rw [← HLS.out]; exact HB4.out)
          have HGOOD := Lib.hid (Make_any w1 B cb s (by omega) HBS.out HB3.out HS512.out)
          clear hms hsl
          go_wp2_with fail
          refine HGOOD.out.mono ?_
          rintro e w3 ⟨b, v, rfl, hsa, hown, hbe3⟩
          obtain ⟨A3, c3, rfl, q1, q2, q3, q4, q5⟩ := own_rds hown
          have HR3 := Lib.hid q4
          have HSA := Lib.hid hsa
          have HB3' : Hid (Below w1.heap.size w1 w3) := Lib.hid hbe3
          obtain ⟨hol, htl, hok, how⟩ := hsa.walk
          have HON := Lib.hid (fun k hk => hsa.only (k := k) hk)
          have HOF := Lib.hid hsa.often
          have HO512 : Hid (∀ x, x ∈ Sa.outL s (Sa.rowsL s b) → x < 512) := Lib.hid (fun x hx => by
            unfold Sa.outL at hx
            obtain ⟨v, hv, rfl⟩ := List.mem_map.1 hx
            rw [List.mem_filter] at hv
            have hv2 := (Sa.rowsL_mem hsa v).1 hv.1
            have hv3 : v ≠ 0 := by simpa using hv.2
            exact HS512.out _ (List.mem_iff_getElem?.2 ⟨v - 1, sy_get (by omega)⟩))
          generalize Sa.outL s (Sa.rowsL s b) = o at *
          generalize Sa.atK (Sa.rowsL s b) (s.length + 1) = t2 at *
          have HOL := Lib.hid hol
          have HOK := Lib.hid hok
          have HOW := Lib.hid how
          clear hown hsa hbe3 q1 q2 q3 q4 q5 HGOOD hc0 hol hok how
          have hbk := Back_any w3 A3 c3 o t2 (by rw [HOL.out]; omega) HR3.out HO512.out (by rw [HOL.out]; exact htl)
          rw [HOL.out] at hbk
          have HBK := Lib.hid hbk
          clear hbk
          go_wp2_with (go_at_call 22; refine (num5 _ _).mono ?_; rintro e wq ⟨rfl, rfl⟩)
          refine HBK.out.mono ?_
          rintro e w5 ⟨hb5, ⟨_, g, he, hg, hblk⟩ | ⟨hno, _⟩⟩
          · rw [HOL.out] at he
            subst he
            rw [HOW.out] at hblk
            have HB5 : Hid (Below w1.heap.size w1 w5) := Lib.hid (HB3'.out.trans (hb5.mono HB3'.out.size))
            have hc0 := cell_ext HB5.out (Nat.le_refl _) HC0.out
            have HR5 := Lib.hid (HR3.out.ext hb5 (Nat.le_refl _))
            have HEQ := Lib.hid (EqNumbers_any w5 (some ⟨g, 0, none⟩) s.length s.length (s.map fun v : Nat => (v : Int)) (by simp) (natsC_rint hblk.rds) B s.length cb (s.map fun v : Nat => (v : Int)) (by simp) (natsC_rint (HBS.out.ext HB5.out (Nat.le_refl _))) (by omega))
            rw [decide_eq_true rfl] at HEQ
            have hnn : ((s.length : Int) != (s.length : Int)) = false := by simp
            clear hb5 hg hblk HBK
            go_wp2_with (go_at_call 22; refine (num5 _ _).mono ?_; rintro e wq ⟨rfl, rfl⟩)
            refine HEQ.out.mono ?_
            rintro e w6 ⟨rfl, q6, rfl⟩
            have HB6 : Hid (Below w1.heap.size w1 (w5.drewN q6)) := Lib.hid (HB5.out.trans ((drawn_below w5 q6).mono HB5.out.size))
            have HR6 : Hid (Rds (w5.drewN q6) A3 (natsC o)) := Lib.hid (HR5.out.ext (drawn_below w5 q6) (Nat.le_refl _))
            generalize w5.drewN q6 = w6 at *
            clear HEQ hc0 HR5 HB5
            have hc0 := cell_ext HB6.out (Nat.le_refl _) HC0.out
            have HBS6 := Lib.hid (HBS.out.ext HB6.out (Nat.le_refl _))
            go_wp2
            clear hc0
            go_loopw [9] (fun i wy => ∃ j : Nat, i = .int .i64 (j : Int) ∧ j ≤ 20 ∧ Hid (Below w6.heap.size w6 wy)) (fun i _ => 20 - (intOf i).toNat)
            case atStart => exact ⟨0, rfl, by omega, Below.refl _ _⟩
            case round =>
              obtain ⟨j, rfl, hj, HBJ⟩ := hrel
              have hc0 := cell_ext (HB6.out.trans (HBJ.out.mono HB6.out.size)) (Nat.le_refl _) HC0.out
              by_cases h8 : j < 20
              · have h8i : (j : Int) < 20 := by omega
                have HK1 : Hid (∀ n, Calls Try.prog 29 #[.slice A3 s.length c3, .int .i64 (j : Int), .int .i64 (s.length : Int)] (wr.drewN n) fun e w' => e = .returned (.int .i64 (Sa.cnt s.length (fun i => Sa.sy s i == j) : Int)) ∧ wr.drewN n = w') := Lib.hid (fun n => by
                  have := Rank_any (wr.drewN n) A3 c3 o (by rw [HOL.out]; omega) (HR6.out.ext (HBJ.out.trans ((drawn_below wr n).mono HBJ.out.size)) (Nat.le_refl _)) j s.length (by rw [HOL.out]; exact Nat.le_refl _)
                  rwa [HOL.out, HOF.out j] at this)
                have HK2 : Hid (∀ n, Calls Try.prog 29 #[.slice B s.length cb, .int .i64 (j : Int), .int .i64 (s.length : Int)] (wr.drewN n) fun e w' => e = .returned (.int .i64 (Sa.cnt s.length (fun i => Sa.sy s i == j) : Int)) ∧ wr.drewN n = w') := Lib.hid (fun n => Rank_any (wr.drewN n) B cb s (by omega) (HBS6.out.ext (HBJ.out.trans ((drawn_below wr n).mono HBJ.out.size)) (Nat.le_refl _)) j s.length (Nat.le_refl _))
                generalize hct : Sa.cnt s.length (fun i => Sa.sy s i == j) = ct at HK1 HK2
                have hcc : ((ct : Int) != (ct : Int)) = false := by simp
                clear hct hnn
                go_wp2
                go_quiet ((go_at_call 29; first | with_reducible exact Calls.q_same (HK1.out _) | with_reducible exact Calls.q_same (HK2.out _) | with_reducible exact Calls.quiet_of (HK1.out _) | with_reducible exact Calls.quiet_of (HK2.out _)))
                go_wp2
                go_roundw
                case rel => exact ⟨j + 1, by go_num, by omega, HBJ.out.trans ((drawn_below _ _).mono HBJ.out.size)⟩
                case measure => first | (simp [intOf]; done) | (simp [intOf]; omega)
              · have h8i : ¬ (j : Int) < 20 := by omega
                obtain ⟨j9, rfl⟩ : ∃ x, x = j := ⟨_, rfl⟩
                go_wp2
                clear hc0
                obtain ⟨w7, rfl⟩ : ∃ x, x = wr := ⟨wr, rfl⟩
                go_loopw [10] (fun i wy => ∃ j : Nat, i = .int .i64 (j : Int) ∧ j ≤ 20 ∧ j ≤ s.length + 1 ∧ Hid (Below w6.heap.size w6 wy)) (fun i _ => 20 - (intOf i).toNat)
                case atStart => exact ⟨0, rfl, by omega, by omega, HBJ⟩
                case round =>
                  clear HBJ
                  obtain ⟨j, rfl, hj, hj2, HBJ⟩ := hrel
                  by_cases h8 : j ≤ s.length
                  · have h8i : (j : Int) ≤ (s.length : Int) := by omega
                    by_cases h9 : j < 20
                    · have h9i : (j : Int) < 20 := by omega
                      have hbk := Back_any wr A3 c3 o j (by rw [HOL.out]; omega) (HR6.out.ext HBJ.out (Nat.le_refl _)) HO512.out (by rw [HOL.out]; exact h8)
                      rw [HOL.out] at hbk
                      have HBK := Lib.hid hbk
                      have HONJ := Lib.hid (HON.out j h8)
                      clear hbk
                      go_wp2_with fail
                      refine HBK.out.mono ?_
                      rintro e w8 ⟨hb8, hcase⟩
                      have HX8 : Hid (Below w6.heap.size w6 w8) := Lib.hid (HBJ.out.trans (hb8.mono HBJ.out.size))
                      by_cases hjt : j = t2
                      · have hjti : ((j : Int) != (t2 : Int)) = false := by rw [hjt]; simp
                        clear hjt HBK hb8
                        rcases hcase with ⟨_, g, he, _, _⟩ | ⟨_, rfl⟩
                        · rw [HOL.out] at he
                          subst he
                          go_wp2
                          go_roundw
                          case rel => exact ⟨j + 1, by go_num, by omega, by omega, HX8.out⟩
                          case measure => first | (simp [intOf]; done) | (simp [intOf]; omega)
                        · go_wp2
                          go_roundw
                          case rel => exact ⟨j + 1, by go_num, by omega, by omega, HX8.out⟩
                          case measure => first | (simp [intOf]; done) | (simp [intOf]; omega)
                      · have hjti : ((j : Int) != (t2 : Int)) = true := by rw [bne_iff_ne]; omega
                        rcases hcase with ⟨hok2, g, he, _, hblk⟩ | ⟨_, rfl⟩
                        · rw [HOL.out] at he
                          subst he
                          have hne : (Sa.outW o j).map (fun v : Nat => (v : Int)) ≠ s.map (fun v : Nat => (v : Int)) := fun h => hjt (HONJ.out hok2 (List.map_inj_right (fun a b hab => by omega) |>.1 h))
                          have HBW8 := Lib.hid (HB6.out.trans (HX8.out.mono HB6.out.size))
                          have HEQ := Lib.hid (EqNumbers_any w8 (some ⟨g, 0, none⟩) s.length s.length ((Sa.outW o j).map fun v : Nat => (v : Int)) (by simp [Sa.outW_len, HOL.out]) (natsC_rint hblk.rds) B s.length cb (s.map fun v : Nat => (v : Int)) (by simp) (natsC_rint (HBS6.out.ext HX8.out (Nat.le_refl _))) (by omega))
                          rw [decide_eq_false hne] at HEQ
                          have hc0 := cell_ext HBW8.out (Nat.le_refl _) HC0.out
                          clear hjt HBK hb8 hok2 hblk hne
                          go_wp2_with (go_at_call 22; refine (num5 _ _).mono ?_; rintro e wq ⟨rfl, rfl⟩)
                          refine HEQ.out.mono ?_
                          rintro e w9 ⟨rfl, q9, rfl⟩
                          go_wp2
                          go_roundw
                          case rel => exact ⟨j + 1, by go_num, by omega, by omega, HX8.out.trans ((drawn_below w8 q9).mono HX8.out.size)⟩
                          case measure => first | (simp [intOf]; done) | (simp [intOf]; omega)
                        · clear hjt HBK hb8
                          go_wp2_with (go_at_call 22; refine (num5 _ _).mono ?_; rintro e wq ⟨rfl, rfl⟩)
                          go_roundw
                          case rel => exact ⟨j + 1, by go_num, by omega, by omega, HX8.out⟩
                          case measure => first | (simp [intOf]; done) | (simp [intOf]; omega)
                    · have h9i : ¬ (j : Int) < 20 := by omega
                      have HXW := Lib.hid (HX1.out.trans ((HB6.out.trans (HBJ.out.mono HB6.out.size)).mono HX1.out.size))
                      go_wp2
                      go_roundw
                      case rel => exact ⟨k + 1, by omega, by go_num, HXW.out⟩
                      case measure => first | (simp [intOf]; done) | (simp [intOf]; omega)
                  · have h8i : ¬ (j : Int) ≤ (s.length : Int) := by omega
                    have HXW := Lib.hid (HX1.out.trans ((HB6.out.trans (HBJ.out.mono HB6.out.size)).mono HX1.out.size))
                    go_wp2
                    go_roundw
                    case rel => exact ⟨k + 1, by omega, by go_num, HXW.out⟩
                    case measure => first | (simp [intOf]; done) | (simp [intOf]; omega)
          · exact absurd HOK.out hno
    · by_cases h2 : k < xs.length
      · have h1i : (k : Int) < (xs.length : Int) := by omega
        have h2i : ¬ (k : Int) < 6 := by omega
        go_wp2_with (go_at_call 24; refine (wakes5 _).mono ?_; rintro e w1 ⟨rfl, hb⟩)
        go_ret
        exact ⟨rfl, HX.out.trans (hb.mono HX.out.size)⟩
      · have h1i : ¬ (k : Int) < (xs.length : Int) := by omega
        go_wp2_with (go_at_call 24; refine (wakes5 _).mono ?_; rintro e w1 ⟨rfl, hb⟩)
        go_ret
        exact ⟨rfl, HX.out.trans (hb.mono HX.out.size)⟩
end Go.Proofs.Ytkjajdhempceaaa
