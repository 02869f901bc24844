/- The walk of the law BitsRuns. -/
import Derived.Test.YtgohpblcaafliaaRunL
set_option linter.unusedVariables false
set_option linter.unusedSimpArgs false
namespace Go.Proofs.Ytgohpblcaafliaa
open Go.RowKit Lec


set_option maxRecDepth 100000 in
set_option maxHeartbeats 4000000 in
theorem BitsRuns_walk (W : World) (A B : Option Addr) (c d : Nat) (L : List Bool) (Is : List Int) (hl : Rds W A (boolsV L)) (hi : Rds W B (intsV Is)) (hwf : ∀ y ∈ Is, -9223372036854775808 ≤ y ∧ y ≤ 9223372036854775807) :
    Calls Try.prog 5 #[.agg #[.slice A L.length c, .slice B Is.length d]] W fun e w' => e = .returned (.bool true) ∧ Below W.heap.size W w' := by
  clear hl hi hwf
  obtain ⟨ii, hi1, hz1, hs1, hy1⟩ := info_parts info_bo'
  go_enter Try.func5, Try.ntmps5
  go_wp2
  obtain ⟨w0, hw0⟩ : ∃ w0, w0 = W.alloc (.cells #[.slice A L.length c, .slice B Is.length d] 25) := ⟨_, rfl⟩
  rw [← hw0]
  have HX0 : Hid (Below W.heap.size W w0) := by rw [hw0]; exact (Below.refl _ _).alloc (Nat.le_refl _) _
  have HC0 : Hid (w0.cell? ⟨W.heap.size, 0, none⟩ = some (.slice A L.length c)) := by rw [hw0]; show _ = _; rw [cell_of_row _ _ _ _ _ _ (heap_alloc_new _ _)]; rfl
  clear hw0
  go_loopw [3] (fun i wr => ∃ n : Nat, n ≤ 400 ∧ i = .int .i64 (n : Int) ∧ Hid (Below w0.heap.size w0 wr)) (fun i _ => 400 - (intOf i).toNat)
  case atStart => exact ⟨0, by omega, rfl, Lib.hid (Below.refl _ _)⟩
  case round =>
    obtain ⟨n, hn, rfl, HB⟩ := hrel
    by_cases h3 : n < 300
    · have h3i : (n : Int) < 300 := by omega
      go_wp2
      go_loopw [4] (fun i wr => ∃ m : Nat, 1 ≤ m ∧ m ≤ 4 ∧ i = .int .i64 (m : Int) ∧ Hid (Below w0.heap.size w0 wr)) (fun i _ => 4 - (intOf i).toNat)
      case atStart => exact ⟨1, by omega, by omega, rfl, HB⟩
      case round =>
        clear HB
        obtain ⟨m, hm1, hm2, rfl, HB⟩ := hrel
        by_cases h4 : m ≤ 3
        · have h4i : (m : Int) ≤ 3 := by omega
          have hby : ii.bytes * n ≤ 281474976710656 := by rw [hy1]; omega
          have hs0 : w0.heap.size ≤ wr.heap.size := HB.out.size
          have hml : n ≤ maxLen := by simp only [maxLen]; omega
          go_wp2_with ((refine wpList_make_full _ rfl _ _ _ rfl w0.heap.size 4 _ (.bool false) 1 Try.underlying22 hi1 hz1 hs1 .i64 .i64 n n n rfl rfl rfl rfl hby hml hs0 ?_; intro w1 hown hg))
          have e0 : (madeCells (Value.bool false).cells (n * 1)).toList = (List.replicate n false).map Value.bool := by
            show (madeCells #[Value.bool false] (n * 1)).toList = _
            rw [Nat.mul_one, toList_madeCells_one]; simp
          rw [e0] at hown
          have HO := Lib.hid hown
          have HB1 : Hid (Below w0.heap.size w0 w1) := Lib.hid (HB.out.grown hg hs0 (fun k h => by cases h))
          have hgs := hg.size
          clear hown hg e0 HB
          obtain ⟨wm, rfl⟩ : ∃ x, x = wr := ⟨wr, rfl⟩
          go_loopw [6] (fun i wy => ∃ (k : Nat) (cs : List Bool), k ≤ n ∧ i = .int .i64 (k : Int) ∧ cs.length = n ∧ (∀ j, j < k → cs[j]? = some (decide (j % m = 0))) ∧ Hid (wy.ownsRow w0.heap.size 4 1 (.slice (some ⟨wm.heap.size, 0, none⟩) n n) n (cs.map Value.bool)) ∧ Hid (Below w0.heap.size w0 wy)) (fun i _ => n - (intOf i).toNat)
          case atStart => exact ⟨0, List.replicate n false, by omega, rfl, by simp, fun j hj => by omega, HO, HB1⟩
          case round =>
            clear HO HB1
            obtain ⟨k, cs, hk, rfl, hcs, hev, HO, HB⟩ := hrel
            by_cases h6 : k < n
            · have h6i : (k : Int) < (n : Int) := by omega
              have hkc : k < cs.length := by omega
              have hc : wr.cell? ⟨wm.heap.size, k, none⟩ = some (.bool cs[k]) := by rw [HO.out.cellAt k (by omega)]; simp [hkc]
              have hf := HO.out.frozenAt k
              have hm0 : ((m : Int) == 0) = false := by rw [beq_eq_false_iff_ne]; omega
              have hst := HO.out.stored k (.bool (decide (k % m = 0)))
              have HEV := Lib.hid hev
              have HST := Lib.hid hst
              have HVB : Hid (((k : Int) % (m : Int) == 0) = decide (k % m = 0)) := by
                show _ = _
                rw [Bool.eq_iff_iff, beq_iff_eq, decide_eq_true_iff]
                rcases (show m = 1 ∨ m = 2 ∨ m = 3 by omega) with rfl | rfl | rfl <;> omega
              clear hst hev
              go_wp2
              refine ⟨⟨k + 1, cs.set k (decide (k % m = 0)), by omega, by go_num, by rw [List.length_set]; exact hcs, fun j hj => ?_, ?_, ?_⟩, by simp [intOf]; omega⟩
              · rw [List.getElem?_set]
                by_cases hjk : k = j
                · subst hjk; simp [hkc]
                · rw [if_neg hjk]; exact HEV.out j (by omega)
              · exact Lib.hid (by rw [HVB.out, List.map_set]; exact HST.out.1)
              · exact Lib.hid (by rw [HVB.out]; exact HB.out.grown HST.out.2 HB.out.size (fun k h => by cases h; exact hs0))
            · have h6i : ¬ (k : Int) < (n : Int) := by omega
              have hcs' : cs = runL m n := List.ext_getElem? (fun j => by
                by_cases hj : j < n
                · rw [hev j (by omega), List.getElem?_eq_getElem (by rw [runL_len]; exact hj), runL_at m n j hj]
                · rw [List.getElem?_eq_none (by omega), List.getElem?_eq_none (by rw [runL_len]; omega)])
              subst hcs'
              obtain ⟨A', c', e, _, _, _, hr, _⟩ := own_rds HO.out
              have e2 : some (⟨wm.heap.size, 0, none⟩ : Addr) = A' := by simpa using (Value.slice.inj e).1
              rw [← e2] at hr
              have HR := Lib.hid hr
              clear hr e e2 HO hev
              go_wp2_with fail
              refine (New_any _ _ n n (runL m n) hcs (by omega) HR.out).mono ?_
              rintro e w2 ⟨p, rfl, _, _, hv, hb⟩
              have HV := Lib.hid hv.vec
              have HB2 : Hid (Below w0.heap.size w0 w2) := Lib.hid (HB.out.trans (hb.mono HB.out.size))
              clear hv hb HR HB
              go_wp2_with (go_at_call 17; refine (num1 _ _).mono ?_; rintro e wq ⟨rfl, rfl⟩)
              go_loopw [9] (fun i wy => ∃ k q : Nat, k ≤ n + 1 ∧ i = .int .i64 (k : Int) ∧ wy = w2.drewN q) (fun i _ => n + 1 - (intOf i).toNat)
              case atStart => exact ⟨0, 0, by omega, rfl, rfl⟩
              case round =>
                obtain ⟨k, q, hk, rfl, rfl⟩ := hrel
                by_cases h7 : k ≤ n
                · have h7i : (k : Int) ≤ (n : Int) := by omega
                  have hrk := Rank_in (w2.drewN q) p (runL m n) (HV.out.drew q) (by omega) k (by omega)
                  rw [runL_rank m n k (by omega) h7] at hrk
                  have HRK := Lib.hid hrk
                  have hm0 : ((m : Int) == 0) = false := by rw [beq_eq_false_iff_ne]; omega
                  have hne : ((((k + m - 1) / m : Nat) : Int) != ((k : Int) + (m : Int) - 1) / (m : Int)) = false := by
                    rw [bne_eq_false_iff_eq]; rcases (show m = 1 ∨ m = 2 ∨ m = 3 by omega) with rfl | rfl | rfl <;> omega
                  clear hrk
                  generalize (k + m - 1) / m = x at *
                  go_wp2_with fail
                  refine HRK.out.mono ?_
                  rintro e w3 ⟨rfl, q3, rfl⟩
                  go_wp2_with (go_at_call 17; refine (num1 _ _).mono ?_; rintro e wq ⟨rfl, rfl⟩)
                  go_roundw
                  case rel => exact ⟨k + 1, q + q3, by omega, by go_num, rfl⟩
                  case measure => simp [intOf]; omega
                · have h7i : ¬ (k : Int) ≤ (n : Int) := by omega
                  have HB3 : Hid (Below w0.heap.size w0 (w2.drewN q)) := Lib.hid (HB2.out.trans ((drawn_below w2 q).mono HB2.out.size))
                  go_wp2
                  have HDV : Hid ((((n + m - 1) / m : Nat) : Int) = ((n : Int) + (m : Int) - 1) / (m : Int)) := by
                    show _ = _
                    rcases (show m = 1 ∨ m = 2 ∨ m = 3 by omega) with rfl | rfl | rfl <;> omega
                  obtain ⟨D, hD⟩ : ∃ D, D = (n + m - 1) / m := ⟨_, rfl⟩
                  rw [← hD] at HDV
                  have HD := Lib.hid hD
                  clear hD
                  go_loopw [12] (fun i wy => ∃ k : Nat, k ≤ D ∧ i = .int .i64 (k : Int) ∧ Hid (Below w2.heap.size w2 wy)) (fun i _ => D - (intOf i).toNat)
                  case atStart => exact ⟨0, Nat.zero_le _, rfl, Lib.hid (drawn_below w2 q)⟩
                  case round =>
                    obtain ⟨k, hk, rfl, HB4⟩ := hrel
                    have hm0 : ((m : Int) == 0) = false := by rw [beq_eq_false_iff_ne]; omega
                    by_cases h8 : k < D
                    · have h8i : (k : Int) < ((n : Int) + (m : Int) - 1) / (m : Int) := by have := HDV.out; omega
                      obtain ⟨s1, s2, s3⟩ := runL_sel m n k (by omega) (by rw [← HD.out]; exact h8)
                      have HS := Lib.hid (Select_in _ p (runL m n) (HV.out.ext HB4.out (Nat.le_refl _)) (by omega) (k * m) k (by omega) s2 s3)
                      have hne : (((k * m : Nat) : Int) != (k : Int) * (m : Int)) = false := by rw [bne_eq_false_iff_eq]; push_cast; rfl
                      have hkb : k ≤ k * m := Nat.le_mul_of_pos_right k hm1
                      have hkb2 : k < 300 := by omega
                      clear s2 s3
                      go_wp2_with fail
                      refine HS.out.mono ?_
                      rintro e w3 ⟨rfl, hb3⟩
                      go_wp2_with (go_at_call 17; refine (num1 _ _).mono ?_; rintro e wq ⟨rfl, rfl⟩)
                      go_roundw
                      case rel => exact ⟨k + 1, by omega, by go_num, Lib.hid (HB4.out.trans (hb3.mono HB4.out.size))⟩
                      case measure => simp [intOf]; omega
                    · have h8i : ¬ (k : Int) < ((n : Int) + (m : Int) - 1) / (m : Int) := by have := HDV.out; omega
                      go_wp2
                      go_roundw
                      case rel => exact ⟨m + 1, by omega, by omega, by go_num, Lib.hid (HB2.out.trans (HB4.out.mono HB2.out.size))⟩
                      case measure => simp [intOf]; omega
        · have h4i : ¬ (m : Int) ≤ 3 := by omega
          go_wp2
          go_roundw
          case rel => exact ⟨n + 1 + n / 3, by omega, by go_num, HB⟩
          case measure => simp [intOf]; omega
    · have h3i : ¬ (n : Int) < 300 := by omega
      have HXF : Hid (Below W.heap.size W _) := Lib.hid (HX0.out.trans (HB.out.mono HX0.out.size))
      have k0 := cell_ext HB.out (Nat.le_refl _) HC0.out
      go_wp2_with fail
      refine (wakesB _).mono ?_
      rintro e w9 ⟨rfl, hb⟩
      go_wp2
      go_ret
      exact ⟨rfl, HXF.out.trans (hb.mono HXF.out.size)⟩
end Go.Proofs.Ytgohpblcaafliaa
