/- The walk of the law WaveletOne. -/
import Derived.Test.YtgohpblcaafliaaRefV
set_option linter.unusedVariables false
set_option linter.unusedSimpArgs false
namespace Lec
open Go Go.RowKit
def eachL (n k : Nat) : List Nat := (List.range k).map fun i => (i * 7 + 3) % n
theorem eachL_len (n k : Nat) : (eachL n k).length = k := by simp [eachL]
theorem eachL_succ (n k : Nat) : eachL n (k + 1) = eachL n k ++ [(k * 7 + 3) % n] := by simp [eachL, List.range_succ]
theorem eachL_at (n k i : Nat) (h : i < k) : (eachL n k)[i]? = some ((i * 7 + 3) % n) := by simp [eachL, List.getElem?_range h]
theorem eachL_lt (n k : Nat) (h : 0 < n) : ∀ x ∈ eachL n k, x < n := fun x hx => by
  unfold eachL at hx
  obtain ⟨i, _, rfl⟩ := List.mem_map.1 hx
  exact Nat.mod_lt _ h
def oneB (n : Nat) : Bool := n % 7 == 0 || (List.range n).all fun i => Wv.eqs ((eachL n n).take i) ((i * 7 + 3) % n) == 0 && Wv.eqs (eachL n n) ((i * 7 + 3) % n) == 1 && Wv.less (eachL n n) i == i
theorem one_all : (List.range 60).all oneB = true := by decide +kernel
theorem one_at (n i : Nat) (hn : n < 60) (h7 : ¬ n % 7 = 0) (hi : i < n) : Wv.eqs ((eachL n n).take i) ((i * 7 + 3) % n) = 0 ∧ Wv.eqs (eachL n n) ((i * 7 + 3) % n) = 1 ∧ Wv.less (eachL n n) i = i := by
  have h := List.all_eq_true.1 one_all n (List.mem_range.2 hn)
  unfold oneB at h
  rw [Bool.or_eq_true, beq_iff_eq] at h
  rcases h with h | h
  · exact absurd h h7
  · have h2 := List.all_eq_true.1 h i (List.mem_range.2 hi)
    simp only [Bool.and_eq_true, beq_iff_eq] at h2
    exact ⟨h2.1.1, h2.1.2, h2.2⟩
theorem zeros_eqs (n k : Nat) (h : k ≤ n) : Wv.eqs ((List.replicate n 0).take k) 0 = k := by
  rw [List.take_replicate, Nat.min_eq_left h]
  unfold Wv.eqs
  rw [List.filter_eq_self.2 (fun x hx => by rw [(List.mem_replicate.1 hx).2]; rfl)]
  simp
theorem ints_zeros (n : Nat) : intsV (List.replicate n 0) = List.replicate n (Value.int .i64 0) := by simp [intsV]
end Lec
namespace Go.Proofs.Ytgohpblcaafliaa
open Go.RowKit Lec
theorem info_int1 : (Try.prog.info? 3).map (fun i => (i.zero, i.size, i.bytes)) = some (some (.int .i64 0), 1, 8) := by kernel_rfl
set_option maxRecDepth 100000 in
set_option maxHeartbeats 4000000 in
theorem WaveletOne_walk (W : World) (K : Int) (A B : Option Addr) (c d : Nat) (L Is : List Int) (hl : Rds W A (intsV L)) (hi : Rds W B (intsV Is)) (hwf : ∀ y ∈ Is, -9223372036854775808 ≤ y ∧ y ≤ 9223372036854775807) :
    Calls Try.prog 12 #[.agg #[.int .i64 K, .slice A L.length c, .slice B Is.length d]] W fun e w' => e = .returned (.bool true) ∧ Below W.heap.size W w' := by
  clear hl hi hwf
  go_enter Try.func12, Try.ntmps12
  go_wp2
  obtain ⟨w0, hw0⟩ : ∃ w0, w0 = W.alloc (.cells #[.int .i64 K, .slice A L.length c, .slice B Is.length d] 43) := ⟨_, rfl⟩
  rw [← hw0]
  have HX0 : Hid (Below W.heap.size W w0) := by rw [hw0]; exact (Below.refl _ _).alloc (Nat.le_refl _) _
  have HC1 : Hid (w0.cell? ⟨W.heap.size, 1, none⟩ = some (.slice A L.length c)) := by rw [hw0]; show _ = _; rw [cell_of_row _ _ _ _ _ _ (heap_alloc_new _ _)]; rfl
  clear hw0
  go_loopw [3] (fun i wr => ∃ n : Nat, n ≤ 100 ∧ i = .int .i64 (n : Int) ∧ Hid (Below w0.heap.size w0 wr)) (fun i _ => 100 - (intOf i).toNat)
  case atStart => exact ⟨0, by omega, rfl, Lib.hid (Below.refl _ _)⟩
  case round =>
    obtain ⟨n, hn, rfl, HB⟩ := hrel
    by_cases h6 : n < 60
    · have h6i : (n : Int) < 60 := by omega
      have hmk := fun w => mk_ints n (by omega) w
      go_upto_region 5 with (fail)
      obtain ⟨wm, hwm⟩ : ∃ wm, wm = wr.alloc (.cells (Array.replicate n (.int .i64 0)) 3) := ⟨_, rfl⟩
      rw [← hwm]
      have HBM : Hid (Below w0.heap.size w0 wm) := by rw [hwm]; exact Below.allocA HB.out (Nat.le_refl _) _
      have HRM : Hid (Rds wm (some ⟨wr.heap.size, 0, none⟩) (intsV (List.replicate n 0))) := by
        rw [hwm, ints_zeros]
        have := rds_litM wr (Array.replicate n (.int .i64 0)) 3
        rwa [Array.toList_replicate] at this
      obtain ⟨g, hg⟩ : ∃ g, g = wr.heap.size := ⟨_, rfl⟩
      rw [← hg] at HRM ⊢
      clear hwm hmk HB hg
      go_wp2
      go_loopw [5, 6] (fun v i wx => ∃ k : Nat, i = .int .i64 (k : Int) ∧ k ≤ n ∧ Hid (wx.ownsRow wm.heap.size 3 1 v k (natsC (eachL n k))) ∧ Hid (Below wm.heap.size wm wx)) (fun _ i _ => n - (intOf i).toNat)
      case atStart => exact ⟨0, rfl, by omega, World.ownsRow_nil _ _ _ _, Lib.hid (Below.refl _ _)⟩
      case round =>
        obtain ⟨k, rfl, hk, HO, HB⟩ := hrel
        by_cases h7 : k < n
        · have h7i : (k : Int) < (n : Int) := by omega
          obtain ⟨v, rfl⟩ : ∃ x, x = u5 := ⟨_, rfl⟩
          have hm0 : ((n : Int) == 0) = false := by rw [beq_eq_false_iff_ne]; omega
          have hsz := HB.out.size
          have HES := Lib.hid (eachL_succ n k)
          have HMD : Hid (((k : Int) * 7 + 3) % (n : Int) = (((k * 7 + 3) % n : Nat) : Int)) := by show _ = _; push_cast; rfl
          go_wp2_with (at_builtin; refine wp_app1 (w0 := wr) rfl rfl _ _ 23 rfl wm.heap.size 3 (.int .i64 0) 1 8 Try.underlying23 info_int1 rfl (by decide) (by decide) _ k _ rfl HO.out rfl rfl (one_cell1 rfl) (by omega) hsz ?_
                       intro v' w1 hown hg1 hb1)
          go_roundw
          case rel =>
            refine ⟨k + 1, by go_num, by omega, ?_, HB.out.trans hb1⟩
            show World.ownsRow _ _ _ _ _ _ _
            rw [HES.out]; unfold natsC at hown ⊢; rw [List.map_append, List.map_cons, List.map_nil, ← HMD.out]; exact hown
          case measure => simp [intOf]; omega
        · obtain rfl : k = n := by omega
          have h7i : ¬ (k : Int) < (k : Int) := by omega
          have HBX : Hid (Below w0.heap.size w0 wr) := HBM.out.trans (HB.out.mono HBM.out.size)
          obtain ⟨AE, cE, rfl, p1, p2, p3, p4, p5⟩ := own_rds HO.out
          have HRE := Lib.hid p4
          have HNW := Lib.hid (NewW_any wr (some ⟨g, 0, none⟩) k 1 (List.replicate k 0) (by simp; omega) (HRM.out.ext HB.out (Nat.le_refl _)))
          rw [List.length_replicate] at HNW
          have HM7 : Hid (((k : Int) % 7 == 0) = decide (k % 7 = 0)) := by
            show _ = _; rw [Bool.eq_iff_iff, beq_iff_eq, decide_eq_true_iff]; omega
          clear p1 p2 p3 p4 p5 HO HB HBM HRM
          go_wp2_with fail
          refine HNW.out.mono ?_
          rintro e w2 ⟨hb, ⟨hno, _⟩ | ⟨hok, p, D, rfl, hkD, hD9, ht⟩⟩
          · exact absurd ⟨by decide, by decide, fun y hy => by rw [(List.mem_replicate.1 hy).2]; decide⟩ hno
          have HB2 : Hid (Below w0.heap.size w0 w2) := HBX.out.trans (hb.mono HBX.out.size)
          have HRE2 := Lib.hid (HRE.out.ext hb (Nat.le_refl _))
          have hz : (List.replicate k (0 : Int)).map Int.toNat = List.replicate k 0 := by simp
          rw [hz] at ht
          have HSL : Hid (∀ w', Below w2.heap.size w2 w' → ∀ j, j < k → Calls Try.prog 38 #[.pointer (some ⟨p, 0, none⟩), .int .i64 0, .int .i64 (j : Int)] w' fun e w'' => e = .returned (.tuple #[.int .i64 (j : Int), .int .i64 0]) ∧ Below w'.heap.size w' w'') := Lib.hid fun w' h j hj => by
            have := tSelect_in (ht.ext h (Nat.le_refl _)) hD9 (by decide) hkD (by simp; omega) (fun x hx => by rw [(List.mem_replicate.1 hx).2]; decide) 0 j (by rw [List.getElem?_replicate, if_pos hj]) j (zeros_eqs k j (by omega)) (by have := zeros_eqs k k (Nat.le_refl _); rw [List.take_of_length_le (by simp)] at this; omega)
            exact this
          have HRK : Hid (∀ w', Below w2.heap.size w2 w' → ∀ j, j < k → Calls Try.prog 30 #[.pointer (some ⟨p, 0, none⟩), .int .i64 0, .int .i64 (j : Int)] w' fun e w'' => e = .returned (.tuple #[.int .i64 (j : Int), .int .i64 0]) ∧ Below w'.heap.size w' w'') := Lib.hid fun w' h j hj => by
            have := tRank_in (ht.ext h (Nat.le_refl _)) hD9 (by decide) hkD (by simp; omega) (fun x hx => by rw [(List.mem_replicate.1 hx).2]; decide) 0 (by decide) j (by simp; omega)
            rw [zeros_eqs k j (by omega)] at this
            exact this
          clear hb hok hkD hD9 ht hz HNW HRE HBX
          go_wp2_with (go_at_call 40; refine (num3 _ _).mono ?_; rintro e wq ⟨rfl, rfl⟩)
          go_loopw [9] (fun i wx => ∃ j : Nat, i = .int .i64 (j : Int) ∧ j ≤ k ∧ Hid (Below w2.heap.size w2 wx)) (fun i _ => k - (intOf i).toNat)
          case atStart => exact ⟨0, rfl, by omega, Lib.hid (Below.refl _ _)⟩
          case round =>
            obtain ⟨j, rfl, hj, HB⟩ := hrel
            by_cases h8 : j < k
            · have h8i : (j : Int) < (k : Int) := by omega
              have hjj : ((j : Int) != (j : Int)) = false := by simp
              go_wp2_with fail
              refine (HSL.out _ HB.out j h8).mono ?_
              rintro e w3 ⟨rfl, hb3⟩
              have HB3 : Hid (Below w2.heap.size w2 w3) := HB.out.trans (hb3.mono HB.out.size)
              clear hb3
              go_wp2_with fail
              refine (HRK.out _ HB3.out j h8).mono ?_
              rintro e w4 ⟨rfl, hb4⟩
              have HB4 : Hid (Below w2.heap.size w2 w4) := HB3.out.trans (hb4.mono HB3.out.size)
              clear hb4
              go_wp2_with (go_at_call 40; refine (num3 _ _).mono ?_; rintro e wq ⟨rfl, rfl⟩)
              go_roundw
              case rel => exact ⟨j + 1, by go_num, by omega, HB4⟩
              case measure => simp [intOf]; omega
            · obtain rfl : j = k := by omega
              have h8i : ¬ (j : Int) < (j : Int) := by omega
              have HBX : Hid (Below w0.heap.size w0 wr) := HB2.out.trans (HB.out.mono HB2.out.size)
              by_cases hm7 : j % 7 = 0
              · have hm7i : ((j : Int) % 7 == 0) = true := by rw [HM7.out]; exact decide_eq_true hm7
                clear hm7
                go_wp2
                go_roundw
                case rel => exact ⟨j + 1 + j / 4, by omega, by go_num, HBX⟩
                case measure => simp [intOf]; omega
              · have hm7i : ((j : Int) % 7 == 0) = false := by rw [HM7.out]; exact decide_eq_false hm7
                have hj0 : ((j : Int) == 0) = false := by rw [beq_eq_false_iff_ne]; omega
                have HONE := Lib.hid (fun i h => one_at j i h6 hm7 h)
                have HNW := Lib.hid (NewW_any wr AE cE (j : Int) ((eachL j j).map (fun x : Nat => (x : Int))) (by simp [eachL_len]; omega) (by have := HRE2.out.ext HB.out (Nat.le_refl _); unfold natsC at this; unfold intsV; rw [List.map_map]; exact this))
                rw [List.length_map, eachL_len] at HNW
                have HRE3 : Hid (∀ w', Below wr.heap.size wr w' → Rds w' AE (natsC (eachL j j))) := Lib.hid fun w' h => (HRE2.out.ext HB.out (Nat.le_refl _)).ext h (Nat.le_refl _)
                have hj1 : 0 < j := by omega
                clear hm7 HRE2 HSL HRK
                go_wp2_with fail
                refine HNW.out.mono ?_
                rintro e w3 ⟨hb, ⟨hno, _⟩ | ⟨hok, q, D2, rfl, hkD, hD9, ht⟩⟩
                · exact absurd ⟨by omega, by omega, fun y hy => by
                    obtain ⟨x, hx, rfl⟩ := List.mem_map.1 hy
                    have := eachL_lt j j hj1 x hx
                    omega⟩ hno
                have hz : ((eachL j j).map (fun x : Nat => (x : Int))).map Int.toNat = eachL j j := by rw [List.map_map]; refine (List.map_congr_left (fun y _ => ?_)).trans (List.map_id _); rfl
                rw [hz, Int.toNat_natCast] at ht
                rw [Int.toNat_natCast] at hkD
                have HB3 : Hid (Below w0.heap.size w0 w3) := HBX.out.trans (hb.mono HBX.out.size)
                have hlt := eachL_lt j j hj1
                have HRE4 : Hid (∀ w', Below w3.heap.size w3 w' → Rds w' AE (natsC (eachL j j))) := Lib.hid fun w' h => (HRE3.out _ hb).ext h (Nat.le_refl _)
                have HS0 : Hid (∀ w', Below w3.heap.size w3 w' → ∀ i, i < j → Calls Try.prog 38 #[.pointer (some ⟨q, 0, none⟩), .int .i64 (((i * 7 + 3) % j : Nat) : Int), .int .i64 0] w' fun e w'' => e = .returned (.tuple #[.int .i64 (i : Int), .int .i64 0]) ∧ Below w'.heap.size w' w'') := Lib.hid fun w' h i hi => by
                  obtain ⟨o1, o2, _⟩ := HONE.out i hi
                  exact tSelect_in (ht.ext h (Nat.le_refl _)) hD9 (by omega) hkD (by rw [eachL_len]; omega) hlt _ i (eachL_at j j i hi) 0 o1 (by omega)
                have HS1 : Hid (∀ w', Below w3.heap.size w3 w' → ∀ i, i < j → Calls Try.prog 38 #[.pointer (some ⟨q, 0, none⟩), .int .i64 (((i * 7 + 3) % j : Nat) : Int), .int .i64 1] w' fun e w'' => e = .returned (.tuple #[.int .i64 0, .int .i64 3]) ∧ Below w'.heap.size w' w'') := Lib.hid fun w' h i hi => by
                  obtain ⟨o1, o2, _⟩ := HONE.out i hi
                  exact tSelect_none (ht.ext h (Nat.le_refl _)) (by omega) (by rw [eachL_len]; omega) _ 1 (Nat.mod_lt _ hj1) (.inr (by rw [o2]; decide))
                have HLE : Hid (∀ w', Below w3.heap.size w3 w' → ∀ i, i < j → Calls Try.prog 33 #[.pointer (some ⟨q, 0, none⟩), .int .i64 (i : Int)] w' fun e w'' => e = .returned (.tuple #[.int .i64 (i : Int), .int .i64 0]) ∧ w' = w'') := Lib.hid fun w' h i hi => by
                  have := tLess_in (ht.ext h (Nat.le_refl _)) (by omega) i (by omega)
                  rwa [(HONE.out i hi).2.2] at this
                clear hb hok hkD hD9 ht hz HNW HRE3 HONE hlt
                go_wp2_with (go_at_call 40; refine (num3 _ _).mono ?_; rintro e wq ⟨rfl, rfl⟩)
                go_loopw [15] (fun i wx => ∃ i' : Nat, i = .int .i64 (i' : Int) ∧ i' ≤ j ∧ Hid (Below w3.heap.size w3 wx)) (fun i _ => j - (intOf i).toNat)
                case atStart => exact ⟨0, rfl, by omega, Lib.hid (Below.refl _ _)⟩
                case round =>
                  clear HB
                  obtain ⟨i, rfl, hi, HB⟩ := hrel
                  by_cases h9 : i < j
                  · have h9i : (i : Int) < (j : Int) := by omega
                    have hii : ((i : Int) != (i : Int)) = false := by simp
                    obtain ⟨ae, rfl, ce⟩ := HRE4.out _ HB.out i _ (natsC_at (eachL_at j j i h9))
                    have K0 := HS0.out _ HB.out i h9
                    have HK1 : Hid (∀ w', Below w3.heap.size w3 w' → _) := Lib.hid fun w' h => HS1.out w' h i h9
                    have HCE : Hid (∀ w', Below w3.heap.size w3 w' → w'.cell? (ae.add i) = some (.int .i64 (((i * 7 + 3) % j : Nat) : Int))) := Lib.hid fun w' h => by
                      obtain ⟨a2, e2, c2⟩ := HRE4.out _ h i _ (natsC_at (eachL_at j j i h9))
                      obtain rfl := Option.some.inj e2
                      exact c2
                    have HK0 := Lib.hid K0
                    clear K0
                    generalize (i * 7 + 3) % j = x at *
                    go_wp2_with fail
                    refine HK0.out.mono ?_
                    rintro e w4 ⟨rfl, hb4⟩
                    have HB4 : Hid (Below w3.heap.size w3 w4) := HB.out.trans (hb4.mono HB.out.size)
                    clear hb4 ce
                    go_wp2_with fail
                    refine (HLE.out _ HB4.out i h9).mono ?_
                    rintro e w5 ⟨rfl, rfl⟩
                    have ce := HCE.out _ HB4.out
                    go_wp2_with fail
                    refine (HK1.out _ HB4.out).mono ?_
                    rintro e w5 ⟨rfl, hb5⟩
                    have HB5 : Hid (Below w3.heap.size w3 w5) := HB4.out.trans (hb5.mono HB4.out.size)
                    clear hb5 ce
                    go_wp2_with (go_at_call 40; refine (num3 _ _).mono ?_; rintro e wq ⟨rfl, rfl⟩)
                    go_roundw
                    case rel => exact ⟨i + 1, by go_num, by omega, HB5⟩
                    case measure => simp [intOf]; omega
                  · obtain rfl : i = j := by omega
                    have h9i : ¬ (i : Int) < (i : Int) := by omega
                    have HBX2 : Hid (Below w0.heap.size w0 wr) := HB3.out.trans (HB.out.mono HB3.out.size)
                    go_wp2
                    go_roundw
                    case rel => exact ⟨i + 1 + i / 4, by omega, by go_num, HBX2⟩
                    case measure => simp [intOf]; omega
    · have h6i : ¬ (n : Int) < 60 := by omega
      have c1 := cell_ext HB.out (Nat.le_refl _) HC1.out
      have hll : (0 : Int) ≤ (L.length : Int) := by omega
      have HXF : Hid (Below W.heap.size W wr) := HX0.out.trans (HB.out.mono HX0.out.size)
      go_wp2_with fail
      refine (wakesV _).mono ?_
      rintro e w9 ⟨rfl, hb⟩
      go_wp2
      go_ret
      exact ⟨rfl, HXF.out.trans (hb.mono HXF.out.size)⟩
end Go.Proofs.Ytgohpblcaafliaa
