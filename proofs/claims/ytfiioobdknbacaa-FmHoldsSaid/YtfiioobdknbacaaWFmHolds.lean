/- The walk of the law FmHolds. -/
import Derived.Test.YtfiioobdknbacaaAskF
set_option linter.unusedVariables false
set_option linter.unusedSimpArgs false
namespace Lec.Fm
open Lec.Sa
theorem pat_nats {k : Nat} {p : List Int} (hw : wrongE k p = 0) : intsV p = natsC (p.map Int.toNat) := by
  rw [natsC_ints, List.map_map]
  congr 1
  refine ((List.map_congr_left (fun y hy => ?_)).trans (List.map_id _)).symm
  have hpb : patB k p = true := by
    unfold wrongE at hw
    split at hw
    · omega
    · cases h : patB k p
      · rw [h] at hw; simp at hw
      · rfl
  have := (patB_iff k p).1 hpb y hy
  show ((y.toNat : Nat) : Int) = y
  omega
theorem span_diff (s b p : List Nat) : (spanS s b p).2 - (spanS s b p).1 = inB s b p := by
  have h := upp_eq s b p
  unfold spanS
  split
  · dsimp only; omega
  · dsimp only; omega
theorem find_len {s b p : List Nat} (h : IsSA s b) (hp : p ≠ []) : (findS s p).length = inB s b p := by
  have h1 := (find_perm h hp).length_eq
  rw [← h1, List.length_drop, List.length_take, rowsL_len h, ← span_diff]
  have := span_le (p := p) h
  omega
theorem inB_mono {s b p q : List Nat} (h : p <+: q) : inB s b q ≤ inB s b p := by
  unfold inB
  refine List.countP_mono_left (fun v _ hv => ?_)
  unfold inP at *
  rw [List.isPrefixOf_iff_prefix] at *
  exact h.trans hv
/-- How many places lie ahead of k. -/
def ahd (s q : List Nat) (k : Nat) : Nat := ((List.range k).filter (inP s q)).length
theorem ahd_in {s q : List Nat} {k : Nat} (hk : k < s.length) (h : inP s q k = true) : (findS s q)[ahd s q k]? = some k := by
  have h1 := filter_at (inP s q) (l := List.range s.length) (i := k) (c := k) (List.getElem?_range hk) h
  rwa [List.take_range, Nat.min_eq_left (Nat.le_of_lt hk)] at h1
theorem ahd_out {s q : List Nat} {k : Nat} (h : inP s q k = false) (j : Nat) : (findS s q)[j]? ≠ some k := fun e => by
  have h1 : k ∈ findS s q := List.mem_iff_getElem?.2 ⟨j, e⟩
  unfold findS at h1
  have h2 := (List.mem_filter.1 h1).2
  rw [h] at h2
  cases h2
theorem ahd_succ (s q : List Nat) (k : Nat) : ahd s q (k + 1) = ahd s q k + (if inP s q k then 1 else 0) := by
  unfold ahd
  rw [List.range_succ, List.filter_append, List.length_append, List.filter_cons]
  cases inP s q k <;> rfl
theorem ahd_le (s q : List Nat) (k : Nat) : ahd s q k ≤ k := by
  unfold ahd; have := List.length_filter_le (inP s q) (List.range k); rwa [List.length_range] at this
theorem in_short {s q : List Nat} {k : Nat} (h : s.length - k < q.length) : inP s q k = false := by
  rw [Bool.eq_false_iff]; intro h2
  unfold inP at h2
  rw [List.isPrefixOf_iff_prefix] at h2
  have := h2.length_le
  rw [List.length_drop] at this
  omega
theorem in_eq {s q : List Nat} {k : Nat} : inP s q k = decide ((s.drop k).take q.length = q) := by
  rw [Bool.eq_iff_iff, decide_eq_true_iff]
  unfold inP
  rw [List.isPrefixOf_iff_prefix, List.prefix_iff_eq_take]
  exact ⟨fun h => h.symm, fun h => h.symm⟩
theorem wrong_take {k : Nat} {p : List Int} (hw : wrongE k p = 0) {n : Nat} (h1 : 0 < n) : wrongE k (p.take n) = 0 := by
  have hpb : p ≠ [] ∧ patB k p = true := by
    unfold wrongE at hw
    split at hw
    · omega
    · rename_i h0
      refine ⟨fun e => h0 (by rw [e]; rfl), ?_⟩
      cases h : patB k p
      · rw [h] at hw; simp at hw
      · rfl
  unfold wrongE
  have hne : p.take n ≠ [] := fun e => by
    rw [List.take_eq_nil_iff] at e
    rcases e with e | e
    · omega
    · exact hpb.1 e
  rw [if_neg (by rw [List.isEmpty_iff]; exact hne), if_pos ((patB_iff k _).2 (fun y hy => (patB_iff k p).1 hpb.2 y (List.mem_of_mem_take hy)))]
theorem hits_ge {k : Nat} {s b : List Nat} {p : List Int} (h : IsSA s b) (hw : wrongE k p = 0) {n : Nat} (h1 : 0 < n) : (findS s (p.map Int.toNat)).length ≤ (rowsE k s b (p.take n)).2 - (rowsE k s b (p.take n)).1 := by
  unfold rowsE
  rw [if_pos (wrong_take hw h1), span_diff, find_len h (wrong_ne hw)]
  refine inB_mono ?_
  rw [List.map_take]
  exact List.take_prefix _ _
theorem find_lt {s q : List Nat} {j v : Nat} (h : (findS s q)[j]? = some v) : v < s.length := by
  have h1 : v ∈ findS s q := List.mem_iff_getElem?.2 ⟨j, h⟩
  unfold findS at h1
  exact List.mem_range.1 (List.mem_filter.1 h1).1
end Lec.Fm
namespace Go.Proofs.Ytfiioobdknbacaa
open Go.RowKit Lec Lec.Fm

set_option maxRecDepth 100000 in
set_option maxHeartbeats 4000000 in
theorem FmHolds_walk (W : World) (K : Int) (A B C : Option Addr) (c d e0 : Nat) (L : List Int) (P : List (List Int)) (Is : List Int) (hL : L.length ≤ 1152921504606846976) (hPl : ∀ p ∈ P, p.length ≤ 1152921504606846976) (hPn : P.length ≤ 1152921504606846976) (hcA : L.length ≤ c) (hnA : A = none → L.length = 0 ∧ c = 0)
    (hl : Rds W A (intsV L)) (hpt : Pats W B P) (hi : Rds W C (intsV Is)) (hwf : ∀ y ∈ Is, -9223372036854775808 ≤ y ∧ y ≤ 9223372036854775807) :
    Calls Try.prog 7 #[.agg #[.int .i64 K, .slice A L.length c, .slice B P.length d, .slice C Is.length e0]] W fun e w' => e = .returned (.bool true) ∧ Below W.heap.size W w' := by
  have HL := Lib.hid hl
  have HPT := Lib.hid hpt
  have HI := Lib.hid hi
  have HW := Lib.hid hwf
  have HV : Hid (∀ w', Below W.heap.size W w' → Calls Try.prog 21 #[.agg #[.int .i64 K, .slice A L.length c, .slice B P.length d, .slice C Is.length e0]] w' (HeavyF w' L P Is)) := Lib.hid fun w' h => heavyF_any w' K A B C c d e0 L P Is hL hPl hPn (hpt.ext h (Nat.le_refl _))
  clear hl hi hwf hpt hL hPl hPn
  go_enter Try.func7, Try.ntmps7
  go_wp2_with fail
  obtain ⟨w0, hw0⟩ : ∃ w0, w0 = W.alloc (.cells #[.int .i64 K, .slice A L.length c, .slice B P.length d, .slice C Is.length e0] 48) := ⟨_, rfl⟩
  rw [← hw0]
  have HX0 : Hid (Below W.heap.size W w0) := by rw [hw0]; exact (Below.refl _ _).alloc (Nat.le_refl _) _
  have HC0 : Hid (w0.cell? ⟨W.heap.size, 0, none⟩ = some (.int .i64 K)) := by rw [hw0]; show _ = _; rw [cell_of_row _ _ _ _ _ _ (heap_alloc_new _ _)]; rfl
  have HC1 : Hid (w0.cell? ⟨W.heap.size, 1, none⟩ = some (.slice A L.length c)) := by rw [hw0]; show _ = _; rw [cell_of_row _ _ _ _ _ _ (heap_alloc_new _ _)]; rfl
  have HC2 : Hid (w0.cell? ⟨W.heap.size, 2, none⟩ = some (.slice B P.length d)) := by rw [hw0]; show _ = _; rw [cell_of_row _ _ _ _ _ _ (heap_alloc_new _ _)]; rfl
  have HC3 : Hid (w0.cell? ⟨W.heap.size, 3, none⟩ = some (.slice C Is.length e0)) := by rw [hw0]; show _ = _; rw [cell_of_row _ _ _ _ _ _ (heap_alloc_new _ _)]; rfl
  clear hw0
  refine (HV.out w0 HX0.out).mono ?_
  rintro e w1 ⟨u, rfl, hlight, hb⟩
  have HLI := Lib.hid hlight
  have HX1 : Hid (Below W.heap.size W w1) := HX0.out.trans (hb.mono HX0.out.size)
  have HC01 := Lib.hid (cell_ext hb (Nat.le_refl _) HC0.out)
  have HC11 := Lib.hid (cell_ext hb (Nat.le_refl _) HC1.out)
  have HC21 := Lib.hid (cell_ext hb (Nat.le_refl _) HC2.out)
  have HC31 := Lib.hid (cell_ext hb (Nat.le_refl _) HC3.out)
  clear hb hlight HC0 HC1 HC2 HC3 HX0 HV
  have k0 := HC01.out
  have k1 := HC11.out
  have k2 := HC21.out
  have k3 := HC31.out
  cases u with
  | true =>
    go_wp2
    go_ret
    exact ⟨rfl, HX1.out⟩
  | false =>
    obtain ⟨hl4, hp4, hpn, hin⟩ := HLI.out rfl
    clear HLI
    go_wp2_with fail
    clear k0 k1 k2 k3
    refine (Build_any w1 A c K L (by omega) (HL.out.ext HX1.out (Nat.le_refl _)) hnA).mono ?_
    rintro e w2 ⟨hb, hpost⟩
    have HX2 : Hid (Below W.heap.size W w2) := HX1.out.trans (hb.mono HX1.out.size)
    have HK0 := Lib.hid (cell_ext hb (Nat.le_refl _) HC01.out)
    have HK1 := Lib.hid (cell_ext hb (Nat.le_refl _) HC11.out)
    have HK2 := Lib.hid (cell_ext hb (Nat.le_refl _) HC21.out)
    have HK3 := Lib.hid (cell_ext hb (Nat.le_refl _) HC31.out)
    replace HL := Lib.hid (HL.out.ext HX2.out (Nat.le_refl _))
    replace HPT := Lib.hid (HPT.out.ext HX2.out (Nat.le_refl _))
    replace HI := Lib.hid (HI.out.ext HX2.out (Nat.le_refl _))
    clear hb HX1 HC01 HC11 HC21 HC31
    obtain ⟨lo, hlo⟩ : ∃ lo, lo = w1.heap.size := ⟨_, rfl⟩
    rcases hpost with ⟨hno, rfl⟩ | ⟨hok, x, D, b, rfl, hfc, hfm⟩
    · clear hno
      have HXF := HX2
      go_wp2_with (go_at_call 28; refine (num6 _ _).mono ?_; rintro e wq ⟨rfl, rfl⟩)
      refine (wakesF _).mono ?_
      rintro e w9 ⟨rfl, hb⟩
      go_wp2
      go_ret
      exact ⟨rfl, HXF.out.trans (hb.mono HXF.out.size)⟩
    · have hnats := okTree_nats hok
      obtain ⟨k, rfl⟩ : ∃ k : Nat, K = (k : Int) := ⟨K.toNat, by have := hok.1; omega⟩
      obtain ⟨s, hM⟩ : ∃ s, s = L.map Int.toNat := ⟨_, rfl⟩
      rw [← hlo] at hfm
      rw [← hM] at hfc hfm hnats
      have hml : s.length = L.length := by rw [hM, List.length_map]
      rw [Int.toNat_natCast] at hfc hfm
      have HSL := Lib.hid hml
      have HNA := Lib.hid hnats
      have HFC := Lib.hid hfc
      have HFM : Hid (∀ w', Below w2.heap.size w2 w' → FmN w' x k D s b lo) := Lib.hid fun w' h => hfm.ext h (Nat.le_refl _)
      have HLS : Hid (∀ w', Below w2.heap.size w2 w' → Rds w' A (natsC s)) := Lib.hid fun w' h => by rw [HNA.out]; exact HL.out.ext h (Nat.le_refl _)
      have HPE : Hid (∀ i (h : i < P.length), ∃ a PA pc, B = some a ∧ P[i].length ≤ pc ∧ (PA = none → P[i].length = 0 ∧ pc = 0) ∧ ∀ w', Below w2.heap.size w2 w' → w'.cell? (a.add i) = some (.slice PA P[i].length pc) ∧ Rds w' PA (intsV P[i])) := Lib.hid fun i h => by
        obtain ⟨a, PA, pc, e, h1, h2, h3, h4⟩ := HPT.out i h
        exact ⟨a, PA, pc, e, h2, h3, fun w' hb => ⟨cell_ext hb (Nat.le_refl _) h1, h4.ext hb (Nat.le_refl _)⟩⟩
      have hsl4 : s.length ≤ 400 := by rw [HSL.out]; exact hl4
      have hk5 := hfc.k5
      have hk1 : 1 ≤ k := by have := hok.1; omega
      clear hM hml hnats hfc hfm hok HPT hlo
      rw [← HSL.out] at HK1
      go_wp2_with (go_at_call 28; refine (num6 _ _).mono ?_; rintro e wq ⟨rfl, rfl⟩)
      go_loopw [5] (fun i wr => ∃ n : Nat, n ≤ P.length ∧ i = .int .i64 (n : Int) ∧ Hid (Below w2.heap.size w2 wr)) (fun i _ => P.length - (intOf i).toNat)
      case atStart => exact ⟨0, by omega, rfl, Lib.hid (Below.refl _ _)⟩
      case round =>
        obtain ⟨i, hi, rfl, HB⟩ := hrel
        have c2 := cell_ext HB.out (Nat.le_refl _) HK2.out
        by_cases h1 : i < P.length
        · have h1i : (i : Int) < (P.length : Int) := by omega
          have hi0 : (0 : Int) ≤ (i : Int) := by omega
          obtain ⟨a, PA, pc, rfl, hpc, hpn0, hcp⟩ := HPE.out i h1
          have hp4i := hp4 _ (List.getElem_mem h1)
          generalize P[i] = p at *
          have HCP := Lib.hid hcp
          have cp := (hcp _ HB.out).1
          have HFD : Hid (Calls Try.prog 27 #[.pointer (some ⟨x, 0, none⟩), .slice PA p.length pc] wr (FindPost wr k s p)) := Lib.hid (Find_any HFC.out (HFM.out wr HB.out) PA pc p (by omega) (hcp _ HB.out).2)
          clear hcp
          go_wp2_with fail
          refine HFD.out.mono ?_
          rintro e w6 ⟨lv, rfl, hown6, hb6⟩
          have HB6 : Hid (Below w2.heap.size w2 w6) := Lib.hid (HB.out.trans (hb6.mono HB.out.size))
          obtain ⟨A6, c6, rfl, _, _, _, r6, _⟩ := own_rds hown6
          have HR6 := Lib.hid r6
          clear hown6 hb6 r6 c2 cp HFD
          by_cases hw : wrongE k p = 0
          · have hfe : findE k s p = findS s (p.map Int.toNat) := by unfold findE; rw [if_pos hw]
            have hne := wrong_ne hw
            have hpq := pat_nats hw
            rw [hfe] at HR6 ⊢
            rw [hw]
            obtain ⟨q, hq⟩ : ∃ q, q = p.map Int.toNat := ⟨_, rfl⟩
            rw [← hq] at HR6 hne hpq ⊢
            have hql : q.length = p.length := by rw [hq, List.length_map]
            have HQL := Lib.hid hql
            have HWR := Lib.hid hw
            have HQE := Lib.hid hq
            have HNE := Lib.hid hne
            have HPQ := Lib.hid hpq
            have hq1 : 1 ≤ q.length := List.length_pos_iff.2 hne
            have hq4 : q.length ≤ 400 := by omega
            have HAL : Hid (ahd s q s.length = (findS s q).length) := Lib.hid rfl
            have HFL : Hid ((findS s q).length ≤ s.length) := Lib.hid (by rw [← HAL.out]; exact ahd_le _ _ _)
            rw [← hql] at HCP ⊢
            clear hw hfe hne hpq hq hql
            go_wp2_with (go_at_call 28; refine (num6 _ _).mono ?_; rintro e wq ⟨rfl, rfl⟩)
            go_loopw [9, 10] (fun at_ kk wr => ∃ n : Nat, n ≤ s.length ∧ kk = .int .i64 (n : Int) ∧ at_ = .int .i64 (ahd s q n : Int) ∧ Hid (Below w6.heap.size w6 wr)) (fun _ kk _ => s.length - (intOf kk).toNat)
            case atStart => exact ⟨0, by omega, rfl, rfl, Lib.hid (Below.refl _ _)⟩
            case round =>
              clear HB
              obtain ⟨j, hj, rfl, rfl, HB⟩ := hrel
              have HBW : Hid (Below w2.heap.size w2 wr) := Lib.hid (HB6.out.trans (HB.out.mono HB6.out.size))
              have c1 := cell_ext HBW.out (Nat.le_refl _) HK1.out
              have hal := ahd_le s q j
              by_cases h2 : j < s.length
              · have h2i : (j : Int) < (s.length : Int) := by omega
                have hsucc := ahd_succ s q j
                have HAT : Hid (Hid (ahd s q j < (findS s q).length → ∃ v a6, A6 = some a6 ∧ (findS s q)[ahd s q j]? = some v ∧ v < s.length ∧ wr.cell? (a6.add (ahd s q j)) = some (.int .i64 (v : Int)))) := Lib.hid (Lib.hid fun h => by
                  obtain ⟨v, hv⟩ : ∃ v, (findS s q)[ahd s q j]? = some v := ⟨_, List.getElem?_eq_getElem h⟩
                  obtain ⟨a6, e6, c6'⟩ := (HR6.out.ext HB.out (Nat.le_refl _)) _ _ (natsC_at hv)
                  exact ⟨v, a6, e6, hv, find_lt hv, c6'⟩)
                have hfl := HFL.out
                have HIN := Lib.hid (fun h => ahd_in (s := s) (q := q) h2 h)
                have HOT := Lib.hid (fun h => ahd_out (s := s) (q := q) (k := j) h (ahd s q j))
                by_cases hsh : s.length - j < q.length
                · have hs1 : ¬ (q.length : Int) ≤ (s.length : Int) - (j : Int) := by omega
                  have hin := in_short hsh
                  have HOT2 := Lib.hid (HOT.out hin)
                  rw [hin] at hsucc
                  simp only [Bool.false_eq_true, if_false, Nat.add_zero] at hsucc
                  have HSU := Lib.hid hsucc
                  clear hsucc hin HIN HOT hsh
                  by_cases hat : ahd s q j < (findS s q).length
                  · obtain ⟨v, a6, rfl, hv, hvs, cv⟩ := HAT.out.out hat
                    have hvj : ((v : Int) == (j : Int)) = false := by
                      rw [beq_eq_false_iff_ne]; intro e
                      obtain rfl : v = j := by omega
                      exact HOT2.out hv
                    have hati : (ahd s q j : Int) < ((findS s q).length : Int) := by omega
                    clear HAT hv HOT2 hat
                    generalize ahd s q j = y at *
                    go_wp2
                    go_roundw
                    case rel => exact ⟨j + 1, by omega, by go_num, by rw [HSU.out], HB⟩
                    case measure => simp [intOf]; omega
                  · have hati : ¬ (ahd s q j : Int) < ((findS s q).length : Int) := by omega
                    clear HAT HOT2 hat
                    generalize ahd s q j = y at *
                    go_wp2
                    go_roundw
                    case rel => exact ⟨j + 1, by omega, by go_num, by rw [HSU.out], HB⟩
                    case measure => simp [intOf]; omega
                · have hs1 : (q.length : Int) ≤ (s.length : Int) - (j : Int) := by omega
                  have hjc : j < c := by have := HSL.out; omega
                  have q1 : ¬ c - j = 0 := by omega
                  have q2 : ¬ c = j := by omega
                  have f4 : (j : Int) ≤ (j : Int) + (q.length : Int) := by omega
                  have f5 : (j : Int) + (q.length : Int) ≤ (c : Int) := by have := HSL.out; omega
                  have HEQ : Hid (Calls Try.prog 29 #[.slice (Option.map (fun x => x.add j) A) q.length (c - j), .slice PA q.length pc] wr fun e w' => e = .returned (.bool (inP s q j)) ∧ ∃ q, wr.drewN q = w') := Lib.hid (by
                    have hr := Rds.drop1 (c := c) (k := j) (HLS.out _ HBW.out) (by simp [natsC]; omega) (by simp [natsC]; have := HSL.out; omega)
                    rw [if_neg q2] at hr
                    have hr2 := hr.take q.length
                    have hdt : ((natsC s).drop j).take q.length = natsC ((s.drop j).take q.length) := by unfold natsC; rw [List.map_take, List.map_drop]
                    rw [hdt] at hr2
                    have hl : ((s.drop j).take q.length).length = q.length := by rw [List.length_take, List.length_drop]; omega
                    have hrp := (HCP.out _ HBW.out).2
                    rw [HPQ.out] at hrp
                    have h := EqNumbers_any wr (Option.map (fun x => x.add j) A) q.length (c - j) (((s.drop j).take q.length).map fun v : Nat => (v : Int)) (by rw [List.length_map, hl]) (by rwa [natsC_ints] at hr2) PA q.length pc (q.map fun v : Nat => (v : Int)) (by rw [List.length_map]) (by rwa [natsC_ints] at hrp) (by omega)
                    have hdd : decide ((((s.drop j).take q.length).map fun v : Nat => (v : Int)) = q.map fun v : Nat => (v : Int)) = inP s q j := by
                      rw [in_eq]
                      refine decide_eq_decide.2 ⟨fun h => ?_, fun h => by rw [h]⟩
                      exact List.map_inj_right (fun x y hxy => by omega) |>.1 h
                    rwa [hdd] at h)
                  clear hsh
                  cases hin : inP s q j with
                  | true =>
                    have hv := HIN.out hin
                    have hat := (List.getElem?_eq_some_iff.1 hv).1
                    have hati : (ahd s q j : Int) < ((findS s q).length : Int) := by omega
                    obtain ⟨v, a6, rfl, hv2, hvs, cv⟩ := HAT.out.out hat
                    obtain rfl : v = j := by rw [hv] at hv2; injection hv2 with h; exact h.symm
                    have hvj : ((v : Int) == (v : Int)) = true := by simp
                    rw [hin] at hsucc HEQ
                    simp only [if_true] at hsucc
                    have HSU := Lib.hid hsucc
                    have HCW : Hid (∀ n, (wr.drewN n).cell? (a6.add (ahd s q v)) = some (.int .i64 (v : Int))) := Lib.hid fun n => cell_ext (drawn_below wr n) (Nat.le_refl _) cv
                    clear HAT hv2 hv hsucc hin HIN HOT hat
                    generalize ahd s q v = y at *
                    go_wp2_with (go_at_call 29; (with_reducible refine HEQ.out.mono ?_); rintro e wq ⟨rfl, q9, rfl⟩; clear cv; have cv := HCW.out q9)
                    go_roundw
                    case rel => exact ⟨v + 1, by omega, by go_num, by rw [HSU.out]; go_num, Lib.hid (HB.out.trans ((drawn_below wr q9).mono HB.out.size))⟩
                    case measure => simp [intOf]; omega
                  | false =>
                    have HOT2 := Lib.hid (HOT.out hin)
                    rw [hin] at hsucc HEQ
                    simp only [Bool.false_eq_true, if_false, Nat.add_zero] at hsucc
                    have HSU := Lib.hid hsucc
                    clear hsucc hin HIN HOT
                    by_cases hat : ahd s q j < (findS s q).length
                    · obtain ⟨v, a6, rfl, hv, hvs, cv⟩ := HAT.out.out hat
                      have hvj : ((v : Int) == (j : Int)) = false := by
                        rw [beq_eq_false_iff_ne]; intro e
                        obtain rfl : v = j := by omega
                        exact HOT2.out hv
                      have hati : (ahd s q j : Int) < ((findS s q).length : Int) := by omega
                      have HCW : Hid (∀ n, (wr.drewN n).cell? (a6.add (ahd s q j)) = some (.int .i64 (v : Int))) := Lib.hid fun n => cell_ext (drawn_below wr n) (Nat.le_refl _) cv
                      clear HAT hv HOT2 hat
                      generalize ahd s q j = y at *
                      go_wp2_with (go_at_call 29; (with_reducible refine HEQ.out.mono ?_); rintro e wq ⟨rfl, q9, rfl⟩; clear cv; have cv := HCW.out q9)
                      go_roundw
                      case rel => exact ⟨j + 1, by omega, by go_num, by rw [HSU.out], Lib.hid (HB.out.trans ((drawn_below wr q9).mono HB.out.size))⟩
                      case measure => simp [intOf]; omega
                    · have hati : ¬ (ahd s q j : Int) < ((findS s q).length : Int) := by omega
                      clear HAT HOT2 hat
                      generalize ahd s q j = y at *
                      go_wp2_with (go_at_call 29; (with_reducible refine HEQ.out.mono ?_); rintro e wq ⟨rfl, q9, rfl⟩)
                      go_roundw
                      case rel => exact ⟨j + 1, by omega, by go_num, by rw [HSU.out], Lib.hid (HB.out.trans ((drawn_below wr q9).mono HB.out.size))⟩
                      case measure => simp [intOf]; omega
              · obtain rfl : j = s.length := by omega
                have h2i : ¬ (s.length : Int) < (s.length : Int) := by omega
                rw [HAL.out] at hal ⊢
                have hff : (((findS s q).length : Int) != ((findS s q).length : Int)) = false := by simp
                have hpc1 : 1 ≤ pc := by have := HQL.out; omega
                have f6 : (0 : Int) ≤ (q.length : Int) - 1 := by omega
                have f7 : (q.length : Int) - 1 ≤ (pc : Int) := by have := HQL.out; omega
                have f8 : ((q.length : Int) - 1).toNat = q.length - 1 := by omega
                have hpl := HQL.out
                have hrt := ((HCP.out _ HBW.out).2).take (q.length - 1)
                have HHT := Lib.hid (Hits_any HFC.out (HFM.out _ HBW.out) PA pc (p.take (q.length - 1)) (by rw [List.length_take]; omega) (by show Rds wr PA (List.map (Value.int .i64) (p.take (q.length - 1))); rw [List.map_take]; exact hrt))
                rw [show (p.take (q.length - 1)).length = q.length - 1 by rw [List.length_take]; omega] at HHT
                clear hrt
                have hpc0 : ¬ pc = 0 := by omega
                have HGE : Hid (1 < q.length → wrongE k (p.take (q.length - 1)) = 0 ∧ (findS s q).length ≤ (rowsE k s b (p.take (q.length - 1))).2 - (rowsE k s b (p.take (q.length - 1))).1) := Lib.hid fun h => ⟨wrong_take HWR.out (by omega), by rw [HQE.out]; have := hits_ge (b := b) HFC.out.sa HWR.out (n := q.length - 1) (by omega); rw [HQE.out] at this; exact this⟩
                have HONE : Hid (q.length = 1 → wrongE k (p.take (q.length - 1)) = 5) := Lib.hid fun h => by rw [h]; rfl
                have hz := rowsE_le (k := k) (p := p.take (q.length - 1)) HFC.out.sa
                have hzl : (rowsE k s b (p.take (q.length - 1))).2 - (rowsE k s b (p.take (q.length - 1))).1 ≤ 1000 := by omega
                generalize (rowsE k s b (p.take (q.length - 1))).2 - (rowsE k s b (p.take (q.length - 1))).1 = z at *
                generalize wrongE k (p.take (q.length - 1)) = er at *
                clear hpl hz
                by_cases hone : 1 < q.length
                · have ho1 : (1 : Int) < (q.length : Int) := by omega
                  obtain ⟨he, hge⟩ := HGE.out hone
                  subst he
                  have hgi : ¬ (z : Int) < ((findS s q).length : Int) := by omega
                  have ho2 : ((q.length : Int) == 1) = false := by rw [beq_eq_false_iff_ne]; omega
                  clear HGE HONE hone
                  go_wp2_with fail
                  refine HHT.out.mono ?_
                  rintro e w8 ⟨rfl, hb8⟩
                  have HB8 : Hid (Below w2.heap.size w2 w8) := Lib.hid (HBW.out.trans (hb8.mono HBW.out.size))
                  clear hb8 c1
                  go_wp2_with (go_at_call 28; refine (num6 _ _).mono ?_; rintro e wq ⟨rfl, rfl⟩)
                  go_roundw
                  case rel => exact ⟨i + 1, by omega, by go_num, HB8⟩
                  case measure => simp [intOf]; omega
                · have hq11 : q.length = 1 := by omega
                  have ho1 : ¬ (1 : Int) < (q.length : Int) := by omega
                  have ho2 : ((q.length : Int) == 1) = true := by rw [beq_iff_eq]; omega
                  obtain rfl : er = 5 := HONE.out hq11
                  clear HGE HONE hone hq11
                  go_wp2_with fail
                  refine HHT.out.mono ?_
                  rintro e w8 ⟨rfl, hb8⟩
                  have HB8 : Hid (Below w2.heap.size w2 w8) := Lib.hid (HBW.out.trans (hb8.mono HBW.out.size))
                  clear hb8 c1
                  go_wp2_with (go_at_call 28; refine (num6 _ _).mono ?_; rintro e wq ⟨rfl, rfl⟩)
                  go_roundw
                  case rel => exact ⟨i + 1, by omega, by go_num, HB8⟩
                  case measure => simp [intOf]; omega
          · have hfe : findE k s p = [] := by unfold findE; rw [if_neg hw]
            have hwi : ((wrongE k p : Int) != 0) = true := by rw [bne_iff_ne]; omega
            rw [hfe]
            clear hfe hw HR6
            generalize wrongE k p = er at *
            go_wp2_with (go_at_call 28; refine (num6 _ _).mono ?_; rintro e wq ⟨rfl, rfl⟩)
            go_roundw
            case rel => exact ⟨i + 1, by omega, by go_num, HB6⟩
            case measure => simp [intOf]; omega
        · have h1i : ¬ (i : Int) < (P.length : Int) := by omega
          have HXF : Hid (Below W.heap.size W wr) := HX2.out.trans (HB.out.mono HX2.out.size)
          go_wp2_with fail
          refine (wakesF _).mono ?_
          rintro e w9 ⟨rfl, hb⟩
          go_wp2
          go_ret
          exact ⟨rfl, HXF.out.trans (hb.mono HXF.out.size)⟩
end Go.Proofs.Ytfiioobdknbacaa
