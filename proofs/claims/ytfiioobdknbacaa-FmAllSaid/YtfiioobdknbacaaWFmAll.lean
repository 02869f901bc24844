/- The walk of the law FmAll. -/
import Derived.Test.YtfiioobdknbacaaAskF
set_option linter.unusedVariables false
set_option linter.unusedSimpArgs false
namespace Lec.Fm
open Lec.Sa
theorem cast_nats (X : List Nat) : (X.map fun v : Nat => (v : Int)).map Int.toNat = X := by
  rw [List.map_map]; refine (List.map_congr_left (fun y _ => ?_)).trans (List.map_id _); rfl
theorem wrong_nats {k : Nat} {X : List Nat} (h : X ≠ []) (hX : ∀ z ∈ X, z < k) : wrongE k (X.map fun v : Nat => (v : Int)) = 0 := by
  unfold wrongE
  rw [if_neg (by rw [List.isEmpty_iff, List.map_eq_nil_iff]; exact h), if_pos ((patB_iff k _).2 (fun y hy => by
    obtain ⟨z, hz, rfl⟩ := List.mem_map.1 hy
    have := hX z hz
    omega))]
theorem find_nats {k : Nat} {s X : List Nat} (h : X ≠ []) (hX : ∀ z ∈ X, z < k) : findE k s (X.map fun v : Nat => (v : Int)) = findS s X := by
  unfold findE
  rw [if_pos (wrong_nats h hX), cast_nats]
theorem part_in {s : List Nat} {i n : Nat} (hi : i < s.length) : i ∈ findS s ((s.drop i).take n) := by
  unfold findS
  rw [List.mem_filter, List.mem_range]
  refine ⟨hi, ?_⟩
  unfold inP
  rw [List.isPrefixOf_iff_prefix]
  exact List.take_prefix _ _
theorem find_rise (s q : List Nat) : (findS s q).Pairwise (· < ·) := by
  unfold findS
  exact List.pairwise_lt_range.filter _
theorem find_len_le (s q : List Nat) : (findS s q).length ≤ s.length := by
  unfold findS
  have := List.length_filter_le (inP s q) (List.range s.length)
  rwa [List.length_range] at this
theorem find_whole {s : List Nat} (h : s ≠ []) : findS s s = [0] := by
  have hl : 0 < s.length := List.length_pos_iff.2 h
  refine List.Perm.eq_of_pairwise (le := (· < ·)) (fun a b _ _ h1 h2 => by omega) (find_rise s s) (by simp) ?_
  refine (List.perm_ext_iff_of_nodup (List.nodup_range.filter _) (by simp)).2 (fun v => ?_)
  rw [List.mem_filter, List.mem_range, List.mem_singleton]
  constructor
  · rintro ⟨hv, hin⟩
    unfold inP at hin
    rw [List.isPrefixOf_iff_prefix] at hin
    have := hin.length_le
    rw [List.length_drop] at this
    omega
  · rintro rfl
    refine ⟨hl, ?_⟩
    unfold inP
    rw [List.isPrefixOf_iff_prefix]
    simp
theorem span_diff2 (s b p : List Nat) : (spanS s b p).2 - (spanS s b p).1 = inB s b p := by
  have h := upp_eq s b p
  unfold spanS
  split
  · dsimp only; omega
  · dsimp only; omega
theorem hits_one {k : Nat} {s b : List Nat} (h : IsSA s b) {c : Nat} (hc : c < k) : ((rowsE k s b [(c : Int)]).2 - (rowsE k s b [(c : Int)]).1 = 0) ↔ c ∉ s := by
  have hw : wrongE k [(c : Int)] = 0 := wrong_nats (X := [c]) (by simp) (by simpa using hc)
  unfold rowsE
  rw [if_pos hw, show ([(c : Int)].map Int.toNat) = [c] from rfl, span_diff2]
  unfold inB
  rw [List.countP_eq_zero]
  constructor
  · intro hz hm
    obtain ⟨v, hv⟩ := List.mem_iff_getElem?.1 hm
    have hvl := (List.getElem?_eq_some_iff.1 hv).1
    refine hz v ((rowsL_mem h v).2 (Nat.le_of_lt hvl)) ((inP_iff s [c] v).2 (fun i hi => ?_))
    have : i = 0 := by simpa using hi
    subst this
    simpa using hv
  · intro hm v hv hin
    have := (inP_iff s [c] v).1 hin 0 (by simp)
    exact hm (List.mem_iff_getElem?.2 ⟨v, by simpa using this⟩)
end Lec.Fm
namespace Go.Proofs.Ytfiioobdknbacaa
open Go.RowKit Lec Lec.Fm
def InPost (X : List Nat) (v : Nat) (w : World) (e : Ending) (w' : World) : Prop := ∃ r : Int, e = .returned (.int .i64 r) ∧ (r < 0 ↔ v ∉ X) ∧ w = w'
theorem in_any (w : World) (A : Option Addr) (n c : Nat) (X : List Nat) (hn : n = X.length) (hm : n ≤ 1000000) (hr : Rds w A (natsC X)) (v : Nat) :
    Calls Try.prog 35 #[.slice A n c, .int .i64 (v : Int)] w (InPost X v w) := by
  subst hn
  have HR := Lib.hid hr
  clear hr
  go_enter Try.func35, Try.ntmps35
  go_wp2
  go_loop [5] (fun i => ∃ j : Nat, j ≤ X.length ∧ i = .int .i64 (j : Int) ∧ Hid (v ∉ X.take j)) (fun i => X.length - (intOf i).toNat)
  case atStart => exact ⟨0, by omega, rfl, Lib.hid (by simp)⟩
  case round =>
    obtain ⟨j, hj, rfl, HG⟩ := hrel
    by_cases h8 : j < X.length
    · have h8i : (j : Int) < (X.length : Int) := by omega
      obtain ⟨a, rfl, hca⟩ := HR.out j _ (natsC_at (List.getElem?_eq_getElem h8))
      have HT : Hid (X.take (j + 1) = X.take j ++ [X[j]]) := List.take_succ_eq_append_getElem h8
      have HM : Hid (X[j] ∈ X) := Lib.hid (List.getElem_mem h8)
      generalize X[j] = y at *
      by_cases hy : y = v
      · have hyb : ((y : Int) == (v : Int)) = true := by rw [beq_iff_eq]; omega
        have HV : Hid (v ∈ X) := Lib.hid (hy ▸ HM.out)
        clear hy
        go_wp2
        go_ret
        exact ⟨(j : Int), rfl, ⟨fun h => by omega, fun h => absurd HV.out h⟩, rfl⟩
      · have hyb : ((y : Int) == (v : Int)) = false := by rw [beq_eq_false_iff_ne]; omega
        have HN : Hid (v ∉ X.take (j + 1)) := Lib.hid fun h => by
          rw [HT.out, List.mem_append] at h
          rcases h with h | h
          · exact HG.out h
          · simp at h; exact hy h.symm
        clear hy
        go_wp2
        go_round
        case rel => exact ⟨j + 1, by omega, by go_num, HN⟩
        case measure => simp [intOf]; omega
    · obtain rfl : j = X.length := by omega
      have h8i : ¬ (X.length : Int) < (X.length : Int) := by omega
      have HN : Hid (v ∉ X) := Lib.hid (by have := HG.out; rwa [List.take_length] at this)
      go_wp2
      go_ret
      exact ⟨-1, rfl, ⟨fun _ => HN.out, fun _ => by omega⟩, rfl⟩
set_option maxRecDepth 100000 in
theorem rising_any (w : World) (A : Option Addr) (n c : Nat) (X : List Nat) (hn : n = X.length) (hm : n ≤ 1000000) (hr : Rds w A (natsC X)) (hX : X.Pairwise (· < ·)) :
    Calls Try.prog 36 #[.slice A n c] w fun e w' => e = .returned (.bool true) ∧ ∃ q, w' = w.drewN q := by
  subst hn
  have HR := Lib.hid hr
  have HXP : Hid (∀ i j (hi : i < X.length) (hj : j < X.length), i < j → X[i] < X[j]) := Lib.hid (List.pairwise_iff_getElem.1 hX)
  clear hr hX
  go_enter Try.func36, Try.ntmps36
  go_wp2
  go_loopw [3] (fun i wx => ∃ j q : Nat, 1 ≤ j ∧ j ≤ X.length + 1 ∧ i = .int .i64 (j : Int) ∧ wx = w.drewN q) (fun i _ => X.length + 1 - (intOf i).toNat)
  case atStart => exact ⟨1, 0, by omega, by omega, rfl, rfl⟩
  case round =>
    obtain ⟨j, q, hj1, hj, rfl, rfl⟩ := hrel
    by_cases h8 : j < X.length
    · have h8i : (j : Int) < (X.length : Int) := by omega
      have h9 : j - 1 < X.length := by omega
      have h9i : (j : Int) - 1 < (X.length : Int) := by omega
      have n0 : (0 : Int) ≤ (j : Int) := by omega
      have n1 : (0 : Int) ≤ (j : Int) - 1 := by omega
      have n2 : ((j : Int) - 1).toNat = j - 1 := by omega
      have n3 : IntKind.i64.wrap ((j : Int) - 1) = (j : Int) - 1 := wrapI (by omega)
      obtain ⟨a, rfl, ca⟩ := HR.out j _ (natsC_at (List.getElem?_eq_getElem h8))
      obtain ⟨a', e', cb⟩ := HR.out (j - 1) _ (natsC_at (List.getElem?_eq_getElem h9))
      obtain rfl := Option.some.inj e'
      have hlt := HXP.out (j - 1) j h9 h8 (by omega)
      generalize X[j] = y at *
      generalize X[j - 1] = z at *
      have hle : ¬ y ≤ z := by omega
      have hli : ¬ (y : Int) ≤ (z : Int) := by omega
      clear e' hlt
      go_wp2
      go_quiet (fail)
      go_wp2
      go_roundw
      case rel => exact ⟨j + 1, _, by omega, by omega, by go_num, by first | rfl | (rw [World.drewN_drewN])⟩
      case measure => first | (simp [intOf]; done) | (simp [intOf]; omega)
    · have h8i : ¬ (j : Int) < (X.length : Int) := by omega
      go_wp2
      go_ret
      exact ⟨rfl, q, rfl⟩

set_option maxRecDepth 100000 in
set_option maxHeartbeats 4000000 in
theorem FmAll_walk (W : World) (K : Int) (A B C : Option Addr) (c d e0 : Nat) (L : List Int) (P : List (List Int)) (Is : List Int) (hL : L.length ≤ 1152921504606846976) (hPl : ∀ p ∈ P, p.length ≤ 1152921504606846976) (hPn : P.length ≤ 1152921504606846976) (hcA : L.length ≤ c) (hnA : A = none → L.length = 0 ∧ c = 0)
    (hl : Rds W A (intsV L)) (hpt : Pats W B P) (hi : Rds W C (intsV Is)) (hwf : ∀ y ∈ Is, -9223372036854775808 ≤ y ∧ y ≤ 9223372036854775807) :
    Calls Try.prog 8 #[.agg #[.int .i64 K, .slice A L.length c, .slice B P.length d, .slice C Is.length e0]] W fun e w' => e = .returned (.bool true) ∧ Below W.heap.size W w' := by
  have HL := Lib.hid hl
  have HPT := Lib.hid hpt
  have HI := Lib.hid hi
  have HW := Lib.hid hwf
  have HV : Hid (∀ w', Below W.heap.size W w' → Calls Try.prog 21 #[.agg #[.int .i64 K, .slice A L.length c, .slice B P.length d, .slice C Is.length e0]] w' (HeavyF w' L P Is)) := Lib.hid fun w' h => heavyF_any w' K A B C c d e0 L P Is hL hPl hPn (hpt.ext h (Nat.le_refl _))
  clear hl hi hwf hpt hL hPl hPn
  go_enter Try.func8, Try.ntmps8
  go_wp2_with fail
  obtain ⟨w0, hw0⟩ : ∃ w0, w0 = W.alloc (.cells #[.int .i64 K, .slice A L.length c, .slice B P.length d, .slice C Is.length e0] 48) := ⟨_, rfl⟩
  rw [← hw0]
  have HX0 : Hid (Below W.heap.size W w0) := by rw [hw0]; exact (Below.refl _ _).alloc (Nat.le_refl _) _
  have HC0 : Hid (w0.cell? ⟨W.heap.size, 0, none⟩ = some (.int .i64 K)) := by rw [hw0]; show _ = _; rw [cell_of_row _ _ _ _ _ _ (heap_alloc_new _ _)]; rfl
  have HC1 : Hid (w0.cell? ⟨W.heap.size, 1, none⟩ = some (.slice A L.length c)) := by rw [hw0]; show _ = _; rw [cell_of_row _ _ _ _ _ _ (heap_alloc_new _ _)]; rfl
  have HC2 : Hid (w0.cell? ⟨W.heap.size, 2, none⟩ = some (.slice B P.length d)) := by rw [hw0]; show _ = _; rw [cell_of_row _ _ _ _ _ _ (heap_alloc_new _ _)]; rfl
  have HC3 : Hid (w0.cell? ⟨W.heap.size, 3, none⟩ = some (.slice C Is.length e0)) := by rw [hw0]; show _ = _; rw [cell_of_row _ _ _ _ _ _ (heap_alloc_new _ _)]; rfl
  clear hw0
  refine (HV.out w0 HX0.out).mono ?_
  rintro e w1 ⟨u, rfl, hlight, hb⟩
  have HLI := Lib.hid hlight
  have HX1 : Hid (Below W.heap.size W w1) := HX0.out.trans (hb.mono HX0.out.size)
  have HC01 := Lib.hid (cell_ext hb (Nat.le_refl _) HC0.out)
  have HC11 := Lib.hid (cell_ext hb (Nat.le_refl _) HC1.out)
  have HC21 := Lib.hid (cell_ext hb (Nat.le_refl _) HC2.out)
  have HC31 := Lib.hid (cell_ext hb (Nat.le_refl _) HC3.out)
  clear hb hlight HC0 HC1 HC2 HC3 HX0 HV
  have k0 := HC01.out
  have k1 := HC11.out
  have k2 := HC21.out
  have k3 := HC31.out
  cases u with
  | true =>
    go_wp2
    go_ret
    exact ⟨rfl, HX1.out⟩
  | false =>
    obtain ⟨hl4, hp4, hpn, hin⟩ := HLI.out rfl
    clear HLI
    by_cases h60 : 60 < L.length
    · have h60i : (60 : Int) < (L.length : Int) := by omega
      go_wp2
      go_ret
      exact ⟨rfl, HX1.out⟩
    have h60i : ¬ (60 : Int) < (L.length : Int) := by omega
    go_wp2_with fail
    clear k0 k1 k2 k3
    refine (Build_any w1 A c K L (by omega) (HL.out.ext HX1.out (Nat.le_refl _)) hnA).mono ?_
    rintro e w2 ⟨hb, hpost⟩
    have HX2 : Hid (Below W.heap.size W w2) := HX1.out.trans (hb.mono HX1.out.size)
    have HK0 := Lib.hid (cell_ext hb (Nat.le_refl _) HC01.out)
    have HK1 := Lib.hid (cell_ext hb (Nat.le_refl _) HC11.out)
    have HK2 := Lib.hid (cell_ext hb (Nat.le_refl _) HC21.out)
    have HK3 := Lib.hid (cell_ext hb (Nat.le_refl _) HC31.out)
    replace HL := Lib.hid (HL.out.ext HX2.out (Nat.le_refl _))
    replace HPT := Lib.hid (HPT.out.ext HX2.out (Nat.le_refl _))
    replace HI := Lib.hid (HI.out.ext HX2.out (Nat.le_refl _))
    clear hb HX1 HC01 HC11 HC21 HC31
    obtain ⟨lo, hlo⟩ : ∃ lo, lo = w1.heap.size := ⟨_, rfl⟩
    rcases hpost with ⟨hno, rfl⟩ | ⟨hok, x, D, b, rfl, hfc, hfm⟩
    · clear hno
      have HXF := HX2
      go_wp2_with (go_at_call 28; refine (num6 _ _).mono ?_; rintro e wq ⟨rfl, rfl⟩)
      refine (wakesF _).mono ?_
      rintro e w9 ⟨rfl, hb⟩
      go_wp2
      go_ret
      exact ⟨rfl, HXF.out.trans (hb.mono HXF.out.size)⟩
    · have hnats := okTree_nats hok
      obtain ⟨k, rfl⟩ : ∃ k : Nat, K = (k : Int) := ⟨K.toNat, by have := hok.1; omega⟩
      obtain ⟨s, hM⟩ : ∃ s, s = L.map Int.toNat := ⟨_, rfl⟩
      rw [← hlo] at hfm
      rw [← hM] at hfc hfm hnats
      have hml : s.length = L.length := by rw [hM, List.length_map]
      rw [Int.toNat_natCast] at hfc hfm
      have HSL := Lib.hid hml
      have HNA := Lib.hid hnats
      have HFC := Lib.hid hfc
      have HFM : Hid (∀ w', Below w2.heap.size w2 w' → FmN w' x k D s b lo) := Lib.hid fun w' h => hfm.ext h (Nat.le_refl _)
      have HLS : Hid (∀ w', Below w2.heap.size w2 w' → Rds w' A (natsC s)) := Lib.hid fun w' h => by rw [HNA.out]; exact HL.out.ext h (Nat.le_refl _)
      have HPE : Hid (∀ i (h : i < P.length), ∃ a PA pc, B = some a ∧ P[i].length ≤ pc ∧ (PA = none → P[i].length = 0 ∧ pc = 0) ∧ ∀ w', Below w2.heap.size w2 w' → w'.cell? (a.add i) = some (.slice PA P[i].length pc) ∧ Rds w' PA (intsV P[i])) := Lib.hid fun i h => by
        obtain ⟨a, PA, pc, e, h1, h2, h3, h4⟩ := HPT.out i h
        exact ⟨a, PA, pc, e, h2, h3, fun w' hb => ⟨cell_ext hb (Nat.le_refl _) h1, h4.ext hb (Nat.le_refl _)⟩⟩
      have hsl4 : s.length ≤ 400 := by rw [HSL.out]; exact hl4
      have hk5 := hfc.k5
      have hk1 : 1 ≤ k := by have := hok.1; omega
      clear hM hml hnats hfc hfm hok HPT hlo
      rw [← HSL.out] at HK1
      go_wp2_with (go_at_call 28; refine (num6 _ _).mono ?_; rintro e wq ⟨rfl, rfl⟩)
      have hs60 : s.length ≤ 60 := by rw [HSL.out]; omega
      clear h60 h60i
      go_loopw [5] (fun i wr => ∃ n : Nat, n ≤ 200 ∧ i = .int .i64 (n : Int) ∧ Hid (Below w2.heap.size w2 wr)) (fun i _ => 200 - (intOf i).toNat)
      case atStart => exact ⟨0, by omega, rfl, Lib.hid (Below.refl _ _)⟩
      case round =>
        obtain ⟨i, hi, rfl, HB⟩ := hrel
        have c1 := cell_ext HB.out (Nat.le_refl _) HK1.out
        by_cases h1 : i < s.length
        · have h1i : (i : Int) < (s.length : Int) := by omega
          go_wp2
          clear c1
          go_loopw [6] (fun i wr => ∃ n : Nat, 1 ≤ n ∧ n ≤ 200 ∧ i = .int .i64 (n : Int) ∧ Hid (Below w2.heap.size w2 wr)) (fun i _ => 200 - (intOf i).toNat)
          case atStart => exact ⟨1, by omega, by omega, rfl, HB⟩
          case round =>
            clear HB
            obtain ⟨n, hn1, hn, rfl, HB⟩ := hrel
            have c1 := cell_ext HB.out (Nat.le_refl _) HK1.out
            by_cases h2 : n ≤ s.length - i
            · have h2i : (n : Int) ≤ (s.length : Int) - (i : Int) := by omega
              have hic : i < c := by have := HSL.out; omega
              have q1 : ¬ c - i = 0 := by omega
              have q2 : ¬ c = i := by omega
              have f4 : (i : Int) ≤ (i : Int) + (n : Int) := by omega
              have f5 : (i : Int) + (n : Int) ≤ (c : Int) := by have := HSL.out; omega
              obtain ⟨X, hX⟩ : ∃ X, X = (s.drop i).take n := ⟨_, rfl⟩
              have hXl : X.length = n := by rw [hX, List.length_take, List.length_drop]; omega
              have hXn : X ≠ [] := fun e => by rw [e] at hXl; simp at hXl; omega
              have hXk : ∀ z ∈ X, z < k := fun z hz => HFC.out.sym z (by rw [hX] at hz; exact List.mem_of_mem_drop (List.mem_of_mem_take hz))
              have HFD : Hid (Calls Try.prog 27 #[.pointer (some ⟨x, 0, none⟩), .slice (Option.map (fun x => x.add i) A) n (c - i)] wr fun e w' => ∃ v, e = .returned (.tuple #[v, .int .i64 0]) ∧ w'.ownsRow wr.heap.size 3 1 v (findS s X).length (natsC (findS s X)) ∧ Below wr.heap.size wr w') := Lib.hid (by
                have hr := Rds.drop1 (c := c) (k := i) (HLS.out _ HB.out) (by simp [natsC]; omega) (by simp [natsC]; have := HSL.out; omega)
                rw [if_neg q2] at hr
                have hr2 := hr.take n
                have hdt : ((natsC s).drop i).take n = natsC X := by rw [hX]; unfold natsC; rw [List.map_take, List.map_drop]
                rw [hdt] at hr2
                have h := Find_any HFC.out (HFM.out _ HB.out) (Option.map (fun x => x.add i) A) (c - i) (X.map fun v : Nat => (v : Int)) (by rw [List.length_map, hXl]; omega) (by rw [← natsC_ints]; exact hr2)
                unfold FindPost at h
                rw [List.length_map, hXl, wrong_nats hXn hXk, find_nats hXn hXk] at h
                exact h)
              have hmem : i ∈ findS s X := by rw [hX]; exact part_in h1
              have hrise := find_rise s X
              have hfl := find_len_le s X
              have HME := Lib.hid hmem
              have HRI := Lib.hid hrise
              clear hX hXl hXn hXk hmem hrise
              go_wp2_with fail
              refine HFD.out.mono ?_
              rintro e w6 ⟨lv, rfl, hown6, hb6⟩
              have HB6 : Hid (Below w2.heap.size w2 w6) := Lib.hid (HB.out.trans (hb6.mono HB.out.size))
              obtain ⟨A6, c6, rfl, _, _, _, r6, _⟩ := own_rds hown6
              have HIN : Hid (Calls Try.prog 35 #[.slice A6 (findS s X).length c6, .int .i64 (i : Int)] w6 fun e w' => ∃ r : Int, e = .returned (.int .i64 r) ∧ 0 ≤ r ∧ w6 = w') := Lib.hid ((in_any w6 A6 _ c6 _ rfl (by omega) r6 i).mono (by
                rintro e w' ⟨r, he, hr, hw⟩
                exact ⟨r, he, by have : ¬ r < 0 := fun h => hr.1 h HME.out; omega, hw⟩))
              have HRS := Lib.hid (rising_any w6 A6 _ c6 _ rfl (by omega) r6 HRI.out)
              generalize (findS s X).length = m at *
              clear hown6 hb6 r6 c1 HFD
              go_wp2_with (first
                | (go_at_call 28; refine (num6 _ _).mono ?_; rintro e wq ⟨rfl, rfl⟩)
                | (go_at_call 35; (with_reducible refine HIN.out.mono ?_); rintro e wq ⟨r, rfl, hr0, rfl⟩)
                | (go_at_call 36; (with_reducible refine HRS.out.mono ?_); rintro e wq ⟨rfl, q9, rfl⟩))
              go_roundw
              case rel => exact ⟨n + 1 + n / 2, by omega, by omega, by go_num, Lib.hid (HB6.out.trans ((drawn_below w6 q9).mono HB6.out.size))⟩
              case measure => simp [intOf]; omega
            · have h2i : ¬ (n : Int) ≤ (s.length : Int) - (i : Int) := by omega
              go_wp2
              go_roundw
              case rel => exact ⟨i + 1 + s.length / 10, by omega, by go_num, HB⟩
              case measure => simp [intOf]; omega
        · have h1i : ¬ (i : Int) < (s.length : Int) := by omega
          clear hi
          by_cases h5 : 0 < s.length
          · have h5i : (0 : Int) < (s.length : Int) := by omega
            have hsn : s ≠ [] := fun e => by rw [e] at h5; simp at h5
            have HFD : Hid (Calls Try.prog 27 #[.pointer (some ⟨x, 0, none⟩), .slice A s.length c] wr fun e w' => ∃ v, e = .returned (.tuple #[v, .int .i64 0]) ∧ w'.ownsRow wr.heap.size 3 1 v 1 (natsC [0]) ∧ Below wr.heap.size wr w') := Lib.hid (by
              have h := Find_any HFC.out (HFM.out _ HB.out) A c (s.map fun v : Nat => (v : Int)) (by rw [List.length_map]; omega) (by rw [← natsC_ints]; exact HLS.out _ HB.out)
              unfold FindPost at h
              rw [List.length_map, wrong_nats hsn HFC.out.sym, find_nats hsn HFC.out.sym, find_whole hsn] at h
              exact h)
            clear hsn
            go_wp2_with fail
            refine HFD.out.mono ?_
            rintro e w6 ⟨lv, rfl, hown6, hb6⟩
            have HB6 : Hid (Below w2.heap.size w2 w6) := Lib.hid (HB.out.trans (hb6.mono HB.out.size))
            obtain ⟨A6, c6, rfl, _, _, _, r6, _⟩ := own_rds hown6
            have HB7 : Hid (Below w6.heap.size w6 (w6.alloc (.cells #[.int .i64 0] 3))) := (Below.refl _ _).alloc (Nat.le_refl _) _
            have HE := Lib.hid (EqNumbers_any (w6.alloc (.cells #[.int .i64 0] 3)) A6 1 c6 [0] rfl (r6.ext HB7.out (Nat.le_refl _)) (some ⟨w6.heap.size, 0, none⟩) 1 1 [0] rfl (show Rds _ _ (intsV [0]) from rds_litM _ _ _) (by decide))
            rw [decide_eq_true rfl] at HE
            have HBZ : Hid (∀ q, Below w2.heap.size w2 ((w6.alloc (.cells #[.int .i64 0] 3)).drewN q)) := Lib.hid fun q => (HB6.out.trans (HB7.out.mono HB6.out.size)).trans ((drawn_below _ q).mono (HB6.out.trans (HB7.out.mono HB6.out.size)).size)
            clear hown6 hb6 r6 c1 HFD HB7
            go_wp2_with (first
              | (go_at_call 28; refine (num6 _ _).mono ?_; rintro e wq ⟨rfl, rfl⟩)
              | (go_at_call 29; (with_reducible refine HE.out.mono ?_); rintro e wq ⟨rfl, q9, rfl⟩))
            have HBC : Hid (Below w2.heap.size w2 ((w6.alloc (.cells #[.int .i64 0] 3)).drewN q9)) := Lib.hid (HBZ.out q9)
            clear HE HBZ HB6
            go_loopw [11] (fun i wr => ∃ n : Nat, n ≤ 20 ∧ i = .int .i64 (n : Int) ∧ Hid (Below w2.heap.size w2 wr)) (fun i _ => 20 - (intOf i).toNat)
            case atStart => exact ⟨0, by omega, rfl, HBC⟩
            case round =>
              clear HBC
              obtain ⟨i, hi, rfl, HB⟩ := hrel
              have c0 := cell_ext HB.out (Nat.le_refl _) HK0.out
              by_cases h3 : i < k ∧ i < 20
              · obtain ⟨h3, h4⟩ := h3
                have h3i : (i : Int) < (k : Int) := by omega
                have h4i : (i : Int) < 20 := by omega
                obtain ⟨w5, hw5⟩ : ∃ w5, w5 = wr.alloc (.cells #[.int .i64 (i : Int)] 3) := ⟨_, rfl⟩
                have HB5 : Hid (Below w2.heap.size w2 w5) := Lib.hid (by rw [hw5]; exact Below.allocA HB.out (Nat.le_refl _) _)
                have HHT : Hid (Calls Try.prog 33 #[.pointer (some ⟨x, 0, none⟩), .slice (some ⟨wr.heap.size, 0, none⟩) 1 1] w5 _) := Lib.hid (Hits_any HFC.out (HFM.out _ HB5.out) (some ⟨wr.heap.size, 0, none⟩) 1 [(i : Int)] (by simp) (by rw [hw5]; exact (show Rds _ _ (intsV [(i : Int)]) from rds_litM _ _ _)))
                rw [show wrongE k [(i : Int)] = 0 from wrong_nats (X := [i]) (by simp) (by simpa using h3)] at HHT
                have hzl : (rowsE k s b [(i : Int)]).2 - (rowsE k s b [(i : Int)]).1 ≤ 100 := by have := rowsE_le (k := k) (p := [(i : Int)]) HFC.out.sa; omega
                have HZ := Lib.hid (hits_one HFC.out.sa h3)
                generalize (rowsE k s b [(i : Int)]).2 - (rowsE k s b [(i : Int)]).1 = z at *
                have HW5 := Lib.hid hw5
                clear hw5
                go_upto_region 22 with (fail)
                clear c0
                go_wp2_with (go_at_call 33; rw [← HW5.out]; refine HHT.out.mono ?_; rintro e w6 ⟨rfl, hb6⟩; have HB6 : Hid (Below w2.heap.size w2 w6) := Lib.hid (HB5.out.trans (hb6.mono HB5.out.size)); clear hb6; have c1 := cell_ext HB6.out (Nat.le_refl _) HK1.out)
                have HIN := Lib.hid (in_any w6 A s.length c s rfl (by omega) (HLS.out _ HB6.out) i)
                by_cases hm : i ∈ s
                · have hz0 : ((z : Int) == 0) = false := by
                    rw [beq_eq_false_iff_ne]; intro e
                    exact (HZ.out.1 (by omega)) hm
                  have HI2 : Hid (Calls Try.prog 35 #[.slice A s.length c, .int .i64 (i : Int)] w6 fun e w' => ∃ r : Int, e = .returned (.int .i64 r) ∧ 0 ≤ r ∧ w6 = w') := Lib.hid (HIN.out.mono (by
                    rintro e w' ⟨r, he, hr, hw⟩
                    exact ⟨r, he, by have : ¬ r < 0 := fun h => hr.1 h hm; omega, hw⟩))
                  clear hm HZ HIN
                  go_wp2_with (first
                    | (go_at_call 28; refine (num6 _ _).mono ?_; rintro e wq ⟨rfl, rfl⟩)
                    | (go_at_call 35; (with_reducible refine HI2.out.mono ?_); rintro e wq ⟨r, rfl, hr0, rfl⟩; have hr1 : ¬ r < 0 := by omega))
                  go_roundw
                  case rel => exact ⟨i + 1, by omega, by go_num, HB6⟩
                  case measure => simp [intOf]; omega
                · have hz0 : z = 0 := HZ.out.2 hm
                  subst hz0
                  have HI2 : Hid (Calls Try.prog 35 #[.slice A s.length c, .int .i64 (i : Int)] w6 fun e w' => ∃ r : Int, e = .returned (.int .i64 r) ∧ r < 0 ∧ w6 = w') := Lib.hid (HIN.out.mono (by
                    rintro e w' ⟨r, he, hr, hw⟩
                    exact ⟨r, he, hr.2 hm, hw⟩))
                  clear hm HZ HIN
                  go_wp2_with (first
                    | (go_at_call 28; refine (num6 _ _).mono ?_; rintro e wq ⟨rfl, rfl⟩)
                    | (go_at_call 35; (with_reducible refine HI2.out.mono ?_); rintro e wq ⟨r, rfl, hr0, rfl⟩))
                  go_roundw
                  case rel => exact ⟨i + 1, by omega, by go_num, HB6⟩
                  case measure => simp [intOf]; omega
              · have HFD : Hid (Calls Try.prog 27 #[.pointer (some ⟨x, 0, none⟩), .slice none 0 0] wr (FindPost wr k s [])) := Lib.hid (Find_any HFC.out (HFM.out _ HB.out) none 0 [] (by simp) (Rds.nil _ _))
                by_cases h4 : i < k
                · have h4i : (i : Int) < (k : Int) := by omega
                  have h5i : ¬ (i : Int) < 20 := by omega
                  go_wp2_with fail
                  refine HFD.out.mono ?_
                  rintro e w6 ⟨lv, rfl, hown6, hb6⟩
                  have HB6 : Hid (Below w2.heap.size w2 w6) := Lib.hid (HB.out.trans (hb6.mono HB.out.size))
                  clear hb6 hown6 c0
                  rw [show wrongE k ([] : List Int) = 5 from rfl]
                  have c0 := cell_ext HB6.out (Nat.le_refl _) HK0.out
                  obtain ⟨w7, hw7⟩ : ∃ w7, w7 = w6.alloc (.cells #[.int .i64 (k : Int)] 3) := ⟨_, rfl⟩
                  have HB7 : Hid (Below w2.heap.size w2 w7) := Lib.hid (by rw [hw7]; exact Below.allocA HB6.out (Nat.le_refl _) _)
                  have HHT : Hid (Calls Try.prog 33 #[.pointer (some ⟨x, 0, none⟩), .slice (some ⟨w6.heap.size, 0, none⟩) 1 1] w7 _) := Lib.hid (Hits_any HFC.out (HFM.out _ HB7.out) (some ⟨w6.heap.size, 0, none⟩) 1 [(k : Int)] (by simp) (by rw [hw7]; exact (show Rds _ _ (intsV [(k : Int)]) from rds_litM _ _ _)))
                  rw [show wrongE k [(k : Int)] = 1 by unfold wrongE patB; simp] at HHT
                  generalize (rowsE k s b [(k : Int)]).2 - (rowsE k s b [(k : Int)]).1 = z at *
                  have HW7 := Lib.hid hw7
                  clear hw7
                  go_wp2_with (go_at_call 33; rw [← HW7.out]; refine HHT.out.mono ?_; rintro e w8 ⟨rfl, hb8⟩; have HB8 : Hid (Below w2.heap.size w2 w8) := Lib.hid (HB7.out.trans (hb8.mono HB7.out.size)); clear hb8)
                  have HXF : Hid (Below W.heap.size W w8) := HX2.out.trans (HB8.out.mono HX2.out.size)
                  go_wp2_with (go_at_call 28; refine (num6 _ _).mono ?_; rintro e wq ⟨rfl, rfl⟩)
                  refine (wakesF _).mono ?_
                  rintro e w9 ⟨rfl, hb⟩
                  go_wp2
                  go_ret
                  exact ⟨rfl, HXF.out.trans (hb.mono HXF.out.size)⟩
                · have h4i : ¬ (i : Int) < (k : Int) := by omega
                  go_wp2_with fail
                  refine HFD.out.mono ?_
                  rintro e w6 ⟨lv, rfl, hown6, hb6⟩
                  have HB6 : Hid (Below w2.heap.size w2 w6) := Lib.hid (HB.out.trans (hb6.mono HB.out.size))
                  clear hb6 hown6 c0
                  rw [show wrongE k ([] : List Int) = 5 from rfl]
                  have c0 := cell_ext HB6.out (Nat.le_refl _) HK0.out
                  obtain ⟨w7, hw7⟩ : ∃ w7, w7 = w6.alloc (.cells #[.int .i64 (k : Int)] 3) := ⟨_, rfl⟩
                  have HB7 : Hid (Below w2.heap.size w2 w7) := Lib.hid (by rw [hw7]; exact Below.allocA HB6.out (Nat.le_refl _) _)
                  have HHT : Hid (Calls Try.prog 33 #[.pointer (some ⟨x, 0, none⟩), .slice (some ⟨w6.heap.size, 0, none⟩) 1 1] w7 _) := Lib.hid (Hits_any HFC.out (HFM.out _ HB7.out) (some ⟨w6.heap.size, 0, none⟩) 1 [(k : Int)] (by simp) (by rw [hw7]; exact (show Rds _ _ (intsV [(k : Int)]) from rds_litM _ _ _)))
                  rw [show wrongE k [(k : Int)] = 1 by unfold wrongE patB; simp] at HHT
                  generalize (rowsE k s b [(k : Int)]).2 - (rowsE k s b [(k : Int)]).1 = z at *
                  have HW7 := Lib.hid hw7
                  clear hw7
                  go_wp2_with (go_at_call 33; rw [← HW7.out]; refine HHT.out.mono ?_; rintro e w8 ⟨rfl, hb8⟩; have HB8 : Hid (Below w2.heap.size w2 w8) := Lib.hid (HB7.out.trans (hb8.mono HB7.out.size)); clear hb8)
                  have HXF : Hid (Below W.heap.size W w8) := HX2.out.trans (HB8.out.mono HX2.out.size)
                  go_wp2_with (go_at_call 28; refine (num6 _ _).mono ?_; rintro e wq ⟨rfl, rfl⟩)
                  refine (wakesF _).mono ?_
                  rintro e w9 ⟨rfl, hb⟩
                  go_wp2
                  go_ret
                  exact ⟨rfl, HXF.out.trans (hb.mono HXF.out.size)⟩
          · have h5i : ¬ (0 : Int) < (s.length : Int) := by omega
            have HBC := HB
            clear HB
            go_wp2
            go_loopw [11] (fun i wr => ∃ n : Nat, n ≤ 20 ∧ i = .int .i64 (n : Int) ∧ Hid (Below w2.heap.size w2 wr)) (fun i _ => 20 - (intOf i).toNat)
            case atStart => exact ⟨0, by omega, rfl, HBC⟩
            case round =>
              clear HBC
              obtain ⟨i, hi, rfl, HB⟩ := hrel
              have c0 := cell_ext HB.out (Nat.le_refl _) HK0.out
              by_cases h3 : i < k ∧ i < 20
              · obtain ⟨h3, h4⟩ := h3
                have h3i : (i : Int) < (k : Int) := by omega
                have h4i : (i : Int) < 20 := by omega
                obtain ⟨w5, hw5⟩ : ∃ w5, w5 = wr.alloc (.cells #[.int .i64 (i : Int)] 3) := ⟨_, rfl⟩
                have HB5 : Hid (Below w2.heap.size w2 w5) := Lib.hid (by rw [hw5]; exact Below.allocA HB.out (Nat.le_refl _) _)
                have HHT : Hid (Calls Try.prog 33 #[.pointer (some ⟨x, 0, none⟩), .slice (some ⟨wr.heap.size, 0, none⟩) 1 1] w5 _) := Lib.hid (Hits_any HFC.out (HFM.out _ HB5.out) (some ⟨wr.heap.size, 0, none⟩) 1 [(i : Int)] (by simp) (by rw [hw5]; exact (show Rds _ _ (intsV [(i : Int)]) from rds_litM _ _ _)))
                rw [show wrongE k [(i : Int)] = 0 from wrong_nats (X := [i]) (by simp) (by simpa using h3)] at HHT
                have hzl : (rowsE k s b [(i : Int)]).2 - (rowsE k s b [(i : Int)]).1 ≤ 100 := by have := rowsE_le (k := k) (p := [(i : Int)]) HFC.out.sa; omega
                have HZ := Lib.hid (hits_one HFC.out.sa h3)
                generalize (rowsE k s b [(i : Int)]).2 - (rowsE k s b [(i : Int)]).1 = z at *
                have HW5 := Lib.hid hw5
                clear hw5
                go_upto_region 22 with (fail)
                clear c0
                go_wp2_with (go_at_call 33; rw [← HW5.out]; refine HHT.out.mono ?_; rintro e w6 ⟨rfl, hb6⟩; have HB6 : Hid (Below w2.heap.size w2 w6) := Lib.hid (HB5.out.trans (hb6.mono HB5.out.size)); clear hb6; have c1 := cell_ext HB6.out (Nat.le_refl _) HK1.out)
                have HIN := Lib.hid (in_any w6 A s.length c s rfl (by omega) (HLS.out _ HB6.out) i)
                by_cases hm : i ∈ s
                · have hz0 : ((z : Int) == 0) = false := by
                    rw [beq_eq_false_iff_ne]; intro e
                    exact (HZ.out.1 (by omega)) hm
                  have HI2 : Hid (Calls Try.prog 35 #[.slice A s.length c, .int .i64 (i : Int)] w6 fun e w' => ∃ r : Int, e = .returned (.int .i64 r) ∧ 0 ≤ r ∧ w6 = w') := Lib.hid (HIN.out.mono (by
                    rintro e w' ⟨r, he, hr, hw⟩
                    exact ⟨r, he, by have : ¬ r < 0 := fun h => hr.1 h hm; omega, hw⟩))
                  clear hm HZ HIN
                  go_wp2_with (first
                    | (go_at_call 28; refine (num6 _ _).mono ?_; rintro e wq ⟨rfl, rfl⟩)
                    | (go_at_call 35; (with_reducible refine HI2.out.mono ?_); rintro e wq ⟨r, rfl, hr0, rfl⟩; have hr1 : ¬ r < 0 := by omega))
                  go_roundw
                  case rel => exact ⟨i + 1, by omega, by go_num, HB6⟩
                  case measure => simp [intOf]; omega
                · have hz0 : z = 0 := HZ.out.2 hm
                  subst hz0
                  have HI2 : Hid (Calls Try.prog 35 #[.slice A s.length c, .int .i64 (i : Int)] w6 fun e w' => ∃ r : Int, e = .returned (.int .i64 r) ∧ r < 0 ∧ w6 = w') := Lib.hid (HIN.out.mono (by
                    rintro e w' ⟨r, he, hr, hw⟩
                    exact ⟨r, he, hr.2 hm, hw⟩))
                  clear hm HZ HIN
                  go_wp2_with (first
                    | (go_at_call 28; refine (num6 _ _).mono ?_; rintro e wq ⟨rfl, rfl⟩)
                    | (go_at_call 35; (with_reducible refine HI2.out.mono ?_); rintro e wq ⟨r, rfl, hr0, rfl⟩))
                  go_roundw
                  case rel => exact ⟨i + 1, by omega, by go_num, HB6⟩
                  case measure => simp [intOf]; omega
              · have HFD : Hid (Calls Try.prog 27 #[.pointer (some ⟨x, 0, none⟩), .slice none 0 0] wr (FindPost wr k s [])) := Lib.hid (Find_any HFC.out (HFM.out _ HB.out) none 0 [] (by simp) (Rds.nil _ _))
                by_cases h4 : i < k
                · have h4i : (i : Int) < (k : Int) := by omega
                  have h5i : ¬ (i : Int) < 20 := by omega
                  go_wp2_with fail
                  refine HFD.out.mono ?_
                  rintro e w6 ⟨lv, rfl, hown6, hb6⟩
                  have HB6 : Hid (Below w2.heap.size w2 w6) := Lib.hid (HB.out.trans (hb6.mono HB.out.size))
                  clear hb6 hown6 c0
                  rw [show wrongE k ([] : List Int) = 5 from rfl]
                  have c0 := cell_ext HB6.out (Nat.le_refl _) HK0.out
                  obtain ⟨w7, hw7⟩ : ∃ w7, w7 = w6.alloc (.cells #[.int .i64 (k : Int)] 3) := ⟨_, rfl⟩
                  have HB7 : Hid (Below w2.heap.size w2 w7) := Lib.hid (by rw [hw7]; exact Below.allocA HB6.out (Nat.le_refl _) _)
                  have HHT : Hid (Calls Try.prog 33 #[.pointer (some ⟨x, 0, none⟩), .slice (some ⟨w6.heap.size, 0, none⟩) 1 1] w7 _) := Lib.hid (Hits_any HFC.out (HFM.out _ HB7.out) (some ⟨w6.heap.size, 0, none⟩) 1 [(k : Int)] (by simp) (by rw [hw7]; exact (show Rds _ _ (intsV [(k : Int)]) from rds_litM _ _ _)))
                  rw [show wrongE k [(k : Int)] = 1 by unfold wrongE patB; simp] at HHT
                  generalize (rowsE k s b [(k : Int)]).2 - (rowsE k s b [(k : Int)]).1 = z at *
                  have HW7 := Lib.hid hw7
                  clear hw7
                  go_wp2_with (go_at_call 33; rw [← HW7.out]; refine HHT.out.mono ?_; rintro e w8 ⟨rfl, hb8⟩; have HB8 : Hid (Below w2.heap.size w2 w8) := Lib.hid (HB7.out.trans (hb8.mono HB7.out.size)); clear hb8)
                  have HXF : Hid (Below W.heap.size W w8) := HX2.out.trans (HB8.out.mono HX2.out.size)
                  go_wp2_with (go_at_call 28; refine (num6 _ _).mono ?_; rintro e wq ⟨rfl, rfl⟩)
                  refine (wakesF _).mono ?_
                  rintro e w9 ⟨rfl, hb⟩
                  go_wp2
                  go_ret
                  exact ⟨rfl, HXF.out.trans (hb.mono HXF.out.size)⟩
                · have h4i : ¬ (i : Int) < (k : Int) := by omega
                  go_wp2_with fail
                  refine HFD.out.mono ?_
                  rintro e w6 ⟨lv, rfl, hown6, hb6⟩
                  have HB6 : Hid (Below w2.heap.size w2 w6) := Lib.hid (HB.out.trans (hb6.mono HB.out.size))
                  clear hb6 hown6 c0
                  rw [show wrongE k ([] : List Int) = 5 from rfl]
                  have c0 := cell_ext HB6.out (Nat.le_refl _) HK0.out
                  obtain ⟨w7, hw7⟩ : ∃ w7, w7 = w6.alloc (.cells #[.int .i64 (k : Int)] 3) := ⟨_, rfl⟩
                  have HB7 : Hid (Below w2.heap.size w2 w7) := Lib.hid (by rw [hw7]; exact Below.allocA HB6.out (Nat.le_refl _) _)
                  have HHT : Hid (Calls Try.prog 33 #[.pointer (some ⟨x, 0, none⟩), .slice (some ⟨w6.heap.size, 0, none⟩) 1 1] w7 _) := Lib.hid (Hits_any HFC.out (HFM.out _ HB7.out) (some ⟨w6.heap.size, 0, none⟩) 1 [(k : Int)] (by simp) (by rw [hw7]; exact (show Rds _ _ (intsV [(k : Int)]) from rds_litM _ _ _)))
                  rw [show wrongE k [(k : Int)] = 1 by unfold wrongE patB; simp] at HHT
                  generalize (rowsE k s b [(k : Int)]).2 - (rowsE k s b [(k : Int)]).1 = z at *
                  have HW7 := Lib.hid hw7
                  clear hw7
                  go_wp2_with (go_at_call 33; rw [← HW7.out]; refine HHT.out.mono ?_; rintro e w8 ⟨rfl, hb8⟩; have HB8 : Hid (Below w2.heap.size w2 w8) := Lib.hid (HB7.out.trans (hb8.mono HB7.out.size)); clear hb8)
                  have HXF : Hid (Below W.heap.size W w8) := HX2.out.trans (HB8.out.mono HX2.out.size)
                  go_wp2_with (go_at_call 28; refine (num6 _ _).mono ?_; rintro e wq ⟨rfl, rfl⟩)
                  refine (wakesF _).mono ?_
                  rintro e w9 ⟨rfl, hb⟩
                  go_wp2
                  go_ret
                  exact ⟨rfl, HXF.out.trans (hb.mono HXF.out.size)⟩
end Go.Proofs.Ytfiioobdknbacaa
