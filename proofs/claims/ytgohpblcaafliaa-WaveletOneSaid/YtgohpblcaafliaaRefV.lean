/- The walks of the reference's Rank, Less, Select of a list's symbols. -/
import Derived.Test.YtgohpblcaafliaaAskV
set_option linter.unusedVariables false
set_option linter.unusedSimpArgs false
namespace Lec
open Go Go.RowKit
theorem Wv.less_snoc (L : List Nat) (x c : Nat) : Wv.less (L ++ [x]) c = Wv.less L c + (if x < c then 1 else 0) := by
  unfold Wv.less
  rw [List.filter_append, List.length_append]
  by_cases h : x < c
  · simp [h]
  · simp [h]
end Lec
namespace Go.Proofs.Ytgohpblcaafliaa
open Go.RowKit Lec
theorem refRankV_any (w : World) (A : Option Addr) (n c : Nat) (L : List Nat) (hn : n = L.length) (hm : n ≤ 1000000) (hr : Rds w A (natsC L)) (x i : Nat) (hi : i ≤ n) :
    Calls Try.prog 29 #[.slice A n c, .int .i64 (x : Int), .int .i64 (i : Int)] w fun e w' => e = .returned (.int .i64 (Wv.eqs (L.take i) x : Int)) ∧ w = w' := by
  subst hn
  have HR := Lib.hid hr
  clear hr
  go_enter Try.func29, Try.ntmps29
  go_wp2
  go_loop [7, 8] (fun s j => ∃ k : Nat, k ≤ i ∧ j = .int .i64 (k : Int) ∧ s = .int .i64 (Wv.eqs (L.take k) x : Int)) (fun _ j => i - (intOf j).toNat)
  case atStart => exact ⟨0, by omega, rfl, by simp [Wv.eqs]⟩
  case round =>
    obtain ⟨k, hk, rfl, rfl⟩ := hrel
    have hle : Wv.eqs (L.take k) x ≤ k := by have := Wv.eqs_le (L.take k) x; rw [List.length_take] at this; omega
    by_cases h8 : k < i
    · have hk' : k < L.length := by omega
      have hki : (k : Int) < (i : Int) := by omega
      have hkn : (k : Int) < (L.length : Int) := by omega
      obtain ⟨a, rfl, hc⟩ := HR.out k _ (natsC_at (List.getElem?_eq_getElem hk'))
      have HS : Hid (Wv.eqs (L.take (k + 1)) x = Wv.eqs (L.take k) x + (if L[k] = x then 1 else 0)) := by show _ = _; rw [List.take_succ_eq_append_getElem hk', Wv.eqs_snoc]
      generalize L[k] = y at *
      generalize Wv.eqs (L.take k) x = s at *
      by_cases hx : y = x
      · have hxb : ((y : Int) == (x : Int)) = true := by simp [hx]
        have HS2 : Hid (Wv.eqs (L.take (k + 1)) x = s + 1) := by show _ = _; rw [HS.out, if_pos hx]
        clear hx HS
        go_wp2
        go_round
        case rel => exact ⟨k + 1, by omega, by go_num, by rw [HS2.out]; go_num⟩
        case measure => simp [intOf]; omega
      · have hxb : ((y : Int) == (x : Int)) = false := by rw [beq_eq_false_iff_ne]; omega
        have HS2 : Hid (Wv.eqs (L.take (k + 1)) x = s) := by show _ = _; rw [HS.out, if_neg hx]; rfl
        clear hx HS
        go_wp2
        go_round
        case rel => exact ⟨k + 1, by omega, by go_num, by rw [HS2.out]⟩
        case measure => simp [intOf]; omega
    · obtain rfl : k = i := by omega
      have hki : ¬ (k : Int) < (k : Int) := by omega
      go_wp2
      go_ret
      exact ⟨rfl, rfl⟩
theorem refLessV_any (w : World) (A : Option Addr) (n c : Nat) (L : List Nat) (hn : n = L.length) (hm : n ≤ 1000000) (hr : Rds w A (natsC L)) (x : Nat) :
    Calls Try.prog 32 #[.slice A n c, .int .i64 (x : Int)] w fun e w' => e = .returned (.int .i64 (Wv.less L x : Int)) ∧ w = w' := by
  subst hn
  have HR := Lib.hid hr
  clear hr
  go_enter Try.func32, Try.ntmps32
  go_wp2
  go_loop [5, 6] (fun s j => ∃ k : Nat, k ≤ L.length ∧ j = .int .i64 (k : Int) ∧ s = .int .i64 (Wv.less (L.take k) x : Int)) (fun _ j => L.length - (intOf j).toNat)
  case atStart => exact ⟨0, by omega, rfl, by simp [Wv.less]⟩
  case round =>
    obtain ⟨k, hk, rfl, rfl⟩ := hrel
    have hle : Wv.less (L.take k) x ≤ k := by have := Wv.less_le (L.take k) x; rw [List.length_take] at this; omega
    by_cases h8 : k < L.length
    · have hkn : (k : Int) < (L.length : Int) := by omega
      obtain ⟨a, rfl, hc⟩ := HR.out k _ (natsC_at (List.getElem?_eq_getElem h8))
      have HS : Hid (Wv.less (L.take (k + 1)) x = Wv.less (L.take k) x + (if L[k] < x then 1 else 0)) := by show _ = _; rw [List.take_succ_eq_append_getElem h8, Wv.less_snoc]
      generalize L[k] = y at *
      generalize Wv.less (L.take k) x = s at *
      by_cases hx : y < x
      · have hxb : (y : Int) < (x : Int) := by omega
        have HS2 : Hid (Wv.less (L.take (k + 1)) x = s + 1) := by show _ = _; rw [HS.out, if_pos hx]
        clear HS
        go_wp2
        go_round
        case rel => exact ⟨k + 1, by omega, by go_num, by rw [HS2.out]; go_num⟩
        case measure => simp [intOf]; omega
      · have hxb : ¬ (y : Int) < (x : Int) := by omega
        have HS2 : Hid (Wv.less (L.take (k + 1)) x = s) := by show _ = _; rw [HS.out, if_neg hx]; rfl
        clear HS
        go_wp2
        go_round
        case rel => exact ⟨k + 1, by omega, by go_num, by rw [HS2.out]⟩
        case measure => simp [intOf]; omega
    · obtain rfl : k = L.length := by omega
      have hki : ¬ (L.length : Int) < (L.length : Int) := by omega
      have HL : Hid (L.take L.length = L) := List.take_length
      go_wp2
      go_ret
      exact ⟨by first | rfl | (rw [HL.out]; rfl), rfl⟩
/-- The place of the c that has j ahead of it. -/
theorem refSelectV_in (w : World) (A : Option Addr) (n c : Nat) (L : List Nat) (hn : n = L.length) (hm : n ≤ 1000000) (hr : Rds w A (natsC L)) (x r j : Nat) (hx : L[r]? = some x) (hj : Wv.eqs (L.take r) x = j) :
    Calls Try.prog 37 #[.slice A n c, .int .i64 (x : Int), .int .i64 (j : Int)] w fun e w' => e = .returned (.int .i64 (r : Int)) ∧ w = w' := by
  subst hn
  have hrl : r < L.length := (List.getElem?_eq_some_iff.1 hx).1
  have HR := Lib.hid hr
  have HX : Hid (L[r] = x) := (List.getElem?_eq_some_iff.1 hx).2
  have HJ := Lib.hid hj
  have HMO : Hid (∀ k, k ≤ r → Wv.eqs (L.take k) x ≤ j) := Lib.hid fun k hk => by
    rw [← hj]; unfold Wv.eqs
    have : L.take k = (L.take r).take k := by rw [List.take_take, Nat.min_eq_left hk]
    rw [this]; exact ((List.take_sublist k _).filter _).length_le
  have hjl : j ≤ L.length := by have := Wv.eqs_le (L.take r) x; rw [List.length_take] at this; omega
  clear hr hx hj
  go_enter Try.func37, Try.ntmps37
  go_wp2
  go_loop [2, 7] (fun s i => ∃ k : Nat, k ≤ r ∧ i = .int .i64 (k : Int) ∧ s = .int .i64 ((j - Wv.eqs (L.take k) x : Nat) : Int)) (fun _ i => L.length - (intOf i).toNat)
  case atStart => exact ⟨0, by omega, rfl, by simp [Wv.eqs]⟩
  case round =>
    obtain ⟨k, hk, rfl, rfl⟩ := hrel
    have h8 : k < L.length := by omega
    have h8i : (k : Int) < (L.length : Int) := by omega
    have hle := HMO.out k hk
    obtain ⟨a, rfl, hc⟩ := HR.out k _ (natsC_at (List.getElem?_eq_getElem h8))
    have HS : Hid (Wv.eqs (L.take (k + 1)) x = Wv.eqs (L.take k) x + (if L[k] = x then 1 else 0)) := by show _ = _; rw [List.take_succ_eq_append_getElem h8, Wv.eqs_snoc]
    have HE : Hid (k = r → L[k] = x ∧ Wv.eqs (L.take k) x = j) := Lib.hid fun h => by subst h; exact ⟨HX.out, HJ.out⟩
    have HN := Lib.hid (fun h : k + 1 ≤ r => HMO.out (k + 1) h)
    generalize L[k] = y at *
    generalize Wv.eqs (L.take k) x = s at *
    have h0 : (0 : Int) ≤ ((j - s : Nat) : Int) := by omega
    by_cases hy : y = x
    · have hyb : ((y : Int) == (x : Int)) = true := by simp [hy]
      have HS2 : Hid (Wv.eqs (L.take (k + 1)) x = s + 1) := by show _ = _; rw [HS.out, if_pos hy]
      by_cases hkr : k = r
      · have hz : j - s = 0 := by have := (HE.out hkr).2; omega
        have HKR := Lib.hid hkr
        rw [hz]
        clear hy hkr HS hz
        go_wp2
        go_ret
        exact ⟨by rw [← HKR.out]; rfl, rfl⟩
      · have hlt : s + 1 ≤ j := by have := HN.out (by omega); rw [HS2.out] at this; exact this
        have hnz : (((j - s : Nat) : Int) == 0) = false := by rw [beq_eq_false_iff_ne]; omega
        have hk2 : k + 1 ≤ r := by omega
        have hjs : ((j - s : Nat) : Int) - 1 = ((j - (s + 1) : Nat) : Int) := by omega
        have hju : j - s ≤ 1000000 := by omega
        generalize hq : j - s = q at *
        clear hy hkr HS
        go_wp2
        go_round
        case rel => exact ⟨k + 1, hk2, by go_num, by rw [HS2.out]⟩
        case measure => simp [intOf]; omega
    · have hyb : ((y : Int) == (x : Int)) = false := by rw [beq_eq_false_iff_ne]; omega
      have HS2 : Hid (Wv.eqs (L.take (k + 1)) x = s) := by show _ = _; rw [HS.out, if_neg hy]; rfl
      have hkr : k + 1 ≤ r := by
        by_cases h : k = r
        · exact absurd (HE.out h).1 hy
        · omega
      clear hy HS
      go_wp2
      go_round
      case rel => exact ⟨k + 1, hkr, by go_num, by rw [HS2.out]⟩
      case measure => simp [intOf]; omega
theorem refSelectV_out (w : World) (A : Option Addr) (n c : Nat) (L : List Nat) (hn : n = L.length) (hm : n ≤ 1000000) (hr : Rds w A (natsC L)) (x : Nat) (j : Int) (hj : j < 0 ∨ (Wv.eqs L x : Int) ≤ j) (hj2 : j ≤ 9223372036854775807) :
    Calls Try.prog 37 #[.slice A n c, .int .i64 (x : Int), .int .i64 j] w fun e w' => e = .returned (.int .i64 (-1)) ∧ w = w' := by
  subst hn
  have HR := Lib.hid hr
  have HJ := Lib.hid hj
  have HT : Hid (L.take L.length = L) := List.take_length
  have HMO : Hid (∀ k, Wv.eqs (L.take k) x ≤ Wv.eqs L x) := Lib.hid fun k => ((List.take_sublist k L).filter _).length_le
  clear hr hj
  go_enter Try.func37, Try.ntmps37
  go_wp2
  by_cases hneg : j < 0
  · go_loop [2, 7] (fun s i => i = .int .i64 0 ∧ s = .int .i64 j) (fun _ i => 0)
    case atStart => exact ⟨rfl, rfl⟩
    case round =>
      obtain ⟨rfl, rfl⟩ := hrel
      have h0 : ¬ 0 ≤ j := by omega
      by_cases hl : (0 : Int) < (L.length : Int)
      · go_wp2
        go_ret
        exact ⟨rfl, rfl⟩
      · go_wp2
        go_ret
        exact ⟨rfl, rfl⟩
  · go_loop [2, 7] (fun s i => ∃ k : Nat, k ≤ L.length ∧ i = .int .i64 (k : Int) ∧ s = .int .i64 (j - (Wv.eqs (L.take k) x : Int))) (fun _ i => L.length - (intOf i).toNat)
    case atStart => exact ⟨0, by omega, rfl, by simp [Wv.eqs]⟩
    case round =>
      obtain ⟨k, hk, rfl, rfl⟩ := hrel
      by_cases h8 : k < L.length
      · have h8i : (k : Int) < (L.length : Int) := by omega
        obtain ⟨a, rfl, hc⟩ := HR.out k _ (natsC_at (List.getElem?_eq_getElem h8))
        have HS : Hid (Wv.eqs (L.take (k + 1)) x = Wv.eqs (L.take k) x + (if L[k] = x then 1 else 0)) := by show _ = _; rw [List.take_succ_eq_append_getElem h8, Wv.eqs_snoc]
        have hmo := HMO.out k
        have hmo2 := HMO.out (k + 1)
        have hjj := HJ.out
        generalize L[k] = y at *
        by_cases hy : y = x
        · have hyb : ((y : Int) == (x : Int)) = true := by simp [hy]
          have HS2 : Hid (Wv.eqs (L.take (k + 1)) x = Wv.eqs (L.take k) x + 1) := by show _ = _; rw [HS.out, if_pos hy]
          have h3 := HS2.out
          generalize Wv.eqs (L.take k) x = s at *
          generalize Wv.eqs L x = t at *
          obtain ⟨q, hq⟩ : ∃ q, q = j - (s : Int) := ⟨_, rfl⟩
          rw [← hq]
          have h0 : 0 ≤ q := by omega
          have hnz : (q == 0) = false := by rw [beq_eq_false_iff_ne]; omega
          have hqu : q ≤ 9223372036854775807 := by omega
          have HQ : Hid (q - 1 = j - ((s + 1 : Nat) : Int)) := by show _ = _; omega
          clear hy HS hq h3 hmo2 hmo hjj
          go_wp2
          go_round
          case rel => exact ⟨k + 1, by omega, by go_num, by rw [HS2.out, ← HQ.out]⟩
          case measure => simp [intOf]; omega
        · have hyb : ((y : Int) == (x : Int)) = false := by rw [beq_eq_false_iff_ne]; omega
          have HS2 : Hid (Wv.eqs (L.take (k + 1)) x = Wv.eqs (L.take k) x) := by show _ = _; rw [HS.out, if_neg hy]; rfl
          generalize Wv.eqs (L.take k) x = s at *
          generalize Wv.eqs L x = t at *
          obtain ⟨q, hq⟩ : ∃ q, q = j - (s : Int) := ⟨_, rfl⟩
          have HQ := Lib.hid hq
          rw [← hq]
          have h0 : 0 ≤ q := by omega
          clear hy HS hq hmo2 hmo hjj
          go_wp2
          go_round
          case rel => exact ⟨k + 1, by omega, by go_num, by rw [HS2.out, ← HQ.out]⟩
          case measure => simp [intOf]; omega
      · obtain rfl : k = L.length := by omega
        have hki : ¬ (L.length : Int) < (L.length : Int) := by omega
        go_wp2
        go_ret
        exact ⟨rfl, rfl⟩
end Go.Proofs.Ytgohpblcaafliaa
