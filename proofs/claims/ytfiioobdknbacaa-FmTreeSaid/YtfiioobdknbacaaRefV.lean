/- The walks of the reference's Rank, Less of a list's symbols. -/
import Derived.Test.YtfiioobdknbacaaRefT
set_option linter.unusedVariables false
set_option linter.unusedSimpArgs false
namespace Lec
open Go Go.RowKit
theorem Wv.less_snoc (L : List Nat) (x c : Nat) : Wv.less (L ++ [x]) c = Wv.less L c + (if x < c then 1 else 0) := by
  unfold Wv.less
  rw [List.filter_append, List.length_append]
  by_cases h : x < c
  · simp [h]
  · simp [h]
end Lec
namespace Go.Proofs.Ytfiioobdknbacaa
open Go.RowKit Lec
theorem refRankV_any (w : World) (A : Option Addr) (n c : Nat) (L : List Nat) (hn : n = L.length) (hm : n ≤ 1000000) (hr : Rds w A (natsC L)) (x i : Nat) (hi : i ≤ n) :
    Calls Try.prog 46 #[.slice A n c, .int .i64 (x : Int), .int .i64 (i : Int)] w fun e w' => e = .returned (.int .i64 (Wv.eqs (L.take i) x : Int)) ∧ w = w' := by
  subst hn
  have HR := Lib.hid hr
  clear hr
  go_enter Try.func46, Try.ntmps46
  go_wp2
  go_loop [7, 8] (fun s j => ∃ k : Nat, k ≤ i ∧ j = .int .i64 (k : Int) ∧ s = .int .i64 (Wv.eqs (L.take k) x : Int)) (fun _ j => i - (intOf j).toNat)
  case atStart => exact ⟨0, by omega, rfl, by simp [Wv.eqs]⟩
  case round =>
    obtain ⟨k, hk, rfl, rfl⟩ := hrel
    have hle : Wv.eqs (L.take k) x ≤ k := by have := Wv.eqs_le (L.take k) x; rw [List.length_take] at this; omega
    by_cases h8 : k < i
    · have hk' : k < L.length := by omega
      have hki : (k : Int) < (i : Int) := by omega
      have hkn : (k : Int) < (L.length : Int) := by omega
      obtain ⟨a, rfl, hc⟩ := HR.out k _ (natsC_at (List.getElem?_eq_getElem hk'))
      have HS : Hid (Wv.eqs (L.take (k + 1)) x = Wv.eqs (L.take k) x + (if L[k] = x then 1 else 0)) := by show _ = _; rw [List.take_succ_eq_append_getElem hk', Wv.eqs_snoc]
      generalize L[k] = y at *
      generalize Wv.eqs (L.take k) x = s at *
      by_cases hx : y = x
      · have hxb : ((y : Int) == (x : Int)) = true := by simp [hx]
        have HS2 : Hid (Wv.eqs (L.take (k + 1)) x = s + 1) := by show _ = _; rw [HS.out, if_pos hx]
        clear hx HS
        go_wp2
        go_round
        case rel => exact ⟨k + 1, by omega, by go_num, by rw [HS2.out]; go_num⟩
        case measure => simp [intOf]; omega
      · have hxb : ((y : Int) == (x : Int)) = false := by rw [beq_eq_false_iff_ne]; omega
        have HS2 : Hid (Wv.eqs (L.take (k + 1)) x = s) := by show _ = _; rw [HS.out, if_neg hx]; rfl
        clear hx HS
        go_wp2
        go_round
        case rel => exact ⟨k + 1, by omega, by go_num, by rw [HS2.out]⟩
        case measure => simp [intOf]; omega
    · obtain rfl : k = i := by omega
      have hki : ¬ (k : Int) < (k : Int) := by omega
      go_wp2
      go_ret
      exact ⟨rfl, rfl⟩
theorem refLessV_any (w : World) (A : Option Addr) (n c : Nat) (L : List Nat) (hn : n = L.length) (hm : n ≤ 1000000) (hr : Rds w A (natsC L)) (x : Nat) :
    Calls Try.prog 48 #[.slice A n c, .int .i64 (x : Int)] w fun e w' => e = .returned (.int .i64 (Wv.less L x : Int)) ∧ w = w' := by
  subst hn
  have HR := Lib.hid hr
  clear hr
  go_enter Try.func48, Try.ntmps48
  go_wp2
  go_loop [5, 6] (fun s j => ∃ k : Nat, k ≤ L.length ∧ j = .int .i64 (k : Int) ∧ s = .int .i64 (Wv.less (L.take k) x : Int)) (fun _ j => L.length - (intOf j).toNat)
  case atStart => exact ⟨0, by omega, rfl, by simp [Wv.less]⟩
  case round =>
    obtain ⟨k, hk, rfl, rfl⟩ := hrel
    have hle : Wv.less (L.take k) x ≤ k := by have := Wv.less_le (L.take k) x; rw [List.length_take] at this; omega
    by_cases h8 : k < L.length
    · have hkn : (k : Int) < (L.length : Int) := by omega
      obtain ⟨a, rfl, hc⟩ := HR.out k _ (natsC_at (List.getElem?_eq_getElem h8))
      have HS : Hid (Wv.less (L.take (k + 1)) x = Wv.less (L.take k) x + (if L[k] < x then 1 else 0)) := by show _ = _; rw [List.take_succ_eq_append_getElem h8, Wv.less_snoc]
      generalize L[k] = y at *
      generalize Wv.less (L.take k) x = s at *
      by_cases hx : y < x
      · have hxb : (y : Int) < (x : Int) := by omega
        have HS2 : Hid (Wv.less (L.take (k + 1)) x = s + 1) := by show _ = _; rw [HS.out, if_pos hx]
        clear HS
        go_wp2
        go_round
        case rel => exact ⟨k + 1, by omega, by go_num, by rw [HS2.out]; go_num⟩
        case measure => simp [intOf]; omega
      · have hxb : ¬ (y : Int) < (x : Int) := by omega
        have HS2 : Hid (Wv.less (L.take (k + 1)) x = s) := by show _ = _; rw [HS.out, if_neg hx]; rfl
        clear HS
        go_wp2
        go_round
        case rel => exact ⟨k + 1, by omega, by go_num, by rw [HS2.out]⟩
        case measure => simp [intOf]; omega
    · obtain rfl : k = L.length := by omega
      have hki : ¬ (L.length : Int) < (L.length : Int) := by omega
      have HL : Hid (L.take L.length = L) := List.take_length
      go_wp2
      go_ret
      exact ⟨by first | rfl | (rw [HL.out]; rfl), rfl⟩
end Go.Proofs.Ytfiioobdknbacaa
