/- The walk of the reference's Select. -/
import Derived.Test.YtgohpblcaafliaaSel
set_option linter.unusedVariables false
set_option linter.unusedSimpArgs false
namespace Lec
theorem cntB_succ (b : Bool) (L : List Bool) (i : Nat) (h : i < L.length) : cntB b L (i + 1) = cntB b L i + [L[i]].count b := by
  unfold cntB; rw [List.take_succ_eq_append_getElem h, List.count_append]
end Lec
namespace Go.Proofs.Ytgohpblcaafliaa
open Go.RowKit Lec

theorem refSelect_in (w : World) (A : Option Addr) (n c : Nat) (L : List Bool) (hn : L.length = n) (hm : n ≤ 1000000) (hr : Rds w A (boolsV L)) (b : Bool) (k r : Nat) (hk1 : r < n) (h1 : cntB b L r = k) (h2 : L[r]? = some b) :
    Calls Try.prog 25 #[.slice A n c, .bool b, .int .i64 (k : Int)] w fun e w' => e = .returned (.tuple #[.int .i64 (r : Int), .bool true]) ∧ w = w' := by
  have HR := Lib.hid hr
  have HN := Lib.hid hn
  clear hr hn
  go_enter Try.func25, Try.ntmps25
  go_wp2
  go_loop [2, 8] (fun x j => ∃ i : Nat, i ≤ r ∧ j = .int .i64 (i : Int) ∧ x = .int .i64 ((k : Int) - (cntB b L i : Int))) (fun _ j => r - (intOf j).toNat)
  case atStart => exact ⟨0, by omega, rfl, by simp [cntB]⟩
  case round =>
    obtain ⟨i, hi, rfl, rfl⟩ := hrel
    have hle := cntB_le b L i
    by_cases h8 : i < r
    · have hi2 : i < L.length := by have := HN.out; omega
      have hini : (i : Int) < (n : Int) := by have := HN.out; omega
      obtain ⟨a, rfl, hc⟩ := HR.out.map i hi2
      have hs := cntB_succ b L i hi2
      have hmo := cntB_mono b L (show i + 1 ≤ r by omega)
      generalize L[i] = x at *
      by_cases hx : x = b
      · subst hx
        have hxb : (x != x) = false := by simp
        rw [List.count_singleton_self] at hs
        have HS := Lib.hid hs
        have hkb : (k : Int) ≤ 9223372036854775807 := by have := cntB_le x L r; omega
        obtain ⟨z, hz⟩ : ∃ z : Int, z = (k : Int) - (cntB x L i : Int) := ⟨_, rfl⟩
        rw [← hz]
        have hz1 : 1 ≤ z := by omega
        have hz2 : z ≤ 9223372036854775807 := by omega
        have hk0 : (z == 0) = false := by rw [beq_eq_false_iff_ne]; omega
        have HE : Hid (z - 1 = (k : Int) - (cntB x L (i + 1) : Int)) := by show _ = _; omega
        clear hz h1 h2 hs hmo hle
        go_wp2
        go_round
        case rel => exact ⟨i + 1, by omega, by go_num, congrArg (Value.int .i64) HE.out⟩
        case measure => simp [intOf]; omega
      · have HS : Hid (cntB b L (i + 1) = cntB b L i) := by show _ = _; rw [hs]; simp [hx]
        clear hs
        cases x <;> cases b <;> first
          | exact absurd rfl hx
          | (clear hx
             go_wp2
             go_round
             case rel => exact ⟨i + 1, by omega, by go_num, by rw [HS.out]⟩
             case measure => simp [intOf]; omega)
    · obtain rfl : i = r := by omega
      (have hi2 : i < L.length := (by have := HN.out; omega)); (have hini : (i : Int) < (n : Int) := (by have := HN.out; omega)); obtain ⟨a, rfl, hc⟩ := HR.out.map i hi2; rw [(List.getElem?_eq_some_iff.1 h2).2] at hc; (have hxb : (b != b) = false := (by simp)); rw [show (k : Int) - (cntB b L i : Int) = 0 by omega]; go_wp2; go_ret2; exact ⟨rfl, rfl⟩
theorem refSelect_out (w : World) (A : Option Addr) (n c : Nat) (L : List Bool) (hn : L.length = n) (hm : n ≤ 1000000) (hr : Rds w A (boolsV L)) (b : Bool) (k : Int) (hk1 : (cntB b L n : Int) ≤ k) (hk2 : k ≤ 9223372036854775807) :
    Calls Try.prog 25 #[.slice A n c, .bool b, .int .i64 k] w fun e w' => e = .returned (.tuple #[.int .i64 0, .bool false]) ∧ w = w' := by
  have HR := Lib.hid hr
  have HN := Lib.hid hn
  clear hr hn
  go_enter Try.func25, Try.ntmps25
  go_wp2
  go_loop [2, 8] (fun x j => ∃ i : Nat, i ≤ n ∧ j = .int .i64 (i : Int) ∧ x = .int .i64 (k - (cntB b L i : Int))) (fun _ j => n - (intOf j).toNat)
  case atStart => exact ⟨0, by omega, rfl, by simp [cntB]⟩
  case round =>
    obtain ⟨i, hi, rfl, rfl⟩ := hrel
    have hle := cntB_le b L i
    by_cases h8 : i < n
    · have hi2 : i < L.length := by have := HN.out; omega
      have hini : (i : Int) < (n : Int) := by have := HN.out; omega
      obtain ⟨a, rfl, hc⟩ := HR.out.map i hi2
      have hs := cntB_succ b L i hi2
      have hmo := cntB_mono b L (show i + 1 ≤ n by omega)
      generalize L[i] = x at *
      by_cases hx : x = b
      · subst hx
        have hxb : (x != x) = false := by simp
        rw [List.count_singleton_self] at hs
        have HS := Lib.hid hs
        have hkb : k ≤ 9223372036854775807 := by exact hk2
        obtain ⟨z, hz⟩ : ∃ z : Int, z = k - (cntB x L i : Int) := ⟨_, rfl⟩
        rw [← hz]
        have hz1 : 1 ≤ z := by omega
        have hz2 : z ≤ 9223372036854775807 := by omega
        have hk0 : (z == 0) = false := by rw [beq_eq_false_iff_ne]; omega
        have HE : Hid (z - 1 = k - (cntB x L (i + 1) : Int)) := by show _ = _; omega
        clear hz hk1 hk2 hs hmo hle
        go_wp2
        go_round
        case rel => exact ⟨i + 1, by omega, by go_num, congrArg (Value.int .i64) HE.out⟩
        case measure => simp [intOf]; omega
      · have HS : Hid (cntB b L (i + 1) = cntB b L i) := by show _ = _; rw [hs]; simp [hx]
        clear hs
        cases x <;> cases b <;> first
          | exact absurd rfl hx
          | (clear hx
             go_wp2
             go_round
             case rel => exact ⟨i + 1, by omega, by go_num, by rw [HS.out]⟩
             case measure => simp [intOf]; omega)
    · obtain rfl : i = n := by omega
      (have hini : ¬ (i : Int) < (i : Int) := (by omega)); go_wp2; go_ret2; exact ⟨rfl, rfl⟩
end Go.Proofs.Ytgohpblcaafliaa
