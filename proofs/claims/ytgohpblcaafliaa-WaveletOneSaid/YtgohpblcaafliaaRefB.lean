/- The walks of the reference's Rank and of told. -/
import Derived.Test.YtgohpblcaafliaaAskB
set_option linter.unusedVariables false
set_option linter.unusedSimpArgs false
namespace Lec
open Go Go.RowKit
theorem Calls.q_sum {P : Program} {f : FuncId} {args : Array Value} {w : World} {s a : Nat} {v : Value} (h : Calls P f args (w.drewN (s + a)) fun e w' => e = .returned v ∧ w.drewN (s + a) = w') :
    Calls P f args (w.drewN (s + a)) fun e w'' => e = .returned v ∧ ∃ m, w'' = w.drewN (s + m) := h.mono fun _ _ ⟨he, hm⟩ => ⟨he, a, hm.symm⟩
theorem Calls.q_sumd {P : Program} {f : FuncId} {args : Array Value} {w : World} {s a : Nat} {v : Value} (h : Calls P f args (w.drewN (s + a)) fun e w' => e = .returned v ∧ ∃ q, (w.drewN (s + a)).drewN q = w') :
    Calls P f args (w.drewN (s + a)) fun e w'' => e = .returned v ∧ ∃ m, w'' = w.drewN (s + m) := h.mono fun _ _ ⟨he, q, hm⟩ => ⟨he, a + q, by rw [← hm, World.drewN_drewN, Nat.add_assoc]⟩
end Lec
namespace Go.Proofs.Ytgohpblcaafliaa
open Go.RowKit Lec

theorem refRank_any (w : World) (A : Option Addr) (n c : Nat) (L : List Bool) (hn : L.length = n) (hm : n ≤ 1000000) (hr : Rds w A (boolsV L)) (b : Bool) (i : Nat) (hi : i ≤ n) :
    Calls Try.prog 18 #[.slice A n c, .bool b, .int .i64 (i : Int)] w fun e w' => e = .returned (.int .i64 (((L.take i).count b : Nat) : Int)) ∧ w = w' := by
  have HR := Lib.hid hr
  have HN := Lib.hid hn
  clear hr hn
  go_enter Try.func18, Try.ntmps18
  go_wp2
  go_loop [7, 8] (fun s j => ∃ k : Nat, k ≤ i ∧ j = .int .i64 (k : Int) ∧ s = .int .i64 (((L.take k).count b : Nat) : Int)) (fun _ j => i - (intOf j).toNat)
  case atStart => exact ⟨0, by omega, rfl, by simp⟩
  case round =>
    obtain ⟨k, hk, rfl, rfl⟩ := hrel
    have hle : (L.take k).count b ≤ k := Nat.le_trans List.count_le_length (by rw [List.length_take]; omega)
    by_cases h8 : k < i
    · have hk' : k < L.length := by rw [HN.out]; omega
      have hki : (k : Int) < (i : Int) := by omega
      have hkn : (k : Int) < (n : Int) := by omega
      obtain ⟨a, rfl, hc⟩ := HR.out.map k hk'
      have HS : Hid ((L.take (k + 1)).count b = (L.take k).count b + [L[k]].count b) := by show _ = _; rw [List.take_succ_eq_append_getElem hk', List.count_append]
      generalize L[k] = x at *
      by_cases hx : x = b
      · subst hx
        have hxb : (x == x) = true := by simp
        have HS2 : Hid ((L.take (k + 1)).count x = (L.take k).count x + 1) := by show _ = _; rw [HS.out]; simp
        go_wp2
        go_round
        case rel => exact ⟨k + 1, by omega, by go_num, by rw [HS2.out]; go_num⟩
        case measure => simp [intOf]; omega
      · have hxb : (x == b) = false := by rw [beq_eq_false_iff_ne]; exact hx
        have HS2 : Hid ((L.take (k + 1)).count b = (L.take k).count b) := by show _ = _; rw [HS.out]; simp [hx]
        clear hx
        go_wp2
        go_round
        case rel => exact ⟨k + 1, by omega, by go_num, by rw [HS2.out]⟩
        case measure => simp [intOf]; omega
    · obtain rfl : k = i := by omega
      have hki : ¬ (k : Int) < (k : Int) := by omega
      go_wp2
      go_ret
      exact ⟨rfl, rfl⟩

theorem told_no (w : World) (x : Int) : Calls Try.prog 19 #[.int .i64 0, .int .i64 3, .int .i64 x, .bool false] w fun e w' => e = .returned (.bool true) ∧ w = w' := by
  go_enter Try.func19, Try.ntmps19
  go_wp2_with (go_at_call 17; refine (num1 _ _).mono ?_; rintro e wq ⟨rfl, rfl⟩)
  go_ret
  exact ⟨rfl, rfl⟩
theorem told_yes (w : World) (x : Int) : Calls Try.prog 19 #[.int .i64 x, .int .i64 0, .int .i64 x, .bool true] w fun e w' => e = .returned (.bool true) ∧ w = w' := by
  have hx : (x == x) = true := by simp
  go_enter Try.func19, Try.ntmps19
  go_wp2_with (go_at_call 17; refine (num1 _ _).mono ?_; rintro e wq ⟨rfl, rfl⟩)
  go_ret
  exact ⟨rfl, rfl⟩
end Go.Proofs.Ytgohpblcaafliaa
