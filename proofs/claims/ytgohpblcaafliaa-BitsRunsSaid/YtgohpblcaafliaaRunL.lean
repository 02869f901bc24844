/- Rows of bits whose ones stand m apart: ranks and places. -/
import Derived.Test.YtgohpblcaafliaaRefS
set_option linter.unusedVariables false
set_option linter.unusedSimpArgs false
namespace Lec
/-- n bits, every m-th a one. -/
def runL (m n : Nat) : List Bool := (List.range n).map fun i => decide (i % m = 0)
theorem runL_len (m n : Nat) : (runL m n).length = n := by simp [runL]
theorem runL_at (m n i : Nat) (h : i < n) : (runL m n)[i]'(by rw [runL_len]; exact h) = decide (i % m = 0) := by simp [runL]
theorem runL_cnt (m n k : Nat) (hm : m = 1 ∨ m = 2 ∨ m = 3) (hk : k ≤ n) : cntB true (runL m n) k = (k + m - 1) / m := by
  induction k with
  | zero => rcases hm with rfl | rfl | rfl <;> simp [cntB]
  | succ k ih =>
    rw [cntB_succ true _ k (by rw [runL_len]; omega), ih (by omega), runL_at m n k (by omega)]
    by_cases h : k % m = 0
    · rw [decide_eq_true h]
      rw [show [true].count true = 1 from rfl]
      rcases hm with rfl | rfl | rfl <;> omega
    · rw [decide_eq_false h]
      rw [show [false].count true = 0 from rfl]
      rcases hm with rfl | rfl | rfl <;> omega
theorem runL_rank (m n k : Nat) (hm : m = 1 ∨ m = 2 ∨ m = 3) (hk : k ≤ n) : rankB (runL m n) k = (k + m - 1) / m := by
  rw [← cntB_true]; exact runL_cnt m n k hm hk
theorem runL_sel (m n k : Nat) (hm : m = 1 ∨ m = 2 ∨ m = 3) (hk : k < (n + m - 1) / m) :
    k * m < n ∧ cntB true (runL m n) (k * m) = k ∧ cntB true (runL m n) (k * m + 1) = k + 1 := by
  have h1 : k * m < n := by rcases hm with rfl | rfl | rfl <;> omega
  refine ⟨h1, ?_, ?_⟩
  · rw [runL_cnt m n _ hm (by omega)]; rcases hm with rfl | rfl | rfl <;> omega
  · rw [runL_cnt m n _ hm (by omega)]; rcases hm with rfl | rfl | rfl <;> omega
end Lec
