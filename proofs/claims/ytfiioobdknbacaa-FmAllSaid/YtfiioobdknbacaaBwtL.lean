/- The last column of the sorted rows: plain. No program stands here. -/
import Derived.Test.YtfiioobdknbacaaLcp
import Derived.Test.YtfiioobdknbacaaSortN
set_option linter.unusedVariables false
set_option linter.unusedSimpArgs false
namespace Lec.Sa
def rowsL (s b : List Nat) : List Nat := s.length :: b
def outL (s R : List Nat) : List Nat := (R.filter (· != 0)).map (fun v => sy s (v - 1))
def atK (R : List Nat) : Nat → Nat
  | 0 => 0
  | k + 1 => if R[k]? = some 0 then k else atK R k
theorem rowsL_len {s b : List Nat} (h : IsSA s b) : (rowsL s b).length = s.length + 1 := by simp [rowsL, h.len]
theorem rowsL_mem {s b : List Nat} (h : IsSA s b) (v : Nat) : v ∈ rowsL s b ↔ v ≤ s.length := by
  unfold rowsL
  rw [List.mem_cons, h.mem]
  omega
theorem rowsL_nodup {s b : List Nat} (h : IsSA s b) : (rowsL s b).Nodup := by
  unfold rowsL
  rw [List.nodup_cons]
  exact ⟨fun hm => by have := (h.mem _).1 hm; omega, h.nodup⟩
theorem outL_len {s b : List Nat} (h : IsSA s b) : (outL s (rowsL s b)).length = s.length := by
  unfold outL
  rw [List.length_map, ← (rowsL_nodup h).erase_eq_filter, List.length_erase_of_mem ((rowsL_mem h 0).2 (by omega)), rowsL_len h]
  omega
theorem outL_le (s R : List Nat) (k : Nat) : (outL s (R.take k)).length ≤ R.length := by
  unfold outL
  rw [List.length_map]
  have := List.length_filter_le (· != 0) (R.take k)
  rw [List.length_take] at this
  omega
theorem outL_same {s R : List Nat} {k : Nat} (h : R[k]? = some 0) : outL s (R.take (k + 1)) = outL s (R.take k) := by
  obtain ⟨hk, hv⟩ := List.getElem?_eq_some_iff.1 h
  unfold outL
  rw [List.take_succ_eq_append_getElem hk, hv, List.filter_append]
  simp
theorem outL_snoc {s R : List Nat} {k v : Nat} (h : R[k]? = some v) (h0 : v ≠ 0) : outL s (R.take (k + 1)) = outL s (R.take k) ++ [sy s (v - 1)] := by
  obtain ⟨hk, hv⟩ := List.getElem?_eq_some_iff.1 h
  unfold outL
  rw [List.take_succ_eq_append_getElem hk, hv, List.filter_append]
  simp [h0]
theorem atK_same {R : List Nat} {k : Nat} (h : R[k]? = some 0) : atK R (k + 1) = k := by rw [atK, if_pos h]
theorem atK_snoc {R : List Nat} {k v : Nat} (h : R[k]? = some v) (h0 : v ≠ 0) : atK R (k + 1) = atK R k := by rw [atK, if_neg (by rw [h]; simpa using h0)]
theorem atK_le (R : List Nat) : ∀ k, atK R k ≤ k
  | 0 => Nat.le_refl _
  | k + 1 => by rw [atK]; split; omega; have := atK_le R k; omega
end Lec.Sa
