/- Texts one behind the other: where they begin, whose a place is. No program stands here. -/
set_option linter.unusedVariables false
set_option linter.unusedSimpArgs false
namespace Lec
def startI (L : List Int) (i : Nat) : Int := ((L.take i).map (· + 1)).sum
theorem startI_zero (L : List Int) : startI L 0 = 0 := by simp [startI]
theorem startI_step {L : List Int} {i : Nat} (h : i < L.length) : startI L (i + 1) = startI L i + (L[i] + 1) := by
  unfold startI; rw [List.take_succ_eq_append_getElem h, List.map_append, List.sum_append]; simp
def nonneg (L : List Int) : Prop := ∀ x ∈ L, 0 ≤ x
instance (L : List Int) : Decidable (nonneg L) := by unfold nonneg; infer_instance
def lensI (L : List Int) : Int := if ¬ nonneg L then 1 else if 64 < L.length ∨ 131072 < startI L L.length then 2 else 0
theorem nonneg_at {L : List Int} (h : nonneg L) {i : Nat} (hi : i < L.length) : 0 ≤ L[i] := h _ (List.getElem_mem hi)
theorem nonneg_take_snoc {L : List Int} {i : Nat} (hi : i < L.length) (h : nonneg (L.take i)) (h0 : 0 ≤ L[i]) : nonneg (L.take (i + 1)) := by
  intro x hx
  rw [List.take_succ_eq_append_getElem hi, List.mem_append] at hx
  rcases hx with hx | hx
  · exact h x hx
  · simp at hx; subst hx; exact h0
theorem nonneg_take {L : List Int} (h : nonneg L) (i : Nat) : nonneg (L.take i) := fun x hx => h x (List.mem_of_mem_take hx)
/-- Texts begin one behind the other. -/
theorem startI_mono {L : List Int} : ∀ (j : Nat) (i : Nat), nonneg (L.take j) → i ≤ j → j ≤ L.length → startI L i + (j - i : Nat) ≤ startI L j
  | 0, i, h, hij, hj => by obtain rfl : i = 0 := by omega
                           simp
  | j + 1, i, h, hij, hj => by
    by_cases e : i = j + 1
    · subst e; simp
    · have h' : nonneg (L.take j) := by
        have := nonneg_take h j
        rwa [List.take_take, Nat.min_eq_left (by omega)] at this
      have := startI_mono j i h' (by omega) (by omega)
      have h0 : 0 ≤ L[j] := h _ (by rw [List.take_succ_eq_append_getElem (by omega)]; exact List.mem_append_right _ (List.mem_singleton.2 rfl))
      rw [startI_step (by omega)]
      omega
theorem startI_nonneg {L : List Int} (h : nonneg L) {i : Nat} (hi : i ≤ L.length) : (i : Int) ≤ startI L i := by
  have := startI_mono i 0 (nonneg_take h i) (by omega) hi
  rw [startI_zero] at this; omega
theorem startI_le {L : List Int} (h : nonneg L) {i j : Nat} (hij : i ≤ j) (hj : j ≤ L.length) : startI L i + (j - i : Nat) ≤ startI L j := startI_mono j i (nonneg_take h j) hij hj
/-- The places where texts begin, and where all end. -/
def startsI (L : List Int) (n : Nat) : List Int := (List.range n).map (startI L)
theorem startsI_len (L : List Int) (n : Nat) : (startsI L n).length = n := by simp [startsI]
theorem startsI_at (L : List Int) (n i : Nat) (h : i < (startsI L n).length) : (startsI L n)[i] = startI L i := by simp [startsI]
theorem startsI_snoc (L : List Int) (n : Nat) : startsI L (n + 1) = startsI L n ++ [startI L n] := by simp [startsI, List.range_succ]
/-- Lengths that may be. -/
def okI (L : List Int) : Prop := nonneg L ∧ L.length ≤ 64 ∧ startI L L.length ≤ 131072
theorem lensI_ok {L : List Int} (h : okI L) : lensI L = 0 := by
  unfold lensI; rw [if_neg (by simpa using h.1), if_neg (by rintro (h' | h') <;> have := h.2 <;> omega)]
theorem lensI_neg {L : List Int} (h : ¬ nonneg L) : lensI L = 1 := by unfold lensI; rw [if_pos h]
theorem lensI_much {L : List Int} (h : nonneg L) (h' : 64 < L.length ∨ 131072 < startI L L.length) : lensI L = 2 := by
  unfold lensI; rw [if_neg (by simpa using h), if_pos h']
theorem lensI_cases (L : List Int) : (lensI L = 0 ∧ okI L) ∨ (lensI L = 1 ∧ ¬ okI L) ∨ (lensI L = 2 ∧ ¬ okI L) := by
  by_cases h : nonneg L
  · by_cases h' : 64 < L.length ∨ 131072 < startI L L.length
    · exact .inr (.inr ⟨lensI_much h h', fun o => by rcases h' with h' | h' <;> have := o.2 <;> omega⟩)
    · have o : okI L := ⟨h, by omega, by omega⟩
      exact .inl ⟨lensI_ok o, o⟩
  · exact .inr (.inl ⟨lensI_neg h, fun o => h o.1⟩)
/-- Whose a place is: the text i with startI i ≤ at < startI (i + 1). -/
theorem where_one {L : List Int} (h : nonneg L) {i j : Nat} {p : Int} (hi : i < L.length) (hj : j < L.length) (h1 : startI L i ≤ p) (h2 : p < startI L (i + 1)) (h3 : startI L j ≤ p) (h4 : p < startI L (j + 1)) : i = j := by
  rcases Nat.lt_trichotomy i j with hh | hh | hh
  · have := startI_le h (show i + 1 ≤ j by omega) (by omega); omega
  · exact hh
  · have := startI_le h (show j + 1 ≤ i by omega) (by omega); omega
end Lec
