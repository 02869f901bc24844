/- Numbers as bytes, seven bits each, the lowest first. -/
namespace Lec

/-- A number's bytes. -/
def numB (n : Nat) : List UInt8 := if h : n < 128 then [UInt8.ofNat n] else UInt8.ofNat (n % 128 + 128) :: numB (n / 128)
termination_by n
decreasing_by omega

theorem numB_small {n : Nat} (h : n < 128) : numB n = [UInt8.ofNat n] := by rw [numB, dif_pos h]
theorem numB_step {n : Nat} (h : ¬ n < 128) : numB n = UInt8.ofNat (n % 128 + 128) :: numB (n / 128) := by rw [numB, dif_neg h]
theorem numB_ne (n : Nat) : numB n ≠ [] := by rw [numB]; split <;> simp

/-- A number out of bytes, from the i-th byte on; n: what stands already. -/
def getB : Nat → Nat → List UInt8 → Option (Nat × Nat)
  | _, _, [] => none
  | i, n, c :: cs => if i = 9 then none else
      if c.toNat < 128 then (if c.toNat = 0 ∧ 0 < i then none else some (n + c.toNat % 128 * 128 ^ i, i + 1)) else getB (i + 1) (n + c.toNat % 128 * 128 ^ i) cs

theorem getB_bound : ∀ (cs : List UInt8) (i n m k : Nat), i ≤ 9 → n < 128 ^ i → getB i n cs = some (m, k) → m < 128 ^ k ∧ i < k ∧ k ≤ 9 ∧ k ≤ i + cs.length
  | [], i, n, m, k, _, _, h => by simp [getB] at h
  | c :: cs, i, n, m, k, hi, hn, h => by
    unfold getB at h
    have hb : n + c.toNat % 128 * 128 ^ i < 128 ^ (i + 1) := by
      rw [Nat.pow_succ]
      have h1 : c.toNat % 128 * 128 ^ i ≤ 127 * 128 ^ i := Nat.mul_le_mul_right _ (by omega)
      omega
    split at h
    · cases h
    · rename_i h9
      split at h
      · split at h
        · cases h
        · obtain ⟨rfl, rfl⟩ := Prod.mk.inj (Option.some.inj h)
          refine ⟨hb, by omega, by omega, by simp⟩
      · obtain ⟨a, b, c', d⟩ := getB_bound cs (i + 1) _ m k (by omega) hb h
        refine ⟨a, by omega, c', by simp; omega⟩

theorem ofNat_toNat {n : Nat} (h : n < 256) : (UInt8.ofNat n).toNat = n := UInt8.toNat_ofNat_of_lt' h

theorem numB_len : ∀ (n k : Nat), n < 128 ^ k → 0 < k → (numB n).length ≤ k
  | n, 0, _, h => by omega
  | n, k + 1, hn, _ => by
    by_cases h : n < 128
    · rw [numB_small h]; simp
    · rw [numB_step h]
      have hk : 0 < k := by
        rcases Nat.eq_zero_or_pos k with rfl | h'
        · simp at hn; omega
        · exact h'
      have : n / 128 < 128 ^ k := by rw [Nat.pow_succ] at hn; exact Nat.div_lt_of_lt_mul (by omega)
      have := numB_len (n / 128) k this hk
      simp; omega
theorem numB_len_lo : ∀ (k n : Nat), 128 ^ k ≤ n → k < (numB n).length
  | 0, n, h => by have := numB_ne n; cases hh : numB n with | nil => exact absurd hh this | cons _ _ => simp
  | k + 1, n, h => by
    have h1 : 128 ≤ n := by
      have : 128 ^ 1 ≤ 128 ^ (k + 1) := Nat.pow_le_pow_right (by omega) (by omega)
      omega
    rw [numB_step (by omega)]
    have : 128 ^ k ≤ n / 128 := by rw [Nat.le_div_iff_mul_le (by omega), ← Nat.pow_succ]; exact h
    have := numB_len_lo k (n / 128) this
    simp; omega
theorem numB_len9 {n : Nat} (h : n < 9223372036854775808) : (numB n).length ≤ 9 := numB_len n 9 h (by omega)

/-- What was told is read, whatever stands behind. -/
theorem getB_numB : ∀ (n i m : Nat) (rest : List UInt8), (numB n).length + i ≤ 9 → (0 < i → 0 < n) → getB i m (numB n ++ rest) = some (m + n * 128 ^ i, i + (numB n).length) := by
  intro n
  induction n using Nat.strongRecOn with
  | _ n ih =>
    intro i m rest hl hp
    by_cases h : n < 128
    · rw [numB_small h] at hl ⊢
      simp only [List.length_cons, List.length_nil] at hl
      simp only [List.cons_append, List.nil_append, getB, List.length_cons, List.length_nil]
      rw [ofNat_toNat (by omega), if_neg (by omega), if_pos h, if_neg (by omega), Nat.mod_eq_of_lt h]
    · rw [numB_step h] at hl ⊢
      simp only [List.length_cons] at hl
      simp only [List.cons_append, getB, List.length_cons]
      rw [ofNat_toNat (by omega), if_neg (by omega), if_neg (by omega)]
      rw [ih (n / 128) (by omega) (i + 1) _ rest (by omega) (by omega)]
      have e1 : (n % 128 + 128) % 128 = n % 128 := by omega
      have e2 : m + (n % 128 + 128) % 128 * 128 ^ i + n / 128 * 128 ^ (i + 1) = m + n * 128 ^ i := by
        rw [e1, Nat.pow_succ]
        have h3 : n / 128 * (128 ^ i * 128) = n / 128 * 128 * 128 ^ i := by rw [Nat.mul_comm (128 ^ i), Nat.mul_assoc]
        rw [h3, Nat.add_assoc, ← Nat.add_mul]
        congr 2
        omega
      rw [e2]
      congr 2
      omega

/-- What is read is told by just the bytes that were read. -/
theorem numB_getB : ∀ (cs : List UInt8) (i n m k : Nat), i ≤ 9 → n < 128 ^ i → getB i n cs = some (m, k) → (numB (m / 128 ^ i)) = cs.take (k - i) ∧ m % 128 ^ i = n ∧ (0 < i → 0 < m / 128 ^ i)
  | [], i, n, m, k, _, _, h => by simp [getB] at h
  | c :: cs, i, n, m, k, hi, hn, h => by
    unfold getB at h
    have hc : c.toNat < 256 := c.toNat_lt
    have hp : 0 < 128 ^ i := Nat.pow_pos (by omega)
    have hb : n + c.toNat % 128 * 128 ^ i < 128 ^ (i + 1) := by
      rw [Nat.pow_succ]
      have h1 : c.toNat % 128 * 128 ^ i ≤ 127 * 128 ^ i := Nat.mul_le_mul_right _ (by omega)
      omega
    have hd : (n + c.toNat % 128 * 128 ^ i) / 128 ^ i = c.toNat % 128 := by
      rw [Nat.add_mul_div_right _ _ hp, Nat.div_eq_of_lt hn]; omega
    have hmd : (n + c.toNat % 128 * 128 ^ i) % 128 ^ i = n := by rw [Nat.add_mul_mod_self_right, Nat.mod_eq_of_lt hn]
    split at h
    · cases h
    · rename_i h9
      split at h
      · rename_i hc1
        split at h
        · cases h
        · rename_i hz
          obtain ⟨rfl, rfl⟩ := Prod.mk.inj (Option.some.inj h)
          rw [hd, hmd, Nat.mod_eq_of_lt hc1, numB_small hc1]
          refine ⟨?_, rfl, fun h0 => by omega⟩
          rw [show i + 1 - i = 1 by omega]
          simp
      · rename_i hc1
        obtain ⟨a, b, d⟩ := numB_getB cs (i + 1) _ m k (by omega) hb h
        have hk := (getB_bound cs (i + 1) _ m k (by omega) hb h).2.1
        have e1 : m / 128 ^ (i + 1) = m / 128 ^ i / 128 := by rw [Nat.pow_succ, Nat.div_div_eq_div_mul]
        have e2 : m % 128 ^ i = n := by
          rw [← hmd, ← b, Nat.pow_succ, Nat.mod_mul_right_mod]
        have e3 : m / 128 ^ i % 128 = c.toNat % 128 := by
          rw [← hd, ← b, Nat.pow_succ, Nat.mod_mul_right_div_self]
        have hpos := d (by omega)
        rw [e1] at a hpos
        have hge : ¬ m / 128 ^ i < 128 := by omega
        refine ⟨?_, e2, fun _ => by omega⟩
        rw [numB_step hge, a, e3, show k - i = (k - (i + 1)) + 1 by omega, List.take_succ_cons]
        congr 1
        apply UInt8.toNat_inj.1
        rw [ofNat_toNat (by omega)]
        omega

end Lec
