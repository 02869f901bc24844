/- Bits in words of 64, and how many ones stand ahead: plain. No program stands here. -/
import Derived.Test.YtfiioobdknbacaaOnesL
set_option linter.unusedVariables false
set_option linter.unusedSimpArgs false
namespace Lec
/-- How many of the first i bits are ones. -/
def rankB (bs : List Bool) (i : Nat) : Nat := (bs.take i).count true
/-- The 64 bits from 64 j on. -/
def chunk (bs : List Bool) (j : Nat) : List Bool := (bs.drop (64 * j)).take 64
def nW (n : Nat) : Nat := (n + 63) / 64
def wordsL (bs : List Bool) : List Nat := (List.range (nW bs.length)).map fun j => ofB (chunk bs j)
def onesL (bs : List Bool) (m : Nat) : List Nat := (List.range m).map fun j => rankB bs (64 * j)
theorem wordsL_len (bs : List Bool) : (wordsL bs).length = nW bs.length := by simp [wordsL]
theorem onesL_len (bs : List Bool) (m : Nat) : (onesL bs m).length = m := by simp [onesL]
theorem wordsL_at (bs : List Bool) (j : Nat) (h : j < (wordsL bs).length) : (wordsL bs)[j] = ofB (chunk bs j) := by simp [wordsL]
theorem onesL_at (bs : List Bool) (m j : Nat) (h : j < (onesL bs m).length) : (onesL bs m)[j] = rankB bs (64 * j) := by simp [onesL]
theorem onesL_succ (bs : List Bool) (m : Nat) : onesL bs (m + 1) = onesL bs m ++ [rankB bs (64 * m)] := by simp [onesL, List.range_succ]
theorem ofB_pad : ∀ (l : List Bool) (n : Nat), ofB (l ++ List.replicate n false) = ofB l
  | [], 0 => rfl
  | [], n + 1 => by
    have := ofB_pad [] n
    simp only [List.nil_append] at this
    simp only [List.nil_append, List.replicate_succ, ofB, this]; decide
  | b :: l, n => by simp only [List.cons_append, ofB, ofB_pad l n]
theorem count_pad (l : List Bool) (n : Nat) : (l ++ List.replicate n false).count true = l.count true := by
  rw [List.count_append, List.count_replicate]; simp
theorem ofB_mod : ∀ (l : List Bool) (r : Nat), ofB l % 2 ^ r = ofB (l.take r)
  | l, 0 => by simp [ofB, Nat.mod_one]
  | [], r + 1 => by simp [ofB]
  | b :: l, r + 1 => by
    have ih := ofB_mod l r
    have hb : b.toNat < 2 := by cases b <;> decide
    simp only [List.take_succ_cons, ofB, ← ih]
    rw [Nat.pow_succ, Nat.mul_comm (2 ^ r) 2, Nat.mod_mul, Nat.add_mul_mod_self_left, Nat.mod_eq_of_lt hb, Nat.add_mul_div_left _ _ (by decide), Nat.div_eq_of_lt hb, Nat.zero_add]
theorem ofB_bit : ∀ (l : List Bool) (r : Nat), ofB l / 2 ^ r % 2 = (l.getD r false).toNat
  | [], r => by simp [ofB]
  | b :: l, 0 => by
    have hb : b.toNat < 2 := by cases b <;> decide
    simp only [ofB, Nat.pow_zero, Nat.div_one, List.getD_cons_zero]; omega
  | b :: l, r + 1 => by
    have ih := ofB_bit l r
    have hb : b.toNat < 2 := by cases b <;> decide
    rw [List.getD_cons_succ, ← ih]
    simp only [ofB]
    rw [Nat.pow_succ, Nat.mul_comm (2 ^ r) 2, ← Nat.div_div_eq_div_mul, Nat.add_mul_div_left _ _ (by decide), Nat.div_eq_of_lt hb, Nat.zero_add]
theorem ofB_snoc : ∀ (l : List Bool) (b : Bool), ofB (l ++ [b]) = ofB l + b.toNat * 2 ^ l.length
  | [], b => by simp [ofB]
  | a :: l, b => by
    have ih := ofB_snoc l b
    simp only [List.cons_append, ofB, ih, List.length_cons, Nat.pow_succ]
    rw [Nat.mul_add, ← Nat.mul_assoc, Nat.mul_comm 2 (b.toNat), Nat.mul_assoc, Nat.mul_comm 2 (2 ^ l.length)]; omega
theorem ofB_or (l : List Bool) : ofB l ||| 2 ^ l.length = ofB (l ++ [true]) := by
  rw [ofB_snoc]
  have h := Nat.two_pow_add_eq_or_of_lt (ofB_lt l) 1
  rw [Nat.or_comm, ← Nat.mul_one (2 ^ l.length), ← h]
  simp; omega
theorem ofB_snoc_false (l : List Bool) : ofB (l ++ [false]) = ofB l := by rw [ofB_snoc]; simp
theorem chunk_len (bs : List Bool) (j : Nat) : (chunk bs j).length ≤ 64 := by unfold chunk; rw [List.length_take]; omega
theorem chunk_lt (bs : List Bool) (j : Nat) : ofB (chunk bs j) < 18446744073709551616 := by
  have h := ofB_lt (chunk bs j)
  have := Nat.pow_le_pow_right (show 2 > 0 by decide) (chunk_len bs j)
  exact Nat.lt_of_lt_of_le h this
theorem rank_split (bs : List Bool) (q r : Nat) (hr : r ≤ 64) : rankB bs (64 * q + r) = rankB bs (64 * q) + ((chunk bs q).take r).count true := by
  unfold rankB chunk
  rw [List.take_add, List.count_append, List.take_take, Nat.min_eq_left hr]
theorem rank_chunk (bs : List Bool) (j : Nat) : rankB bs (64 * (j + 1)) = rankB bs (64 * j) + (chunk bs j).count true := by
  rw [show 64 * (j + 1) = 64 * j + 64 by omega, rank_split bs j 64 (by omega)]
  unfold chunk; rw [List.take_take]; simp
theorem rank_le (bs : List Bool) (i : Nat) : rankB bs i ≤ i := by
  unfold rankB
  exact Nat.le_trans List.count_le_length (by rw [List.length_take]; omega)
theorem rank_all (bs : List Bool) (i : Nat) (h : bs.length ≤ i) : rankB bs i = bs.count true := by unfold rankB; rw [List.take_of_length_le h]
theorem rank_succ (bs : List Bool) (i : Nat) (h : i < bs.length) : rankB bs (i + 1) = rankB bs i + bs[i].toNat := by
  unfold rankB
  rw [List.take_succ_eq_append_getElem h, List.count_append]
  cases bs[i] <;> simp
theorem chunk_bit (bs : List Bool) (i : Nat) (h : i < bs.length) : (chunk bs (i / 64)).getD (i % 64) false = bs[i] := by
  unfold chunk
  rw [List.getD_eq_getElem?_getD, List.getElem?_take, if_pos (by omega), List.getElem?_drop, show 64 * (i / 64) + i % 64 = i by omega, List.getElem?_eq_getElem h]; rfl
/-- Words as they are before a bit is put. -/
def wordsUp (bs : List Bool) : List Nat := if bs.length % 64 = 0 then wordsL bs ++ [0] else wordsL bs
theorem wordsUp_len (bs : List Bool) : (wordsUp bs).length = bs.length / 64 + 1 := by
  unfold wordsUp
  split
  · rw [List.length_append, wordsL_len]; simp [nW]; omega
  · rw [wordsL_len]; unfold nW; omega
theorem wordsUp_at (bs : List Bool) (j : Nat) (h : j < (wordsUp bs).length) : (wordsUp bs)[j] = ofB (chunk bs j) := by
  have hl := wordsUp_len bs
  have hlt : j < bs.length / 64 + 1 := by omega
  unfold wordsUp at h ⊢
  split
  · rename_i h0
    by_cases hj : j < (wordsL bs).length
    · rw [List.getElem_append_left hj, wordsL_at]
    · rw [List.getElem_append_right (by omega)]
      have hj2 : bs.length ≤ 64 * j := by rw [wordsL_len] at hj; unfold nW at hj; omega
      have : chunk bs j = [] := by unfold chunk; rw [List.drop_eq_nil_of_le hj2]; rfl
      rw [this]; simp [ofB]
  · rw [wordsL_at]
theorem chunk_snoc (bs : List Bool) (b : Bool) (j : Nat) : chunk (bs ++ [b]) j = if j = bs.length / 64 then chunk bs j ++ [b] else if j < bs.length / 64 then chunk bs j else [] := by
  unfold chunk
  by_cases h1 : j = bs.length / 64
  · rw [if_pos h1, List.drop_append_of_le_length (by omega), List.take_of_length_le (by simp; omega), List.take_of_length_le (by simp; omega)]
  · rw [if_neg h1]
    by_cases h2 : j < bs.length / 64
    · rw [if_pos h2, List.drop_append_of_le_length (by omega), List.take_append_of_le_length (by simp; omega)]
    · rw [if_neg h2, List.drop_eq_nil_of_le (by simp; omega)]; rfl
theorem wordsL_snoc (bs : List Bool) (b : Bool) : wordsL (bs ++ [b]) = (wordsUp bs).set (bs.length / 64) (ofB (chunk bs (bs.length / 64) ++ [b])) := by
  apply List.ext_getElem
  · rw [wordsL_len, List.length_set, wordsUp_len]; simp [nW]; omega
  · intro i h1 h2
    rw [wordsL_at, chunk_snoc, List.getElem_set]
    rw [wordsL_len] at h1
    simp [nW] at h1
    by_cases hi : i = bs.length / 64
    · subst hi; simp
    · rw [if_neg hi, if_pos (show i < bs.length / 64 by omega), if_neg (show ¬ bs.length / 64 = i by omega), wordsUp_at]
theorem chunk_last_len (bs : List Bool) : (chunk bs (bs.length / 64)).length = bs.length % 64 := by
  unfold chunk; rw [List.length_take, List.length_drop]; omega
end Lec
