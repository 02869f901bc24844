/- Several texts in one. Counting the ones of 64 bits, by halves: plain. No program stands here. | The walk of math/bits.OnesCount64. | Bits in words of 64, and how many ones stand ahead: plain. No program stands here. | A vector of bits in memory; the walks of its methods. | The walks of a vector's Len, Get, Rank. | The walk of a vector's put. | The walk of bits.New. -/
import Derived.Test.YtjpcfpffbicpnaaPackBas
import Derived.Test.YtjpcfpffbicpnaaProg
section
set_option linter.unusedVariables false
set_option linter.unusedSimpArgs false
namespace Lec
/-- Bits, the lowest first, as a number. -/
def ofB : List Bool → Nat
  | [] => 0
  | b :: l => b.toNat + 2 * ofB l
theorem ofB_lt : ∀ l : List Bool, ofB l < 2 ^ l.length
  | [] => by decide
  | b :: l => by
    have := ofB_lt l
    have hb : b.toNat ≤ 1 := by cases b <;> decide
    simp only [ofB, List.length_cons, Nat.pow_succ]; omega
/-- Digits, the lowest first, of k bits each. -/
def valD (k : Nat) : List Nat → Nat
  | [] => 0
  | d :: ds => d + 2 ^ k * valD k ds
theorem and_low (A m y k : Nat) (hm : m < 2 ^ k) : A &&& (m + 2 ^ k * y) = (A % 2 ^ k &&& m) + 2 ^ k * (A / 2 ^ k &&& y) := by
  have h1 : (m + 2 ^ k * y) % 2 ^ k = m := by rw [Nat.add_mul_mod_self_left, Nat.mod_eq_of_lt hm]
  have h2 : (m + 2 ^ k * y) / 2 ^ k = y := by rw [Nat.add_mul_div_left _ _ (Nat.two_pow_pos k), Nat.div_eq_of_lt hm, Nat.zero_add]
  have h := Nat.mod_add_div (A &&& (m + 2 ^ k * y)) (2 ^ k)
  rw [Nat.and_mod_two_pow, Nat.and_div_two_pow, h1, h2] at h
  exact h.symm
/-- A mask on digits that are moved down by s bits. -/
theorem mask_digits (k s m : Nat) (hs : s ≤ k) (hm : m < 2 ^ (k - s)) : ∀ ds : List Nat, (∀ d ∈ ds, d < 2 ^ k) → (valD k ds / 2 ^ s) &&& valD k (List.replicate ds.length m) = valD k (ds.map fun d => (d / 2 ^ s) &&& m)
  | [], _ => by simp [valD]
  | d :: ds, h => by
    have ih := mask_digits k s m hs hm ds (fun x hx => h x (List.mem_cons_of_mem _ hx))
    have hd : d < 2 ^ k := h d (List.mem_cons_self)
    have hk : 2 ^ k = 2 ^ s * 2 ^ (k - s) := by rw [← Nat.pow_add]; congr 1; omega
    have hmk : m < 2 ^ k := Nat.lt_of_lt_of_le hm (Nat.pow_le_pow_right (by omega) (by omega))
    have hds : d / 2 ^ s < 2 ^ (k - s) := by rw [Nat.div_lt_iff_lt_mul (Nat.two_pow_pos s), Nat.mul_comm, ← hk]; exact hd
    have hA : (d + 2 ^ k * valD k ds) / 2 ^ s = d / 2 ^ s + 2 ^ (k - s) * valD k ds := by
      rw [hk, Nat.mul_assoc, Nat.add_mul_div_left _ _ (Nat.two_pow_pos s)]
    have hhi : (d + 2 ^ k * valD k ds) / 2 ^ s / 2 ^ k = valD k ds / 2 ^ s := by
      rw [Nat.div_div_eq_div_mul, Nat.mul_comm (2 ^ s), ← Nat.div_div_eq_div_mul, Nat.add_mul_div_left _ _ (Nat.two_pow_pos k), Nat.div_eq_of_lt hd, Nat.zero_add]
    have hlo : ((d + 2 ^ k * valD k ds) / 2 ^ s % 2 ^ k) &&& m = (d / 2 ^ s) &&& m := by
      apply Nat.eq_of_testBit_eq
      intro i
      rw [Nat.testBit_and, Nat.testBit_and]
      by_cases hi : i < k - s
      · rw [Nat.testBit_mod_two_pow, hA, show d / 2 ^ s + 2 ^ (k - s) * valD k ds = 2 ^ (k - s) * valD k ds + d / 2 ^ s from Nat.add_comm _ _, Nat.testBit_two_pow_mul_add _ hds]
        simp [hi, show i < k by omega]
      · have : m.testBit i = false := Nat.testBit_lt_two_pow (Nat.lt_of_lt_of_le hm (Nat.pow_le_pow_right (by omega) (by omega)))
        rw [this, Bool.and_false, Bool.and_false]
    show (d + 2 ^ k * valD k ds) / 2 ^ s &&& (m + 2 ^ k * valD k (List.replicate ds.length m)) = ((d / 2 ^ s) &&& m) + 2 ^ k * valD k (ds.map _)
    rw [and_low _ _ _ _ hmk, hlo, hhi, ih]
theorem valD_add (k : Nat) : ∀ (f g : Nat → Nat) (ds : List Nat), valD k (ds.map f) + valD k (ds.map g) = valD k (ds.map fun d => f d + g d)
  | f, g, [] => rfl
  | f, g, d :: ds => by
    have ih := valD_add k f g ds
    simp only [List.map_cons, valD]
    rw [← ih, Nat.mul_add]; omega
/-- Two digits at a time. -/
def pairD (k : Nat) : List Nat → List Nat
  | a :: b :: ds => (a + 2 ^ k * b) :: pairD k ds
  | l => l
theorem valD_pair (k : Nat) : ∀ (n : Nat) (ds : List Nat), ds.length = 2 * n → valD (2 * k) (pairD k ds) = valD k ds
  | 0, [], _ => rfl
  | n + 1, a :: b :: ds, h => by
    have ih := valD_pair k n ds (by simp at h; omega)
    simp only [pairD, valD]
    rw [ih, Nat.mul_add, ← Nat.mul_assoc, ← Nat.pow_add, Nat.add_assoc, show k + k = 2 * k by omega]
theorem pairD_len (k : Nat) : ∀ (n : Nat) (ds : List Nat), ds.length = 2 * n → (pairD k ds).length = n
  | 0, [], _ => rfl
  | n + 1, a :: b :: ds, h => by simp only [pairD, List.length_cons]; rw [pairD_len k n ds (by simp at h; omega)]
theorem pair_digits (k B : Nat) : ∀ (n : Nat) (ds : List Nat), ds.length = 2 * n → (∀ d ∈ ds, d ≤ B) → ∀ d ∈ pairD k ds, ∃ a b, a ≤ B ∧ b ≤ B ∧ d = a + 2 ^ k * b
  | 0, [], _, _ => fun d hd => by simp [pairD] at hd
  | n + 1, a :: b :: ds, h, hB => fun d hd => by
    simp only [pairD, List.mem_cons] at hd
    rcases hd with rfl | hd
    · exact ⟨a, b, hB a (by simp), hB b (by simp), rfl⟩
    · exact pair_digits k B n ds (by simp at h; omega) (fun x hx => hB x (by simp [hx])) d hd
theorem pair_sum (k B : Nat) (f : Nat → Nat) (hf : ∀ a b, a ≤ B → b ≤ B → f (a + 2 ^ k * b) = a + b) : ∀ (n : Nat) (ds : List Nat), ds.length = 2 * n → (∀ d ∈ ds, d ≤ B) → ((pairD k ds).map f).sum = ds.sum
  | 0, [], _, _ => rfl
  | n + 1, a :: b :: ds, h, hB => by
    have ih := pair_sum k B f hf n ds (by simp at h; omega) (fun x hx => hB x (by simp [hx]))
    simp only [pairD, List.map_cons, List.sum_cons]
    rw [ih, hf a b (hB a (by simp)) (hB b (by simp))]; omega
theorem map_le {f : Nat → Nat} {P : List Nat} {k B : Nat} (hf : ∀ a b, a ≤ B → b ≤ B → f (a + 2 ^ k * b) = a + b) (hP : ∀ d ∈ P, ∃ a b, a ≤ B ∧ b ≤ B ∧ d = a + 2 ^ k * b) : ∀ d ∈ P.map f, d ≤ 2 * B := fun d hd => by
  obtain ⟨x, hx, rfl⟩ := List.mem_map.1 hd
  obtain ⟨a, b, ha, hb, rfl⟩ := hP x hx
  rw [hf a b ha hb]; omega
theorem ofB_val : ∀ l : List Bool, ofB l = valD 1 (l.map Bool.toNat)
  | [] => rfl
  | b :: l => by simp only [ofB, List.map_cons, valD]; rw [ofB_val l]
theorem count_sum : ∀ l : List Bool, l.count true = (l.map Bool.toNat).sum
  | [] => rfl
  | b :: l => by
    rw [List.count_cons, count_sum l, List.map_cons, List.sum_cons]
    cases b
    · simp
    · simp [Nat.add_comm]
theorem and_15 (x : Nat) : x &&& 15 = x % 16 := Nat.and_two_pow_sub_one_eq_mod x 4
theorem and_3 (x : Nat) : x &&& 3 = x % 4 := Nat.and_two_pow_sub_one_eq_mod x 2
theorem and_1 (x : Nat) : x &&& 1 = x % 2 := Nat.and_two_pow_sub_one_eq_mod x 1
theorem valD_mod16 : ∀ ds : List Nat, (∀ d ∈ ds, d % 16 ≤ 4 ∧ d ≤ 68) → valD 8 ds % 16 ≤ 4
  | [], _ => by decide
  | d :: ds, h => by
    have := (h d (by simp)).1
    simp only [valD]; omega
theorem step3 : ∀ ds : List Nat, (∀ d ∈ ds, d % 16 ≤ 4 ∧ d ≤ 68) → (valD 8 ds / 16 + valD 8 ds) &&& valD 8 (List.replicate ds.length 15) = valD 8 (ds.map fun d => (d / 16 + d) % 16)
  | [], _ => by simp [valD]
  | d :: ds, h => by
    have ih := step3 ds (fun x hx => h x (List.mem_cons_of_mem _ hx))
    have hv := valD_mod16 ds (fun x hx => h x (List.mem_cons_of_mem _ hx))
    have hd := (h d (by simp)).2
    show ((d + 2 ^ 8 * valD 8 ds) / 16 + (d + 2 ^ 8 * valD 8 ds)) &&& (15 + 2 ^ 8 * valD 8 (List.replicate ds.length 15)) = (d / 16 + d) % 16 + 2 ^ 8 * valD 8 (ds.map _)
    rw [and_low _ _ _ _ (by decide), and_15]
    have hlo : ((d + 2 ^ 8 * valD 8 ds) / 16 + (d + 2 ^ 8 * valD 8 ds)) % 2 ^ 8 % 16 = (d / 16 + d) % 16 := by omega
    have hhi : ((d + 2 ^ 8 * valD 8 ds) / 16 + (d + 2 ^ 8 * valD 8 ds)) / 2 ^ 8 = valD 8 ds / 16 + valD 8 ds := by omega
    rw [hlo, hhi, ih]
theorem div_of (x a z m : Nat) (h : x = a + m * z) (ha : a < m) : x / m = z := by
  rw [h, Nat.add_mul_div_left _ _ (by omega), Nat.div_eq_of_lt ha, Nat.zero_add]
theorem mod_of (x a z m : Nat) (h : x = a + m * z) (ha : a < m) : x % m = a := by
  rw [h, Nat.add_mul_mod_self_left, Nat.mod_eq_of_lt ha]
theorem f3q (c0 c1 c2 c3 c4 c5 c6 c7 : Nat) (h0 : c0 ≤ 8) : (c0 + 256 * c1 + 65536 * c2 + 16777216 * c3 + 4294967296 * c4 + 1099511627776 * c5 + 281474976710656 * c6 + 72057594037927936 * c7) / 256 = c1 + 256 * c2 + 65536 * c3 + 16777216 * c4 + 4294967296 * c5 + 1099511627776 * c6 + 281474976710656 * c7 :=
  div_of _ c0 _ 256 (by omega) (by omega)
theorem f3s (c0 c1 c2 c3 c4 c5 c6 c7 : Nat) : (c0 + 256 * c1 + 65536 * c2 + 16777216 * c3 + 4294967296 * c4 + 1099511627776 * c5 + 281474976710656 * c6 + 72057594037927936 * c7) + (c1 + 256 * c2 + 65536 * c3 + 16777216 * c4 + 4294967296 * c5 + 1099511627776 * c6 + 281474976710656 * c7) = (c0 + c1) + 256 * (c1 + c2) + 65536 * (c2 + c3) + 16777216 * (c3 + c4) + 4294967296 * (c4 + c5) + 1099511627776 * (c5 + c6) + 281474976710656 * (c6 + c7) + 72057594037927936 * c7 := by omega
theorem f4q (c0 c1 c2 c3 c4 c5 c6 c7 : Nat) (h0 : c0 ≤ 8) (h1 : c1 ≤ 8) (h2 : c2 ≤ 8) : ((c0 + c1) + 256 * (c1 + c2) + 65536 * (c2 + c3) + 16777216 * (c3 + c4) + 4294967296 * (c4 + c5) + 1099511627776 * (c5 + c6) + 281474976710656 * (c6 + c7) + 72057594037927936 * c7) / 65536 = (c2 + c3) + 256 * (c3 + c4) + 65536 * (c4 + c5) + 16777216 * (c5 + c6) + 4294967296 * (c6 + c7) + 1099511627776 * c7 :=
  div_of _ ((c0 + c1) + 256 * (c1 + c2)) _ 65536 (by omega) (by omega)
theorem f4s (c0 c1 c2 c3 c4 c5 c6 c7 : Nat) : ((c0 + c1) + 256 * (c1 + c2) + 65536 * (c2 + c3) + 16777216 * (c3 + c4) + 4294967296 * (c4 + c5) + 1099511627776 * (c5 + c6) + 281474976710656 * (c6 + c7) + 72057594037927936 * c7) + ((c2 + c3) + 256 * (c3 + c4) + 65536 * (c4 + c5) + 16777216 * (c5 + c6) + 4294967296 * (c6 + c7) + 1099511627776 * c7) = (c0 + c1 + c2 + c3) + 256 * (c1 + c2 + c3 + c4) + 65536 * (c2 + c3 + c4 + c5) + 16777216 * (c3 + c4 + c5 + c6) + 4294967296 * (c4 + c5 + c6 + c7) + 1099511627776 * (c5 + c6 + c7) + 281474976710656 * (c6 + c7) + 72057594037927936 * c7 := by omega
theorem f5q (c0 c1 c2 c3 c4 c5 c6 c7 : Nat) (h0 : c0 ≤ 8) (h1 : c1 ≤ 8) (h2 : c2 ≤ 8) (h3 : c3 ≤ 8) (h4 : c4 ≤ 8) (h5 : c5 ≤ 8) (h6 : c6 ≤ 8) : ((c0 + c1 + c2 + c3) + 256 * (c1 + c2 + c3 + c4) + 65536 * (c2 + c3 + c4 + c5) + 16777216 * (c3 + c4 + c5 + c6) + 4294967296 * (c4 + c5 + c6 + c7) + 1099511627776 * (c5 + c6 + c7) + 281474976710656 * (c6 + c7) + 72057594037927936 * c7) / 4294967296 = (c4 + c5 + c6 + c7) + 256 * (c5 + c6 + c7) + 65536 * (c6 + c7) + 16777216 * c7 :=
  div_of _ ((c0 + c1 + c2 + c3) + 256 * (c1 + c2 + c3 + c4) + 65536 * (c2 + c3 + c4 + c5) + 16777216 * (c3 + c4 + c5 + c6)) _ 4294967296 (by omega) (by omega)
theorem f5s (c0 c1 c2 c3 c4 c5 c6 c7 : Nat) : ((c0 + c1 + c2 + c3) + 256 * (c1 + c2 + c3 + c4) + 65536 * (c2 + c3 + c4 + c5) + 16777216 * (c3 + c4 + c5 + c6) + 4294967296 * (c4 + c5 + c6 + c7) + 1099511627776 * (c5 + c6 + c7) + 281474976710656 * (c6 + c7) + 72057594037927936 * c7) + ((c4 + c5 + c6 + c7) + 256 * (c5 + c6 + c7) + 65536 * (c6 + c7) + 16777216 * c7) = (c0 + c1 + c2 + c3 + c4 + c5 + c6 + c7) + 128 * (2 * (c1 + c2 + c3 + c4 + c5 + c6 + c7) + 512 * (c2 + c3 + c4 + c5 + c6 + c7) + 131072 * (c3 + c4 + c5 + c6 + c7) + 33554432 * (c4 + c5 + c6 + c7) + 8589934592 * (c5 + c6 + c7) + 2199023255552 * (c6 + c7) + 562949953421312 * c7) := by omega
theorem f6m (c0 c1 c2 c3 c4 c5 c6 c7 : Nat) (h0 : c0 ≤ 8) (h1 : c1 ≤ 8) (h2 : c2 ≤ 8) (h3 : c3 ≤ 8) (h4 : c4 ≤ 8) (h5 : c5 ≤ 8) (h6 : c6 ≤ 8) (h7 : c7 ≤ 8) : ((c0 + c1 + c2 + c3 + c4 + c5 + c6 + c7) + 128 * (2 * (c1 + c2 + c3 + c4 + c5 + c6 + c7) + 512 * (c2 + c3 + c4 + c5 + c6 + c7) + 131072 * (c3 + c4 + c5 + c6 + c7) + 33554432 * (c4 + c5 + c6 + c7) + 8589934592 * (c5 + c6 + c7) + 2199023255552 * (c6 + c7) + 562949953421312 * c7)) % 128 = c0 + c1 + c2 + c3 + c4 + c5 + c6 + c7 := mod_of _ _ _ 128 rfl (by omega)
theorem b3 (c0 c1 c2 c3 c4 c5 c6 c7 : Nat) (h0 : c0 ≤ 8) (h1 : c1 ≤ 8) (h2 : c2 ≤ 8) (h3 : c3 ≤ 8) (h4 : c4 ≤ 8) (h5 : c5 ≤ 8) (h6 : c6 ≤ 8) (h7 : c7 ≤ 8) : c0 + 256 * c1 + 65536 * c2 + 16777216 * c3 + 4294967296 * c4 + 1099511627776 * c5 + 281474976710656 * c6 + 72057594037927936 * c7 < 9223372036854775808 := by omega
theorem b4 (c0 c1 c2 c3 c4 c5 c6 c7 : Nat) (h0 : c0 ≤ 8) (h1 : c1 ≤ 8) (h2 : c2 ≤ 8) (h3 : c3 ≤ 8) (h4 : c4 ≤ 8) (h5 : c5 ≤ 8) (h6 : c6 ≤ 8) (h7 : c7 ≤ 8) : (c0 + c1) + 256 * (c1 + c2) + 65536 * (c2 + c3) + 16777216 * (c3 + c4) + 4294967296 * (c4 + c5) + 1099511627776 * (c5 + c6) + 281474976710656 * (c6 + c7) + 72057594037927936 * c7 < 9223372036854775808 := by omega
theorem b5 (c0 c1 c2 c3 c4 c5 c6 c7 : Nat) (h0 : c0 ≤ 8) (h1 : c1 ≤ 8) (h2 : c2 ≤ 8) (h3 : c3 ≤ 8) (h4 : c4 ≤ 8) (h5 : c5 ≤ 8) (h6 : c6 ≤ 8) (h7 : c7 ≤ 8) : (c0 + c1 + c2 + c3) + 256 * (c1 + c2 + c3 + c4) + 65536 * (c2 + c3 + c4 + c5) + 16777216 * (c3 + c4 + c5 + c6) + 4294967296 * (c4 + c5 + c6 + c7) + 1099511627776 * (c5 + c6 + c7) + 281474976710656 * (c6 + c7) + 72057594037927936 * c7 < 9223372036854775808 := by omega
theorem b6 (c0 c1 c2 c3 c4 c5 c6 c7 : Nat) (h0 : c0 ≤ 8) (h1 : c1 ≤ 8) (h2 : c2 ≤ 8) (h3 : c3 ≤ 8) (h4 : c4 ≤ 8) (h5 : c5 ≤ 8) (h6 : c6 ≤ 8) (h7 : c7 ≤ 8) : (c0 + c1 + c2 + c3 + c4 + c5 + c6 + c7) + 128 * (2 * (c1 + c2 + c3 + c4 + c5 + c6 + c7) + 512 * (c2 + c3 + c4 + c5 + c6 + c7) + 131072 * (c3 + c4 + c5 + c6 + c7) + 33554432 * (c4 + c5 + c6 + c7) + 8589934592 * (c5 + c6 + c7) + 2199023255552 * (c6 + c7) + 562949953421312 * c7) < 9223372036854775808 := by omega
theorem fold8 (c0 c1 c2 c3 c4 c5 c6 c7 : Nat) (h0 : c0 ≤ 8) (h1 : c1 ≤ 8) (h2 : c2 ≤ 8) (h3 : c3 ≤ 8) (h4 : c4 ≤ 8) (h5 : c5 ≤ 8) (h6 : c6 ≤ 8) (h7 : c7 ≤ 8) (x3 x4 x5 x6 : Nat) (e3 : x3 = c0 + 256 * c1 + 65536 * c2 + 16777216 * c3 + 4294967296 * c4 + 1099511627776 * c5 + 281474976710656 * c6 + 72057594037927936 * c7) (e4 : x4 = x3 + x3 / 256) (e5 : x5 = x4 + x4 / 65536) (e6 : x6 = x5 + x5 / 4294967296) :
    x6 % 128 = c0 + c1 + c2 + c3 + c4 + c5 + c6 + c7 ∧ x3 < 9223372036854775808 ∧ x4 < 9223372036854775808 ∧ x5 < 9223372036854775808 ∧ x6 < 9223372036854775808 := by
  rw [e3, f3q c0 c1 c2 c3 c4 c5 c6 c7 h0, f3s] at e4
  rw [e4, f4q c0 c1 c2 c3 c4 c5 c6 c7 h0 h1 h2, f4s] at e5
  rw [e5, f5q c0 c1 c2 c3 c4 c5 c6 c7 h0 h1 h2 h3 h4 h5 h6, f5s] at e6
  rw [e6, e5, e4, e3]
  exact ⟨f6m _ _ _ _ _ _ _ _ h0 h1 h2 h3 h4 h5 h6 h7, b3 _ _ _ _ _ _ _ _ h0 h1 h2 h3 h4 h5 h6 h7, b4 _ _ _ _ _ _ _ _ h0 h1 h2 h3 h4 h5 h6 h7, b5 _ _ _ _ _ _ _ _ h0 h1 h2 h3 h4 h5 h6 h7, b6 _ _ _ _ _ _ _ _ h0 h1 h2 h3 h4 h5 h6 h7⟩
theorem valD_le (k B : Nat) : ∀ ds : List Nat, (∀ d ∈ ds, d ≤ B) → valD k ds ≤ valD k (List.replicate ds.length B)
  | [], _ => Nat.le_refl _
  | d :: ds, h => by
    have ih := valD_le k B ds (fun x hx => h x (List.mem_cons_of_mem _ hx))
    have := h d (by simp)
    simp only [List.length_cons, List.replicate_succ, valD]
    exact Nat.add_le_add this (Nat.mul_le_mul_left _ ih)
theorem eight {ds : List Nat} (h : ds.length = 8) : ∃ c0 c1 c2 c3 c4 c5 c6 c7, ds = [c0, c1, c2, c3, c4, c5, c6, c7] := by
  match ds, h with
  | [c0, c1, c2, c3, c4, c5, c6, c7], _ => exact ⟨c0, c1, c2, c3, c4, c5, c6, c7, rfl⟩
theorem half16 (x : Nat) (h : x ≤ 4919131752989213764) : x / 16 + x < 9223372036854775808 := by omega
theorem e3x (c0 c1 c2 c3 c4 c5 c6 c7 : Nat) : valD 8 [c0, c1, c2, c3, c4, c5, c6, c7] = c0 + 256 * c1 + 65536 * c2 + 16777216 * c3 + 4294967296 * c4 + 1099511627776 * c5 + 281474976710656 * c6 + 72057594037927936 * c7 := by simp only [valD]; omega
/-- The ones of 64 bits. -/
theorem swar (l : List Bool) (hl : l.length = 64) (x1 x2 x3 x4 x5 x6 : Nat)
    (e1 : x1 = (ofB l / 2 &&& 6148914691236517205) + (ofB l &&& 6148914691236517205)) (e2 : x2 = (x1 / 4 &&& 3689348814741910323) + (x1 &&& 3689348814741910323))
    (e3 : x3 = (x2 / 16 + x2) &&& 1085102592571150095) (e4 : x4 = x3 + x3 / 256) (e5 : x5 = x4 + x4 / 65536) (e6 : x6 = x5 + x5 / 4294967296) :
    x6 % 128 = l.count true ∧ x1 < 18446744073709551616 ∧ x2 < 9223372036854775808 ∧ x2 / 16 + x2 < 9223372036854775808 ∧ x3 < 9223372036854775808 ∧ x4 < 9223372036854775808 ∧ x5 < 9223372036854775808 ∧ x6 < 9223372036854775808 := by
  have hb : ∀ d ∈ l.map Bool.toNat, d ≤ 1 := fun d hd => by
    obtain ⟨b, _, rfl⟩ := List.mem_map.1 hd; cases b <;> decide
  have f1 : ∀ a b, a ≤ 1 → b ≤ 1 → (fun d : Nat => (d / 2 ^ 1 &&& 1) + (d / 2 ^ 0 &&& 1)) (a + 2 ^ 1 * b) = a + b := by
    intro a b ha hb; simp only [and_1]; omega
  have f2 : ∀ a b, a ≤ 2 → b ≤ 2 → (fun d : Nat => (d / 2 ^ 2 &&& 3) + (d / 2 ^ 0 &&& 3)) (a + 2 ^ 2 * b) = a + b := by
    intro a b ha hb; simp only [and_3]; omega
  have f3 : ∀ a b, a ≤ 4 → b ≤ 4 → (fun d : Nat => (d / 16 + d) % 16) (a + 2 ^ 4 * b) = a + b := by
    intro a b ha hb; simp only; omega
  have l0 : (l.map Bool.toNat).length = 2 * 32 := by rw [List.length_map, hl]
  have p1 := pair_digits 1 1 32 _ l0 hb
  have s1 := pair_sum 1 1 (fun d : Nat => (d / 2 ^ 1 &&& 1) + (d / 2 ^ 0 &&& 1)) f1 32 _ l0 hb
  have n1 := pairD_len 1 32 _ l0
  have m1 := map_le (f := (fun d : Nat => (d / 2 ^ 1 &&& 1) + (d / 2 ^ 0 &&& 1))) f1 p1
  have v1 := valD_pair 1 32 _ l0
  have l1 : ((pairD 1 (l.map Bool.toNat)).map fun d : Nat => (d / 2 ^ 1 &&& 1) + (d / 2 ^ 0 &&& 1)).length = 2 * 16 := by rw [List.length_map, n1]
  have q1 : x1 = valD 2 ((pairD 1 (l.map Bool.toNat)).map fun d : Nat => (d / 2 ^ 1 &&& 1) + (d / 2 ^ 0 &&& 1)) := by
    have hlt : ∀ d ∈ pairD 1 (l.map Bool.toNat), d < 2 ^ 2 := fun d hd => by obtain ⟨a, b, ha, hb, rfl⟩ := p1 d hd; omega
    have a1 := mask_digits 2 1 1 (by omega) (by decide) _ hlt
    have a0 := mask_digits 2 0 1 (by omega) (by decide) _ hlt
    rw [n1, show valD 2 (List.replicate 32 1) = 6148914691236517205 by decide] at a1 a0
    rw [e1, ofB_val, ← v1, ← valD_add, ← a1, ← a0]
    simp
  generalize hD1 : ((pairD 1 (l.map Bool.toNat)).map fun d : Nat => (d / 2 ^ 1 &&& 1) + (d / 2 ^ 0 &&& 1)) = D1 at *
  have p2 := pair_digits 2 2 16 _ l1 m1
  have s2 := pair_sum 2 2 (fun d : Nat => (d / 2 ^ 2 &&& 3) + (d / 2 ^ 0 &&& 3)) f2 16 _ l1 m1
  have n2 := pairD_len 2 16 _ l1
  have m2 := map_le (f := (fun d : Nat => (d / 2 ^ 2 &&& 3) + (d / 2 ^ 0 &&& 3))) f2 p2
  have v2 := valD_pair 2 16 _ l1
  have l2 : ((pairD 2 D1).map fun d : Nat => (d / 2 ^ 2 &&& 3) + (d / 2 ^ 0 &&& 3)).length = 2 * 8 := by rw [List.length_map, n2]
  have q2 : x2 = valD 4 ((pairD 2 D1).map fun d : Nat => (d / 2 ^ 2 &&& 3) + (d / 2 ^ 0 &&& 3)) := by
    have hlt : ∀ d ∈ pairD 2 D1, d < 2 ^ 4 := fun d hd => by obtain ⟨a, b, ha, hb, rfl⟩ := p2 d hd; omega
    have a1 := mask_digits 4 2 3 (by omega) (by decide) _ hlt
    have a0 := mask_digits 4 0 3 (by omega) (by decide) _ hlt
    rw [n2, show valD 4 (List.replicate 16 3) = 3689348814741910323 by decide] at a1 a0
    rw [e2, q1, ← v2, ← valD_add, ← a1, ← a0]
    simp
  have b1 : x1 ≤ 12297829382473034410 := by
    rw [q1]; have := valD_le 2 2 D1 m1; rw [l1] at this
    exact Nat.le_trans this (by decide)
  generalize hD2 : ((pairD 2 D1).map fun d : Nat => (d / 2 ^ 2 &&& 3) + (d / 2 ^ 0 &&& 3)) = D2 at *
  have b2 : x2 ≤ 4919131752989213764 := by
    rw [q2]; have := valD_le 4 4 D2 m2; rw [l2] at this
    exact Nat.le_trans this (by decide)
  have p3 := pair_digits 4 4 8 _ l2 m2
  have s3 := pair_sum 4 4 (fun d : Nat => (d / 16 + d) % 16) f3 8 _ l2 m2
  have n3 := pairD_len 4 8 _ l2
  have m3 := map_le (f := (fun d : Nat => (d / 16 + d) % 16)) f3 p3
  have v3 := valD_pair 4 8 _ l2
  have q3 : x3 = valD 8 ((pairD 4 D2).map fun d : Nat => (d / 16 + d) % 16) := by
    have hlt : ∀ d ∈ pairD 4 D2, d % 16 ≤ 4 ∧ d ≤ 68 := fun d hd => by obtain ⟨a, b, ha, hb, rfl⟩ := p3 d hd; omega
    have a1 := step3 _ hlt
    rw [n3, show valD 8 (List.replicate 8 15) = 1085102592571150095 by decide] at a1
    rw [e3, q2, ← v3, a1]
  have l3 : ((pairD 4 D2).map fun d : Nat => (d / 16 + d) % 16).length = 8 := by rw [List.length_map, n3]
  generalize hD3 : ((pairD 4 D2).map fun d : Nat => (d / 16 + d) % 16) = D3 at *
  obtain ⟨c0, c1, c2, c3, c4, c5, c6, c7, hc⟩ := eight l3
  rw [hc] at m3 q3 s3
  have e3' : x3 = c0 + 256 * c1 + 65536 * c2 + 16777216 * c3 + 4294967296 * c4 + 1099511627776 * c5 + 281474976710656 * c6 + 72057594037927936 * c7 := by
    rw [q3]; exact e3x _ _ _ _ _ _ _ _
  obtain ⟨g0, g3, g4, g5, g6⟩ := fold8 c0 c1 c2 c3 c4 c5 c6 c7 (m3 _ (by simp)) (m3 _ (by simp)) (m3 _ (by simp)) (m3 _ (by simp)) (m3 _ (by simp)) (m3 _ (by simp)) (m3 _ (by simp)) (m3 _ (by simp)) x3 x4 x5 x6 e3' e4 e5 e6
  refine ⟨?_, Nat.lt_of_le_of_lt b1 (by decide), Nat.lt_of_le_of_lt b2 (by decide), half16 x2 b2, g3, g4, g5, g6⟩
  rw [g0, count_sum, ← s1, ← s2, ← s3]
  clear e1 e2 e3 e4 e5 e6 e3' g3 g4 g5 g6 g0 b1 b2 m1 m2 m3 q1 q2 q3 s1 s2 s3 hb f1 f2 f3
  simp only [List.sum_cons, List.sum_nil]
  omega
end Lec

end
section
set_option linter.unusedVariables false
set_option linter.unusedSimpArgs false
namespace Lec
open Go Go.RowKit
theorem u64w (n : Nat) (h : n < 18446744073709551616) : IntKind.u64.wrap (n : Int) = (n : Int) := IntWalk.u64_in _ (by omega)
theorem andw (x m : Nat) (hx : x < 18446744073709551616) (hm : m < 18446744073709551616) : bits .and .u64 (x : Int) (m : Int) = ((x &&& m : Nat) : Int) := u64_and_nat x m hx hm
theorem two_and (x y m s : Nat) (hx : x < 18446744073709551616) (hm : m < 18446744073709551616) (d : Nat) (e : y = (x / d &&& m) + (x &&& m)) (hy : y < 18446744073709551616) :
    IntKind.u64.wrap (bits .and .u64 ((x : Int) / (d : Int)) (m : Int) + bits .and .u64 (x : Int) (m : Int)) = (y : Int) := by
  have hd : (x : Int) / (d : Int) = ((x / d : Nat) : Int) := by simp
  rw [hd, andw _ _ (Nat.lt_of_le_of_lt (Nat.div_le_self _ _) hx) hm, andw _ _ hx hm, ← Int.natCast_add, ← e, u64w _ hy]
theorem sum_and (x y m d : Nat) (hm : m < 18446744073709551616) (hs : x / d + x < 18446744073709551616) (e : y = (x / d + x) &&& m) :
    bits .and .u64 (IntKind.u64.wrap ((x : Int) / (d : Int) + (x : Int))) (m : Int) = (y : Int) := by
  have hd : (x : Int) / (d : Int) + (x : Int) = ((x / d + x : Nat) : Int) := by simp
  rw [hd, u64w _ hs, andw _ _ hs hm, ← e]
theorem sum_div (x y d : Nat) (e : y = x + x / d) (hy : y < 18446744073709551616) : IntKind.u64.wrap ((x : Int) + (x : Int) / (d : Int)) = (y : Int) := by
  have hd : (x : Int) + (x : Int) / (d : Int) = ((x + x / d : Nat) : Int) := by simp
  rw [hd, ← e, u64w _ hy]
end Lec
namespace Go.Proofs.Ytjpcfpffbicpnaa
open Go.RowKit Lec

theorem ones_any (w : World) (l : List Bool) (hl : l.length = 64) (x : Nat) (hx : ofB l = x) : Calls Try.prog 96 #[.int .u64 (x : Int)] w fun e w' => e = .returned (.int .i64 ((l.count true : Nat) : Int)) ∧ w = w' := by
  have HX := Lib.hid hx
  clear hx
  go_enter Try.func96, Try.ntmps96
  have hx : x < 18446744073709551616 := by rw [← HX.out]; have := ofB_lt l; rw [hl] at this; exact this
  obtain ⟨x1, e1⟩ : ∃ x1, x1 = (ofB l / 2 &&& 6148914691236517205) + (ofB l &&& 6148914691236517205) := ⟨_, rfl⟩
  obtain ⟨x2, e2⟩ : ∃ x2, x2 = (x1 / 4 &&& 3689348814741910323) + (x1 &&& 3689348814741910323) := ⟨_, rfl⟩
  obtain ⟨x3, e3⟩ : ∃ x3, x3 = (x2 / 16 + x2) &&& 1085102592571150095 := ⟨_, rfl⟩
  obtain ⟨x4, e4⟩ : ∃ x4, x4 = x3 + x3 / 256 := ⟨_, rfl⟩
  obtain ⟨x5, e5⟩ : ∃ x5, x5 = x4 + x4 / 65536 := ⟨_, rfl⟩
  obtain ⟨x6, e6⟩ : ∃ x6, x6 = x5 + x5 / 4294967296 := ⟨_, rfl⟩
  obtain ⟨s0, b1, b2, b3, b4, b5, b6, b7⟩ := swar l hl x1 x2 x3 x4 x5 x6 e1 e2 e3 e4 e5 e6
  rw [HX.out] at e1
  have r1 := two_and x x1 6148914691236517205 0 hx (by decide) 2 e1 b1
  have r2 := two_and x1 x2 3689348814741910323 0 b1 (by decide) 4 e2 (Nat.lt_trans b2 (by decide))
  have r3 := sum_and x2 x3 1085102592571150095 16 (by decide) (Nat.lt_trans b3 (by decide)) e3
  have r4 := sum_div x3 x4 256 e4 (Nat.lt_trans b5 (by decide))
  have r5 := sum_div x4 x5 65536 e5 (Nat.lt_trans b6 (by decide))
  have r6 := sum_div x5 x6 4294967296 e6 (Nat.lt_trans b7 (by decide))
  have r7 : wrap64 (x6 : Int) = (x6 : Int) := IntWalk.wrap64_in _ (by omega)
  have HR1 := Lib.hid r1
  have HR2 := Lib.hid r2
  have HR3 := Lib.hid r3
  have HR4 := Lib.hid r4
  have HR5 := Lib.hid r5
  have HR6 := Lib.hid r6
  have HR7 := Lib.hid r7
  have HS := Lib.hid s0
  clear r1 r2 r3 r4 r5 r6 r7 e1 e2 e3 e4 e5 e6 b1 b2 b3 b4 b5 b6 b7 s0 hx
  go_wp2
  go_ret
  have r1 : IntKind.u64.wrap (bits .and .u64 ((x : Int) / 2) 6148914691236517205 + bits .and .u64 (x : Int) 6148914691236517205) = (x1 : Int) := HR1.out
  have r2 : IntKind.u64.wrap (bits .and .u64 ((x1 : Int) / 4) 3689348814741910323 + bits .and .u64 (x1 : Int) 3689348814741910323) = (x2 : Int) := HR2.out
  have r3 : bits .and .u64 (IntKind.u64.wrap ((x2 : Int) / 16 + (x2 : Int))) 1085102592571150095 = (x3 : Int) := HR3.out
  have r4 : IntKind.u64.wrap ((x3 : Int) + (x3 : Int) / 256) = (x4 : Int) := HR4.out
  have r5 : IntKind.u64.wrap ((x4 : Int) + (x4 : Int) / 65536) = (x5 : Int) := HR5.out
  have r6 : IntKind.u64.wrap ((x5 : Int) + (x5 : Int) / 4294967296) = (x6 : Int) := HR6.out
  have r8 : ((x6 : Int) % 128) = ((List.count true l : Nat) : Int) := by rw [← HS.out]; simp
  refine ⟨?_, rfl⟩
  show Ending.returned (Value.int .i64 _) = _
  rw [r1, r2, r3, r4, r5, r6, HR7.out, i64_and127, r8]
end Go.Proofs.Ytjpcfpffbicpnaa

end
section
set_option linter.unusedVariables false
set_option linter.unusedSimpArgs false
namespace Lec
/-- How many of the first i bits are ones. -/
def rankB (bs : List Bool) (i : Nat) : Nat := (bs.take i).count true
/-- The 64 bits from 64 j on. -/
def chunk (bs : List Bool) (j : Nat) : List Bool := (bs.drop (64 * j)).take 64
def nW (n : Nat) : Nat := (n + 63) / 64
def wordsL (bs : List Bool) : List Nat := (List.range (nW bs.length)).map fun j => ofB (chunk bs j)
def onesL (bs : List Bool) (m : Nat) : List Nat := (List.range m).map fun j => rankB bs (64 * j)
theorem wordsL_len (bs : List Bool) : (wordsL bs).length = nW bs.length := by simp [wordsL]
theorem onesL_len (bs : List Bool) (m : Nat) : (onesL bs m).length = m := by simp [onesL]
theorem wordsL_at (bs : List Bool) (j : Nat) (h : j < (wordsL bs).length) : (wordsL bs)[j] = ofB (chunk bs j) := by simp [wordsL]
theorem onesL_at (bs : List Bool) (m j : Nat) (h : j < (onesL bs m).length) : (onesL bs m)[j] = rankB bs (64 * j) := by simp [onesL]
theorem onesL_succ (bs : List Bool) (m : Nat) : onesL bs (m + 1) = onesL bs m ++ [rankB bs (64 * m)] := by simp [onesL, List.range_succ]
theorem ofB_pad : ∀ (l : List Bool) (n : Nat), ofB (l ++ List.replicate n false) = ofB l
  | [], 0 => rfl
  | [], n + 1 => by
    have := ofB_pad [] n
    simp only [List.nil_append] at this
    simp only [List.nil_append, List.replicate_succ, ofB, this]; decide
  | b :: l, n => by simp only [List.cons_append, ofB, ofB_pad l n]
theorem count_pad (l : List Bool) (n : Nat) : (l ++ List.replicate n false).count true = l.count true := by
  rw [List.count_append, List.count_replicate]; simp
theorem ofB_mod : ∀ (l : List Bool) (r : Nat), ofB l % 2 ^ r = ofB (l.take r)
  | l, 0 => by simp [ofB, Nat.mod_one]
  | [], r + 1 => by simp [ofB]
  | b :: l, r + 1 => by
    have ih := ofB_mod l r
    have hb : b.toNat < 2 := by cases b <;> decide
    simp only [List.take_succ_cons, ofB, ← ih]
    rw [Nat.pow_succ, Nat.mul_comm (2 ^ r) 2, Nat.mod_mul, Nat.add_mul_mod_self_left, Nat.mod_eq_of_lt hb, Nat.add_mul_div_left _ _ (by decide), Nat.div_eq_of_lt hb, Nat.zero_add]
theorem ofB_bit : ∀ (l : List Bool) (r : Nat), ofB l / 2 ^ r % 2 = (l.getD r false).toNat
  | [], r => by simp [ofB]
  | b :: l, 0 => by
    have hb : b.toNat < 2 := by cases b <;> decide
    simp only [ofB, Nat.pow_zero, Nat.div_one, List.getD_cons_zero]; omega
  | b :: l, r + 1 => by
    have ih := ofB_bit l r
    have hb : b.toNat < 2 := by cases b <;> decide
    rw [List.getD_cons_succ, ← ih]
    simp only [ofB]
    rw [Nat.pow_succ, Nat.mul_comm (2 ^ r) 2, ← Nat.div_div_eq_div_mul, Nat.add_mul_div_left _ _ (by decide), Nat.div_eq_of_lt hb, Nat.zero_add]
theorem ofB_snoc : ∀ (l : List Bool) (b : Bool), ofB (l ++ [b]) = ofB l + b.toNat * 2 ^ l.length
  | [], b => by simp [ofB]
  | a :: l, b => by
    have ih := ofB_snoc l b
    simp only [List.cons_append, ofB, ih, List.length_cons, Nat.pow_succ]
    rw [Nat.mul_add, ← Nat.mul_assoc, Nat.mul_comm 2 (b.toNat), Nat.mul_assoc, Nat.mul_comm 2 (2 ^ l.length)]; omega
theorem ofB_or (l : List Bool) : ofB l ||| 2 ^ l.length = ofB (l ++ [true]) := by
  rw [ofB_snoc]
  have h := Nat.two_pow_add_eq_or_of_lt (ofB_lt l) 1
  rw [Nat.or_comm, ← Nat.mul_one (2 ^ l.length), ← h]
  simp; omega
theorem ofB_snoc_false (l : List Bool) : ofB (l ++ [false]) = ofB l := by rw [ofB_snoc]; simp
theorem chunk_len (bs : List Bool) (j : Nat) : (chunk bs j).length ≤ 64 := by unfold chunk; rw [List.length_take]; omega
theorem chunk_lt (bs : List Bool) (j : Nat) : ofB (chunk bs j) < 18446744073709551616 := by
  have h := ofB_lt (chunk bs j)
  have := Nat.pow_le_pow_right (show 2 > 0 by decide) (chunk_len bs j)
  exact Nat.lt_of_lt_of_le h this
theorem rank_split (bs : List Bool) (q r : Nat) (hr : r ≤ 64) : rankB bs (64 * q + r) = rankB bs (64 * q) + ((chunk bs q).take r).count true := by
  unfold rankB chunk
  rw [List.take_add, List.count_append, List.take_take, Nat.min_eq_left hr]
theorem rank_chunk (bs : List Bool) (j : Nat) : rankB bs (64 * (j + 1)) = rankB bs (64 * j) + (chunk bs j).count true := by
  rw [show 64 * (j + 1) = 64 * j + 64 by omega, rank_split bs j 64 (by omega)]
  unfold chunk; rw [List.take_take]; simp
theorem rank_le (bs : List Bool) (i : Nat) : rankB bs i ≤ i := by
  unfold rankB
  exact Nat.le_trans List.count_le_length (by rw [List.length_take]; omega)
theorem rank_all (bs : List Bool) (i : Nat) (h : bs.length ≤ i) : rankB bs i = bs.count true := by unfold rankB; rw [List.take_of_length_le h]
theorem rank_succ (bs : List Bool) (i : Nat) (h : i < bs.length) : rankB bs (i + 1) = rankB bs i + bs[i].toNat := by
  unfold rankB
  rw [List.take_succ_eq_append_getElem h, List.count_append]
  cases bs[i] <;> simp
theorem chunk_bit (bs : List Bool) (i : Nat) (h : i < bs.length) : (chunk bs (i / 64)).getD (i % 64) false = bs[i] := by
  unfold chunk
  rw [List.getD_eq_getElem?_getD, List.getElem?_take, if_pos (by omega), List.getElem?_drop, show 64 * (i / 64) + i % 64 = i by omega, List.getElem?_eq_getElem h]; rfl
/-- Words as they are before a bit is put. -/
def wordsUp (bs : List Bool) : List Nat := if bs.length % 64 = 0 then wordsL bs ++ [0] else wordsL bs
theorem wordsUp_len (bs : List Bool) : (wordsUp bs).length = bs.length / 64 + 1 := by
  unfold wordsUp
  split
  · rw [List.length_append, wordsL_len]; simp [nW]; omega
  · rw [wordsL_len]; unfold nW; omega
theorem wordsUp_at (bs : List Bool) (j : Nat) (h : j < (wordsUp bs).length) : (wordsUp bs)[j] = ofB (chunk bs j) := by
  have hl := wordsUp_len bs
  have hlt : j < bs.length / 64 + 1 := by omega
  unfold wordsUp at h ⊢
  split
  · rename_i h0
    by_cases hj : j < (wordsL bs).length
    · rw [List.getElem_append_left hj, wordsL_at]
    · rw [List.getElem_append_right (by omega)]
      have hj2 : bs.length ≤ 64 * j := by rw [wordsL_len] at hj; unfold nW at hj; omega
      have : chunk bs j = [] := by unfold chunk; rw [List.drop_eq_nil_of_le hj2]; rfl
      rw [this]; simp [ofB]
  · rw [wordsL_at]
theorem chunk_snoc (bs : List Bool) (b : Bool) (j : Nat) : chunk (bs ++ [b]) j = if j = bs.length / 64 then chunk bs j ++ [b] else if j < bs.length / 64 then chunk bs j else [] := by
  unfold chunk
  by_cases h1 : j = bs.length / 64
  · rw [if_pos h1, List.drop_append_of_le_length (by omega), List.take_of_length_le (by simp; omega), List.take_of_length_le (by simp; omega)]
  · rw [if_neg h1]
    by_cases h2 : j < bs.length / 64
    · rw [if_pos h2, List.drop_append_of_le_length (by omega), List.take_append_of_le_length (by simp; omega)]
    · rw [if_neg h2, List.drop_eq_nil_of_le (by simp; omega)]; rfl
theorem wordsL_snoc (bs : List Bool) (b : Bool) : wordsL (bs ++ [b]) = (wordsUp bs).set (bs.length / 64) (ofB (chunk bs (bs.length / 64) ++ [b])) := by
  apply List.ext_getElem
  · rw [wordsL_len, List.length_set, wordsUp_len]; simp [nW]; omega
  · intro i h1 h2
    rw [wordsL_at, chunk_snoc, List.getElem_set]
    rw [wordsL_len] at h1
    simp [nW] at h1
    by_cases hi : i = bs.length / 64
    · subst hi; simp
    · rw [if_neg hi, if_pos (show i < bs.length / 64 by omega), if_neg (show ¬ bs.length / 64 = i by omega), wordsUp_at]
theorem chunk_last_len (bs : List Bool) : (chunk bs (bs.length / 64)).length = bs.length % 64 := by
  unfold chunk; rw [List.length_take, List.length_drop]; omega
end Lec

end
section
set_option linter.unusedVariables false
set_option linter.unusedSimpArgs false
namespace Lec
open Go Go.RowKit
abbrev longsV (xs : List Nat) : List Value := xs.map fun (x : Nat) => Value.int .u64 (x : Int)
abbrev natsV (xs : List Nat) : List Value := xs.map fun (x : Nat) => Value.int .i64 (x : Int)
/-- A vector that is only read. -/
structure Vec (w : World) (p : Nat) (bs : List Bool) : Prop where
  out : ∃ A c B d, w.cell? ⟨p, 0, none⟩ = some (.slice A (nW bs.length) c) ∧ w.cell? ⟨p, 1, none⟩ = some (.int .i64 (bs.length : Int)) ∧ w.cell? ⟨p, 2, none⟩ = some (.slice B (nW bs.length + 1) d) ∧
    Rds w A (longsV (wordsL bs)) ∧ Rds w B (natsV (onesL bs (nW bs.length + 1)))
theorem Vec.ext {w w' : World} {p : Nat} {bs : List Bool} {D : Nat} (h : Vec w p bs) (hb : Below D w w') (hD : w.heap.size ≤ D) : Vec w' p bs := by
  obtain ⟨A, c, B, d, h1, h2, h3, h4, h5⟩ := h.out
  exact ⟨A, c, B, d, cell_ext hb hD h1, cell_ext hb hD h2, cell_ext hb hD h3, h4.ext hb hD, h5.ext hb hD⟩
theorem Vec.drew {w : World} {p : Nat} {bs : List Bool} (h : Vec w p bs) (n : Nat) : Vec (w.drewN n) p bs := ⟨h.out⟩
/-- A vector all of whose blocks lie from lo on. -/
structure VecN (w : World) (p : Nat) (bs : List Bool) (lo : Nat) : Prop where
  out : ∃ A c B d, w.cell? ⟨p, 0, none⟩ = some (.slice A (nW bs.length) c) ∧ w.cell? ⟨p, 1, none⟩ = some (.int .i64 (bs.length : Int)) ∧ w.cell? ⟨p, 2, none⟩ = some (.slice B (nW bs.length + 1) d) ∧
    Rds w A (longsV (wordsL bs)) ∧ Rds w B (natsV (onesL bs (nW bs.length + 1))) ∧ lo ≤ p ∧ (∀ a, A = some a → lo ≤ a.block) ∧ (∀ a, B = some a → lo ≤ a.block)
theorem VecN.vec {w : World} {p lo : Nat} {bs : List Bool} (h : VecN w p bs lo) : Vec w p bs := by
  obtain ⟨A, c, B, d, h1, h2, h3, h4, h5, _⟩ := h.out
  exact ⟨A, c, B, d, h1, h2, h3, h4, h5⟩
theorem rds_grown {w w' : World} {row : Option Nat} {A : Option Addr} {vs : List Value} (h : Rds w A vs) (hg : w.grownBy w' row) (hne : ∀ a, A = some a → some a.block ≠ row) : Rds w' A vs := fun i u hu => by
  obtain ⟨a, e, hc⟩ := h i u hu
  exact ⟨a, e, hg.cell hc (by rw [add_block]; exact hne a e)⟩
theorem VecN.grown {w w' : World} {p lo : Nat} {bs : List Bool} {row : Option Nat} (h : VecN w p bs lo) (hg : w.grownBy w' row) (hr : ∀ k, row = some k → k < lo) : VecN w' p bs lo := by
  obtain ⟨A, c, B, d, h1, h2, h3, h4, h5, h6, h7, h8⟩ := h.out
  have hp : ∀ o, some (⟨p, o, none⟩ : Addr).block ≠ row := fun o e => by have : p < lo := hr _ e.symm; omega
  exact ⟨A, c, B, d, hg.cell h1 (hp 0), hg.cell h2 (hp 1), hg.cell h3 (hp 2), rds_grown h4 hg (fun a ha e => by have := hr _ e.symm; have := h7 a ha; omega), rds_grown h5 hg (fun a ha e => by have := hr _ e.symm; have := h8 a ha; omega), h6, h7, h8⟩
theorem VecN.ext {w w' : World} {p lo : Nat} {bs : List Bool} {D : Nat} (h : VecN w p bs lo) (hb : Below D w w') (hD : w.heap.size ≤ D) : VecN w' p bs lo := by
  obtain ⟨A, c, B, d, h1, h2, h3, h4, h5, h6⟩ := h.out
  exact ⟨A, c, B, d, cell_ext hb hD h1, cell_ext hb hD h2, cell_ext hb hD h3, h4.ext hb hD, h5.ext hb hD, h6⟩
theorem bit_test (x r : Nat) (b : Bool) (hx : x < 18446744073709551616) (h : x / 2 ^ r % 2 = b.toNat) : (bits .and .u64 ((x : Int) / 2 ^ r) 1 == 1) = b := by
  have e : (x : Int) / 2 ^ r = ((x / 2 ^ r : Nat) : Int) := by simp
  have := andw (x / 2 ^ r) 1 (Nat.lt_of_le_of_lt (Nat.div_le_self _ _) hx) (by decide)
  rw [e, show (1 : Int) = ((1 : Nat) : Int) from rfl, this, and_1, h]
  cases b <;> rfl
theorem mask_mod (x r : Nat) (hx : x < 18446744073709551616) (hr : r < 64) : bits .and .u64 (x : Int) (IntKind.u64.wrap (IntKind.u64.wrap (2 ^ r) - 1)) = ((x % 2 ^ r : Nat) : Int) := by
  have hp : 2 ^ r < 18446744073709551616 := Nat.lt_of_lt_of_le (Nat.pow_lt_pow_right (by decide) hr) (by decide)
  have h0 := Nat.two_pow_pos r
  have e1 : IntKind.u64.wrap ((2 : Int) ^ r) = ((2 ^ r : Nat) : Int) := by
    rw [show ((2 : Int) ^ r) = ((2 ^ r : Nat) : Int) by simp]; exact u64w _ hp
  have e2 : (((2 ^ r : Nat) : Int) - 1) = ((2 ^ r - 1 : Nat) : Int) := by omega
  rw [e1, e2, u64w _ (by omega), andw _ _ hx (by omega), Nat.and_two_pow_sub_one_eq_mod]
theorem Calls.q_same {P : Program} {f : FuncId} {args : Array Value} {w : World} {n : Nat} {v : Value} (h : Calls P f args (w.drewN n) fun e w' => e = .returned v ∧ w.drewN n = w') :
    Calls P f args (w.drewN n) fun e w'' => e = .returned v ∧ ∃ m, w'' = w.drewN m := h.mono fun _ _ ⟨he, hm⟩ => ⟨he, n, hm.symm⟩
theorem Calls.q_drawn {P : Program} {f : FuncId} {args : Array Value} {w : World} {n : Nat} {v : Value} (h : Calls P f args (w.drewN n) fun e w' => e = .returned v ∧ ∃ q, (w.drewN n).drewN q = w') :
    Calls P f args (w.drewN n) fun e w'' => e = .returned v ∧ ∃ m, w'' = w.drewN m := h.mono fun _ _ ⟨he, q, hm⟩ => ⟨he, n + q, by rw [← hm, World.drewN_drewN]⟩
theorem pad_64 (l : List Bool) (h : l.length ≤ 64) : (l ++ List.replicate (64 - l.length) false).length = 64 := by simp; omega
theorem wrap_id {n : Int} (h : -9223372036854775808 ≤ n ∧ n ≤ 9223372036854775807) : IntKind.i64.wrap n = n := by
  rw [IntWalk.i64_left]; exact IntWalk.wrap64_in n h
end Lec
namespace Go.Proofs.Ytjpcfpffbicpnaa
open Go.RowKit Lec

set_option maxRecDepth 100000 in
theorem at_any (w : World) (p : Nat) (bs : List Bool) (hv : Vec w p bs) (hm : bs.length ≤ 1048576) (i : Nat) (hi : i < bs.length) :
    Calls Try.prog 100 #[.pointer (some ⟨p, 0, none⟩), .int .i64 (i : Int)] w fun e w' => e = .returned (.bool bs[i]) ∧ w = w' := by
  obtain ⟨A, c, B, d, h1, h2, h3, h4, h5⟩ := hv.out
  have hq : i / 64 < (wordsL bs).length := by rw [wordsL_len]; unfold nW; omega
  obtain ⟨a, rfl, hc⟩ := h4.map (i / 64) hq
  rw [wordsL_at] at hc
  have hbit := ofB_bit (chunk bs (i / 64)) (i % 64)
  rw [chunk_bit bs i hi] at hbit
  have hlt := chunk_lt bs (i / 64)
  have hqn : i / 64 < nW bs.length := by rwa [wordsL_len] at hq
  generalize bs[i] = b at *
  generalize ofB (chunk bs (i / 64)) = x at *
  generalize hN : nW bs.length = N at *
  clear h2 h3 h4 h5 hq
  have hqi : (i : Int) / 64 = ((i / 64 : Nat) : Int) := by simp
  have hri : (i : Int) % 64 = ((i % 64 : Nat) : Int) := by simp
  have hqn2 : ((i / 64 : Nat) : Int) < (N : Int) := by omega
  have HQ := Lib.hid hqi
  have HR := Lib.hid hri
  have HB := Lib.hid hbit
  clear hqi hri hbit
  go_enter Try.func100, Try.ntmps100
  go_wp2
  go_ret
  refine ⟨?_, rfl⟩
  show Ending.returned (Value.bool _) = _
  rw [bit_test x (i % 64) b hlt HB.out]

set_option maxRecDepth 100000 in
theorem rank_any (w : World) (p : Nat) (bs : List Bool) (hv : Vec w p bs) (hm : bs.length ≤ 1048576) (i : Nat) (hi : i ≤ bs.length) :
    Calls Try.prog 101 #[.pointer (some ⟨p, 0, none⟩), .int .i64 (i : Int)] w fun e w' => e = .returned (.int .i64 (rankB bs i : Int)) ∧ ∃ q, w.drewN q = w' := by
  obtain ⟨A, c, B, d, h1, h2, h3, h4, h5⟩ := hv.out
  have hq : i / 64 < (onesL bs (nW bs.length + 1)).length := by rw [onesL_len]; unfold nW; omega
  obtain ⟨b, rfl, hc⟩ := h5.map (i / 64) hq
  rw [onesL_at] at hc
  have hqi : ((i / 64 : Nat) : Int) < ((nW bs.length + 1 : Nat) : Int) := by unfold nW; omega
  have hsp := rank_split bs (i / 64) (i % 64) (by omega)
  rw [show 64 * (i / 64) + i % 64 = i by omega] at hsp
  have hle := rank_le bs (64 * (i / 64))
  generalize rankB bs (64 * (i / 64)) = r0 at *
  by_cases h0 : i % 64 = 0
  · rw [h0] at hsp
    simp at hsp
    have HS := Lib.hid hsp
    have h0i : ¬ 0 < (i : Int) % 64 := by omega
    clear hsp h0 h4 h5 hq hv
    generalize hN : nW bs.length + 1 = N at *
    clear h2 h1 hN
    go_enter Try.func101, Try.ntmps101
    go_wp2
    go_ret
    exact ⟨by rw [HS.out]; rfl, 0, rfl⟩
  · have hq2 : i / 64 < (wordsL bs).length := by rw [wordsL_len]; unfold nW; omega
    obtain ⟨a, rfl, hc2⟩ := h4.map (i / 64) hq2
    rw [wordsL_at] at hc2
    have hqi2 : ((i / 64 : Nat) : Int) < ((nW bs.length : Nat) : Int) := by unfold nW; omega
    have hlt := chunk_lt bs (i / 64)
    have hmod := ofB_mod (chunk bs (i / 64)) (i % 64)
    generalize ofB (chunk bs (i / 64)) = x at *
    generalize hN : nW bs.length = N at *
    have h0i : 0 < (i : Int) % 64 := by omega
    have hw1 : IntKind.i64.wrap ((i : Int) / 64) = (i : Int) / 64 := wrap_id (by omega)
    have hw2 : IntKind.i64.wrap ((i : Int) % 64) = (i : Int) % 64 := wrap_id (by omega)
    have hz1 : (0 : Int) ≤ (i : Int) / 64 := by omega
    have hz2 : (0 : Int) ≤ (i : Int) % 64 := by omega
    have hz3 : (i : Int) / 64 < (N : Int) := by omega
    have ht1 : ((i : Int) / 64).toNat = i / 64 := by omega
    have htm : (i : Int).tmod 64 = (i : Int) % 64 := Int.tmod_eq_emod_of_nonneg (by omega)
    have ht2 : ((i : Int) % 64).toNat = i % 64 := by omega
    have hmk := mask_mod x (i % 64) hlt (by omega)
    have HL : Hid (((chunk bs (i / 64)).take (i % 64) ++ List.replicate (64 - ((chunk bs (i / 64)).take (i % 64)).length) false).length = 64) := pad_64 _ (by rw [List.length_take]; omega)
    have HV : Hid (ofB ((chunk bs (i / 64)).take (i % 64) ++ List.replicate (64 - ((chunk bs (i / 64)).take (i % 64)).length) false) = x % 2 ^ (i % 64)) := by show _ = _; rw [ofB_pad, ← hmod]
    have HCT : Hid (((chunk bs (i / 64)).take (i % 64) ++ List.replicate (64 - ((chunk bs (i / 64)).take (i % 64)).length) false).count true = ((chunk bs (i / 64)).take (i % 64)).count true) := count_pad _ _
    have hcl : ((chunk bs (i / 64)).take (i % 64)).count true ≤ 64 := Nat.le_trans List.count_le_length (by rw [List.length_take]; omega)
    have HON : Hid (∀ w', Calls Try.prog 96 #[.int .u64 ((x % 2 ^ (i % 64) : Nat) : Int)] w' fun e w'' => e = .returned (.int .i64 ((((chunk bs (i / 64)).take (i % 64)).count true : Nat) : Int)) ∧ w' = w'') := fun w' => by
      have h := ones_any w' _ HL.out _ HV.out
      rwa [HCT.out] at h
    clear HL HV HCT
    generalize ((chunk bs (i / 64)).take (i % 64)).count true = k at *
    generalize x % 2 ^ (i % 64) = y at *
    have hwk : IntKind.i64.wrap ((r0 : Int) + (k : Int)) = (r0 : Int) + (k : Int) := wrap_id (by omega)
    have HS := Lib.hid hsp
    clear hsp h0 h4 h5 hq hv hmod hq2 h2 hN
    go_enter Try.func101, Try.ntmps101
    go_wp2
    go_quiet ((go_at_call 96; first | exact Calls.q_same (HON.out _) | exact Calls.quiet_of (HON.out _)))
    go_wp2
    go_ret
    exact ⟨by rw [HS.out]; rfl, _, rfl⟩
end Go.Proofs.Ytjpcfpffbicpnaa

end
section
set_option linter.unusedVariables false
set_option linter.unusedSimpArgs false
namespace Go.Proofs.Ytjpcfpffbicpnaa
open Go.RowKit Lec

set_option maxRecDepth 100000 in
theorem Get_in (w : World) (p : Nat) (bs : List Bool) (hv : Vec w p bs) (hm : bs.length ≤ 1048576) (i : Nat) (hi : i < bs.length) :
    Calls Try.prog 80 #[.pointer (some ⟨p, 0, none⟩), .int .i64 (i : Int)] w fun e w' => e = .returned (.tuple #[.bool bs[i], .int .i64 0]) ∧ w = w' := by
  have hat := at_any w p bs hv hm i hi
  obtain ⟨A, c, B, d, h1, h2, h3, h4, h5⟩ := hv.out
  have HAT := Lib.hid hat
  have h0 : ¬ (i : Int) < 0 := by omega
  have h6 : ¬ (bs.length : Int) ≤ (i : Int) := by omega
  generalize bs[i] = b at *
  clear h1 h3 h4 h5 hv hat
  go_enter Try.func80, Try.ntmps80
  go_wp2_with fail
  refine HAT.out.mono ?_
  rintro e w' ⟨rfl, rfl⟩
  go_wp2
  go_ret2
  exact ⟨rfl, rfl⟩

theorem Get_out (w : World) (p : Nat) (bs : List Bool) (hv : Vec w p bs) (i : Int) (hi : i < 0 ∨ (bs.length : Int) ≤ i) :
    Calls Try.prog 80 #[.pointer (some ⟨p, 0, none⟩), .int .i64 i] w fun e w' => e = .returned (.tuple #[.bool false, .int .i64 3]) ∧ w = w' := by
  obtain ⟨A, c, B, d, h1, h2, h3, h4, h5⟩ := hv.out
  clear h1 h3 h4 h5 hv
  by_cases h0 : i < 0
  · clear hi
    go_enter Try.func80, Try.ntmps80
    go_wp2
    go_ret2
    exact ⟨rfl, rfl⟩
  · have h6 : (bs.length : Int) ≤ i := by omega
    clear hi
    go_enter Try.func80, Try.ntmps80
    go_wp2
    go_ret2
    exact ⟨rfl, rfl⟩

set_option maxRecDepth 100000 in
theorem Rank_in (w : World) (p : Nat) (bs : List Bool) (hv : Vec w p bs) (hm : bs.length ≤ 1048576) (i : Nat) (hi : i ≤ bs.length) :
    Calls Try.prog 81 #[.pointer (some ⟨p, 0, none⟩), .int .i64 (i : Int)] w fun e w' => e = .returned (.tuple #[.int .i64 (rankB bs i : Int), .int .i64 0]) ∧ ∃ q, w.drewN q = w' := by
  have hat := rank_any w p bs hv hm i hi
  obtain ⟨A, c, B, d, h1, h2, h3, h4, h5⟩ := hv.out
  have HAT := Lib.hid hat
  have h0 : ¬ (i : Int) < 0 := by omega
  have h6 : ¬ (bs.length : Int) < (i : Int) := by omega
  generalize rankB bs i = b at *
  clear h1 h3 h4 h5 hv hat
  go_enter Try.func81, Try.ntmps81
  go_wp2_with fail
  refine HAT.out.mono ?_
  rintro e w' ⟨rfl, q, rfl⟩
  go_wp2
  go_ret2
  exact ⟨rfl, q, rfl⟩

theorem Rank_out (w : World) (p : Nat) (bs : List Bool) (hv : Vec w p bs) (i : Int) (hi : i < 0 ∨ (bs.length : Int) < i) :
    Calls Try.prog 81 #[.pointer (some ⟨p, 0, none⟩), .int .i64 i] w fun e w' => e = .returned (.tuple #[.int .i64 0, .int .i64 3]) ∧ w = w' := by
  obtain ⟨A, c, B, d, h1, h2, h3, h4, h5⟩ := hv.out
  clear h1 h3 h4 h5 hv
  by_cases h0 : i < 0
  · clear hi
    go_enter Try.func81, Try.ntmps81
    go_wp2
    go_ret2
    exact ⟨rfl, rfl⟩
  · have h6 : (bs.length : Int) < i := by omega
    clear hi
    go_enter Try.func81, Try.ntmps81
    go_wp2
    go_ret2
    exact ⟨rfl, rfl⟩
end Go.Proofs.Ytjpcfpffbicpnaa

end
section
set_option linter.unusedVariables false
set_option linter.unusedSimpArgs false
namespace Lec
open Go Go.RowKit
theorem blk_cell {w : World} {p o : Nat} {cs : Array Value} {T : TypeId} {v : Value} (h : w.heap[p]? = some (.cells cs T (0, 0))) (hv : cs[o]? = some v) : w.cell? ⟨p, o, none⟩ = some v := by
  rw [cell_of_row _ _ _ _ _ _ h]; exact hv
theorem blk_frozen {w : World} {p : Nat} {cs : Array Value} {T : TypeId} (h : w.heap[p]? = some (.cells cs T (0, 0))) (o : Nat) : w.frozen? ⟨p, o, none⟩ = false := by
  unfold World.frozen?; rw [h]; simp
theorem blk_set {w : World} {p o : Nat} {cs : Array Value} {T : TypeId} (h : w.heap[p]? = some (.cells cs T (0, 0))) (u : Value) : (w.setCell ⟨p, o, none⟩ u).heap[p]? = some (.cells (cs.setIfInBounds o u) T (0, 0)) := by
  unfold World.setCell; simp [Array.getElem?_modify, h]
theorem blk_far {w : World} {p q o : Nat} {ob : Obj} (h : w.heap[p]? = some ob) (u : Value) (hq : p ≠ q) : (w.setCell ⟨q, o, none⟩ u).heap[p]? = some ob := (Below.heap_setCell w ⟨q, o, none⟩ u p hq).trans h
theorem blk_grown {w w' : World} {p : Nat} {ob : Obj} {row : Option Nat} (h : w.heap[p]? = some ob) (hg : w.grownBy w' row) (hne : row ≠ some p) : w'.heap[p]? = some ob :=
  (hg.block p (Array.getElem?_eq_some_iff.1 h).1 (Ne.symm hne)).trans h
theorem blk_ext {w w' : World} {p B : Nat} {ob : Obj} (h : w.heap[p]? = some ob) (hb : Below B w w') (hB : w.heap.size ≤ B) : w'.heap[p]? = some ob :=
  (hb.block p (Nat.lt_of_lt_of_le (Array.getElem?_eq_some_iff.1 h).1 hB)).trans h
theorem blk_lt {w : World} {p : Nat} {ob : Obj} (h : w.heap[p]? = some ob) : p < w.heap.size := (Array.getElem?_eq_some_iff.1 h).1
theorem own_ne {w : World} {B : Nat} {e T : TypeId} {size : Nat} {v : Value} {n : Nat} {xs : List Value} {b : Nat} {cs : Array Value} {fr : Nat × Nat} (hown : w.ownsRow B e size v n xs) (hb : w.heap[b]? = some (.cells cs T fr)) (hTe : T ≠ e) : v.ownBlock ≠ some b := by
  rcases hown.2 with ⟨rfl, _⟩ | ⟨g, cap, cur, rfl, _, hg, _⟩
  · simp [Value.ownBlock]
  · intro h
    have hgb : g = b := by simpa [Value.ownBlock] using h
    subst hgb
    rw [hb] at hg
    injection hg with hg
    injection hg with _ h2 _
    exact hTe h2
theorem or_bit (x r y : Nat) (hx : x < 18446744073709551616) (hr : r < 64) (h : x ||| 2 ^ r = y) : bits .or .u64 (x : Int) (IntKind.u64.wrap (2 ^ r)) = (y : Int) := by
  have hp : 2 ^ r < 18446744073709551616 := Nat.lt_of_lt_of_le (Nat.pow_lt_pow_right (by decide) hr) (by decide)
  have e1 : IntKind.u64.wrap ((2 : Int) ^ r) = ((2 ^ r : Nat) : Int) := by
    rw [show ((2 : Int) ^ r) = ((2 ^ r : Nat) : Int) by simp]; exact u64w _ hp
  rw [e1, u64_or_nat _ _ hx hp, h]
theorem longs_one (xs : List Nat) : ∀ u ∈ longsV xs, u.oneCell' = true := fun u hu => by simp [longsV] at hu; obtain ⟨_, _, rfl⟩ := hu; rfl
end Lec
namespace Go.Proofs.Ytjpcfpffbicpnaa
open Go.RowKit Lec
theorem info_u64 : (Try.prog.info? 165).map (fun i => (i.zero, i.size, i.bytes)) = some (some (.int .u64 0), 1, 8) := by kernel_rfl

/-- A vector that is being made: its block, its words. -/
structure VecU (w : World) (p base : Nat) (bs : List Bool) (v o : Value) : Prop where
  blk : w.heap[p]? = some (.cells #[v, .int .i64 (bs.length : Int), o] 163 (0, 0))
  own : w.ownsRow base 165 1 v (nW bs.length) (longsV (wordsL bs))
def VPutPost (w : World) (p base : Nat) (bs : List Bool) (o : Value) (e : Ending) (w' : World) : Prop :=
  e = .returned (.tuple #[]) ∧ ∃ v', VecU w' p base bs v' o ∧ Below p w w'


set_option maxRecDepth 100000 in
set_option maxHeartbeats 1000000 in
theorem vput_any (w : World) (p base : Nat) (bs : List Bool) (v o : Value) (hu : VecU w p base bs v o) (hpb : p < base) (hbs : base ≤ w.heap.size) (hm : bs.length ≤ 1048576) (b : Bool) :
    Calls Try.prog 95 #[.pointer (some ⟨p, 0, none⟩), .bool b] w (VPutPost w p base (bs ++ [b]) o) := by
  obtain ⟨hblk, hown⟩ := hu
  have HBK0 := Lib.hid hblk
  have HO0 := Lib.hid hown
  have hk0 := blk_cell hblk (o := 0) rfl
  have hk1 := blk_cell hblk (o := 1) rfl
  have hf0 := blk_frozen hblk 0
  clear hblk hown
  by_cases h0 : bs.length % 64 = 0
  · have h0i : ((bs.length : Int) % 64 == 0) = true := by rw [beq_iff_eq]; omega
    have HNE : Hid (v.ownBlock ≠ some p) := own_ne HO0.out HBK0.out (by decide)
    have HUP : Hid (longsV (wordsL bs) ++ [.int .u64 0] = longsV (wordsUp bs)) := by show _ = _; unfold wordsUp; rw [if_pos h0]; simp [longsV]
    have HNW : Hid (nW bs.length + 1 = bs.length / 64 + 1) := by show _ = _; unfold nW; omega
    have hnw : nW bs.length ≤ 16384 := by unfold nW; omega
    obtain ⟨A0, c0, rfl, _, _, _, _, _⟩ := own_rds HO0.out
    go_enter Try.func95, Try.ntmps95
    go_upto_region 2 with (at_builtin; go_loud (refine wp_app1 (w0 := w) rfl rfl _ _ 159 rfl base 165 (.int .u64 0) 1 8 Try.underlying159 info_u64 rfl (by decide) (by decide) _ (nW bs.length) _ rfl HO0.out rfl rfl (one_cell1 rfl) (by omega) hbs ?_; intro v' w1 hown' hg' hb'; obtain ⟨A1, c1, rfl, _, _, _, _, _⟩ := own_rds hown'; have HB1 := Lib.hid hb'; have HO1 := Lib.hid hown'; have HBK1 := Lib.hid ((hb'.block p hpb).trans HBK0.out); have hk0 := blk_cell HBK1.out (o := 0) rfl; have hf0 := blk_frozen HBK1.out 0; clear hown' hg' hb'))
    obtain ⟨wX, hwX⟩ : ∃ wX, wX = w1.setCell ⟨p, 0, none⟩ (.slice A1 (nW bs.length + 1) c1) := ⟨_, rfl⟩
    rw [← hwX]
    have HO : Hid (wX.ownsRow base 165 1 (.slice A1 (nW bs.length + 1) c1) (nW bs.length + 1) (longsV (wordsL bs) ++ [.int .u64 0])) := by
      rw [hwX]; exact ownsRow_setCell_other HO1.out (own_ne HO1.out HBK1.out (by decide)) _
    have HBK : Hid (wX.heap[p]? = some (.cells #[.slice A1 (nW bs.length + 1) c1, .int .i64 (bs.length : Int), o] 163 (0, 0))) := by
      rw [hwX]; show _ = _; rw [blk_set HBK1.out]; simp
    have HBX : Hid (Below p w wX) := by
      rw [hwX]; exact (HB1.out.mono (Nat.le_of_lt hpb)).setCell (Nat.le_refl _) _
    rw [HUP.out, HNW.out] at HO
    rw [HNW.out] at HBK ⊢
    clear HBK1 HO1 HB1 hwX HO0 HBK0 HUP HNW h0 HNE
    rcases HO.out.2 with ⟨_, hz⟩ | ⟨g, cap, cur, hA, _, _, _, _, _, _⟩
    · exact absurd hz (by omega)
    · injection hA with hA1 hA2 hA3
      subst hA1 hA3
      have hl1 : (wordsUp bs).length = bs.length / 64 + 1 := wordsUp_len bs
      have hq : bs.length / 64 < (wordsUp bs).length := by omega
      have hca : (longsV (wordsUp bs))[bs.length / 64]? = some (.int .u64 ((ofB (chunk bs (bs.length / 64)) : Nat) : Int)) := by
        rw [List.getElem?_map, List.getElem?_eq_getElem hq, wordsUp_at]; rfl
      have hlt := chunk_lt bs (bs.length / 64)
      have hk0 : wX.cell? ⟨p, 0, none⟩ = some (.slice (some ⟨g, 0, none⟩) (bs.length / 64 + 1) c1) := blk_cell HBK.out rfl
      have hk1 : wX.cell? ⟨p, 1, none⟩ = some (.int .i64 (bs.length : Int)) := blk_cell HBK.out rfl
      have hf0 := blk_frozen HBK.out 0
      have hf1 := blk_frozen HBK.out 1
      cases b with
      | false =>
        have HWS : Hid (wordsL (bs ++ [false]) = wordsUp bs) := by
          show _ = _
          rw [wordsL_snoc, ofB_snoc_false]
          apply List.ext_getElem
          · simp
          · intro i h1 h2
            rw [List.getElem_set]
            split
            · rename_i h; subst h; rw [wordsUp_at]
            · rfl
        clear hca hlt
        go_wp2
        go_end0
        refine ⟨rfl, .slice (some ⟨g, 0, none⟩) (bs.length / 64 + 1) c1, ⟨?_, ?_⟩, HBX.out.setCell (Nat.le_refl _) _⟩
        · rw [blk_set HBK.out]; simp
        · rw [HWS.out, show nW (bs ++ [false]).length = bs.length / 64 + 1 by unfold nW; simp; omega]
          exact ownsRow_setCell_other HO.out (own_ne HO.out HBK.out (by decide)) _
      | true =>
        have hor := or_bit (ofB (chunk bs (bs.length / 64))) (bs.length % 64) (ofB (chunk bs (bs.length / 64) ++ [true])) hlt (by omega) (by have := ofB_or (chunk bs (bs.length / 64)); rwa [chunk_last_len] at this)
        have HWS : Hid (wordsL (bs ++ [true]) = (wordsUp bs).set (bs.length / 64) (ofB (chunk bs (bs.length / 64) ++ [true]))) := wordsL_snoc bs true
        have hc : wX.cell? ⟨g, bs.length / 64, none⟩ = some (.int .u64 ((ofB (chunk bs (bs.length / 64)) : Nat) : Int)) := by rw [HO.out.cellAt _ (by omega)]; exact hca
        have hf := HO.out.frozenAt (bs.length / 64)
        have hst := HO.out.stored (bs.length / 64) (.int .u64 ((ofB (chunk bs (bs.length / 64) ++ [true]) : Nat) : Int))
        have HST := Lib.hid hst
        have hgp : g ≠ p := fun e => own_ne HO.out HBK.out (by decide) (by rw [← e]; rfl)
        have HGP := Lib.hid hgp
        clear hst hgp hca
        generalize ofB (chunk bs (bs.length / 64)) = x at *
        generalize ofB (chunk bs (bs.length / 64) ++ [true]) = y at *
        have hz0 : (0 : Int) ≤ (bs.length : Int) / 64 := by omega
        have hz1 : (bs.length : Int) / 64 < ((bs.length / 64 + 1 : Nat) : Int) := by omega
        have hz2 : (bs.length : Int) / 64 < (bs.length : Int) / 64 + 1 := by omega
        have ht1 : ((bs.length : Int) / 64).toNat = bs.length / 64 := by omega
        have hw1 : IntKind.i64.wrap ((bs.length : Int) / 64) = (bs.length : Int) / 64 := wrap_id (by omega)
        have htm : (bs.length : Int).tmod 64 = (bs.length : Int) % 64 := Int.tmod_eq_emod_of_nonneg (by omega)
        have hm0 : (0 : Int) ≤ (bs.length : Int) % 64 := by omega
        have ht2 : ((bs.length : Int) % 64).toNat = bs.length % 64 := by omega
        go_wp2
        go_still_tail 19, (by kernel_rfl)
        have hgp := HGP.out
        have hpg : ¬ p = g := fun e => HGP.out e.symm
        go_wp2
        go_end0
        refine ⟨rfl, .slice (some ⟨g, 0, none⟩) (bs.length / 64 + 1) c1, ⟨?_, ?_⟩, ?_⟩
        · show ((wX.setCell ⟨g, bs.length / 64, none⟩ (.int .u64 (y : Int))).setCell ⟨p, 1, none⟩ (.int .i64 ((bs.length : Int) + 1))).heap[p]? = _
          rw [blk_set (blk_far HBK.out _ hpg)]; simp
        · rw [HWS.out, show nW (bs ++ [true]).length = bs.length / 64 + 1 by unfold nW; simp; omega]
          have h1 := HST.out.1
          have h2 := ownsRow_setCell_other h1 (a := ⟨p, 1, none⟩) (own_ne h1 (blk_far HBK.out _ hpg) (by decide)) (.int .i64 ((bs.length : Int) + 1))
          have h3 : longsV ((wordsUp bs).set (bs.length / 64) y) = (longsV (wordsUp bs)).set (bs.length / 64) (.int .u64 (y : Int)) := by unfold longsV; rw [List.map_set]
          rw [h3]
          exact h2
        · have hg := (HO.out.lt g rfl).1
          have h := (HBX.out.setCell (p := ⟨g, bs.length / 64, none⟩) (by show p ≤ g; omega) (.int .u64 (y : Int))).setCell (p := ⟨p, 1, none⟩) (Nat.le_refl _) (.int .i64 ((bs.length : Int) + 1))
          exact ⟨h.os, h.tape, h.output, h.size, h.block⟩
  · have h0i : ((bs.length : Int) % 64 == 0) = false := by rw [beq_eq_false_iff_ne]; omega
    have HUP : Hid (wordsL bs = wordsUp bs) := by show _ = _; unfold wordsUp; rw [if_neg h0]
    have HNW : Hid (nW bs.length = bs.length / 64 + 1) := by show _ = _; unfold nW; omega
    have HO := HO0.out
    rw [HUP.out, HNW.out] at HO
    have HBK := HBK0
    rcases HO.2 with ⟨_, hz⟩ | ⟨g, cap, cur, rfl, _, _, _, _, _, _⟩
    · exact absurd hz (by omega)
    · replace HO := Lib.hid HO
      have HBX : Hid (Below p w w) := Below.refl _ _
      clear HO0 HBK0 HUP HNW h0 hk0 hk1 hf0
      go_enter Try.func95, Try.ntmps95
      have hl1 : (wordsUp bs).length = bs.length / 64 + 1 := wordsUp_len bs
      have hq : bs.length / 64 < (wordsUp bs).length := by omega
      have hca : (longsV (wordsUp bs))[bs.length / 64]? = some (.int .u64 ((ofB (chunk bs (bs.length / 64)) : Nat) : Int)) := by
        rw [List.getElem?_map, List.getElem?_eq_getElem hq, wordsUp_at]; rfl
      have hlt := chunk_lt bs (bs.length / 64)
      have hk0 : w.cell? ⟨p, 0, none⟩ = some (.slice (some ⟨g, 0, none⟩) (bs.length / 64 + 1) cap) := blk_cell HBK.out rfl
      have hk1 : w.cell? ⟨p, 1, none⟩ = some (.int .i64 (bs.length : Int)) := blk_cell HBK.out rfl
      have hf0 := blk_frozen HBK.out 0
      have hf1 := blk_frozen HBK.out 1
      cases b with
      | false =>
        have HWS : Hid (wordsL (bs ++ [false]) = wordsUp bs) := by
          show _ = _
          rw [wordsL_snoc, ofB_snoc_false]
          apply List.ext_getElem
          · simp
          · intro i h1 h2
            rw [List.getElem_set]
            split
            · rename_i h; subst h; rw [wordsUp_at]
            · rfl
        clear hca hlt
        go_wp2
        go_end0
        refine ⟨rfl, .slice (some ⟨g, 0, none⟩) (bs.length / 64 + 1) cap, ⟨?_, ?_⟩, HBX.out.setCell (Nat.le_refl _) _⟩
        · rw [blk_set HBK.out]; simp
        · rw [HWS.out, show nW (bs ++ [false]).length = bs.length / 64 + 1 by unfold nW; simp; omega]
          exact ownsRow_setCell_other HO.out (own_ne HO.out HBK.out (by decide)) _
      | true =>
        have hor := or_bit (ofB (chunk bs (bs.length / 64))) (bs.length % 64) (ofB (chunk bs (bs.length / 64) ++ [true])) hlt (by omega) (by have := ofB_or (chunk bs (bs.length / 64)); rwa [chunk_last_len] at this)
        have HWS : Hid (wordsL (bs ++ [true]) = (wordsUp bs).set (bs.length / 64) (ofB (chunk bs (bs.length / 64) ++ [true]))) := wordsL_snoc bs true
        have hc : w.cell? ⟨g, bs.length / 64, none⟩ = some (.int .u64 ((ofB (chunk bs (bs.length / 64)) : Nat) : Int)) := by rw [HO.out.cellAt _ (by omega)]; exact hca
        have hf := HO.out.frozenAt (bs.length / 64)
        have hst := HO.out.stored (bs.length / 64) (.int .u64 ((ofB (chunk bs (bs.length / 64) ++ [true]) : Nat) : Int))
        have HST := Lib.hid hst
        have hgp : g ≠ p := fun e => own_ne HO.out HBK.out (by decide) (by rw [← e]; rfl)
        have HGP := Lib.hid hgp
        clear hst hgp hca
        generalize ofB (chunk bs (bs.length / 64)) = x at *
        generalize ofB (chunk bs (bs.length / 64) ++ [true]) = y at *
        have hz0 : (0 : Int) ≤ (bs.length : Int) / 64 := by omega
        have hz1 : (bs.length : Int) / 64 < ((bs.length / 64 + 1 : Nat) : Int) := by omega
        have hz2 : (bs.length : Int) / 64 < (bs.length : Int) / 64 + 1 := by omega
        have ht1 : ((bs.length : Int) / 64).toNat = bs.length / 64 := by omega
        have hw1 : IntKind.i64.wrap ((bs.length : Int) / 64) = (bs.length : Int) / 64 := wrap_id (by omega)
        have htm : (bs.length : Int).tmod 64 = (bs.length : Int) % 64 := Int.tmod_eq_emod_of_nonneg (by omega)
        have hm0 : (0 : Int) ≤ (bs.length : Int) % 64 := by omega
        have ht2 : ((bs.length : Int) % 64).toNat = bs.length % 64 := by omega
        go_wp2
        go_still_tail 19, (by kernel_rfl)
        have hgp := HGP.out
        have hpg : ¬ p = g := fun e => HGP.out e.symm
        go_wp2
        go_end0
        refine ⟨rfl, .slice (some ⟨g, 0, none⟩) (bs.length / 64 + 1) cap, ⟨?_, ?_⟩, ?_⟩
        · show ((w.setCell ⟨g, bs.length / 64, none⟩ (.int .u64 (y : Int))).setCell ⟨p, 1, none⟩ (.int .i64 ((bs.length : Int) + 1))).heap[p]? = _
          rw [blk_set (blk_far HBK.out _ hpg)]; simp
        · rw [HWS.out, show nW (bs ++ [true]).length = bs.length / 64 + 1 by unfold nW; simp; omega]
          have h1 := HST.out.1
          have h2 := ownsRow_setCell_other h1 (a := ⟨p, 1, none⟩) (own_ne h1 (blk_far HBK.out _ hpg) (by decide)) (.int .i64 ((bs.length : Int) + 1))
          have h3 : longsV ((wordsUp bs).set (bs.length / 64) y) = (longsV (wordsUp bs)).set (bs.length / 64) (.int .u64 (y : Int)) := by unfold longsV; rw [List.map_set]
          rw [h3]
          exact h2
        · have hg := (HO.out.lt g rfl).1
          have h := (HBX.out.setCell (p := ⟨g, bs.length / 64, none⟩) (by show p ≤ g; omega) (.int .u64 (y : Int))).setCell (p := ⟨p, 1, none⟩) (Nat.le_refl _) (.int .i64 ((bs.length : Int) + 1))
          exact ⟨h.os, h.tape, h.output, h.size, h.block⟩
end Go.Proofs.Ytjpcfpffbicpnaa

end
section
set_option linter.unusedVariables false
set_option linter.unusedSimpArgs false
namespace Lec
open Go Go.RowKit
abbrev boolsV (bs : List Bool) : List Value := bs.map Value.bool
/-- Two rows of different elements lie apart. -/
theorem own_apart {w : World} {B B' : Nat} {e e' : TypeId} {size size' : Nat} {v v' : Value} {n n' : Nat} {xs xs' : List Value} (h : w.ownsRow B e size v n xs) (h' : w.ownsRow B' e' size' v' n' xs') (hne : e ≠ e') : ∀ k, v.ownBlock = some k → v'.ownBlock ≠ some k := by
  intro k hk
  rcases h.2 with ⟨rfl, _⟩ | ⟨g, cap, cur, rfl, _, hg, _⟩
  · simp [Value.ownBlock] at hk
  · have : g = k := by simpa [Value.ownBlock] using hk
    subst this
    exact own_ne h' hg hne
end Lec
namespace Go.Proofs.Ytjpcfpffbicpnaa
open Go.RowKit Lec
theorem info_intV : (Try.prog.info? 3).map (fun i => (i.zero, i.size, i.bytes)) = some (some (.int .i64 0), 1, 8) := by kernel_rfl
theorem word_ones (bs : List Bool) (j : Nat) (w : World) : Calls Try.prog 96 #[.int .u64 ((ofB (chunk bs j) : Nat) : Int)] w fun e w' => e = .returned (.int .i64 (((chunk bs j).count true : Nat) : Int)) ∧ w = w' := by
  have h := ones_any w (chunk bs j ++ List.replicate (64 - (chunk bs j).length) false) (pad_64 _ (chunk_len bs j)) (ofB (chunk bs j)) (ofB_pad _ _)
  rwa [count_pad] at h
/-- A vector all of whose blocks lie from lo on, with their types. -/
structure VecT (w : World) (p : Nat) (bs : List Bool) (lo : Nat) : Prop where
  out : ∃ A c B d, w.heap[p]? = some (.cells #[.slice A (nW bs.length) c, .int .i64 (bs.length : Int), .slice B (nW bs.length + 1) d] 163 (0, 0)) ∧
    w.ownsRow lo 165 1 (.slice A (nW bs.length) c) (nW bs.length) (longsV (wordsL bs)) ∧ w.ownsRow lo 3 1 (.slice B (nW bs.length + 1) d) (nW bs.length + 1) (natsV (onesL bs (nW bs.length + 1))) ∧ lo ≤ p
theorem VecT.vecN {w : World} {p lo : Nat} {bs : List Bool} (h : VecT w p bs lo) : VecN w p bs lo := by
  obtain ⟨A, c, B, d, hb, h1, h2, hl⟩ := h.out
  obtain ⟨A5, c5, he5, _, _, _, r5, s5⟩ := own_rds h1
  obtain ⟨rfl, _, rfl⟩ := Value.slice.inj he5
  obtain ⟨A6, c6, he6, _, _, _, r6, s6⟩ := own_rds h2
  obtain ⟨rfl, _, rfl⟩ := Value.slice.inj he6
  exact ⟨A, c, B, d, blk_cell hb rfl, blk_cell hb rfl, blk_cell hb rfl, r5, r6, hl, fun a ha => by obtain ⟨g, rfl, h, _⟩ := s5 a ha; exact h, fun a ha => by obtain ⟨g, rfl, h, _⟩ := s6 a ha; exact h⟩
theorem VecT.ext {w w' : World} {p lo : Nat} {bs : List Bool} {D : Nat} (h : VecT w p bs lo) (hb : Below D w w') (hD : w.heap.size ≤ D) : VecT w' p bs lo := by
  obtain ⟨A, c, B, d, hk, h1, h2, hl⟩ := h.out
  exact ⟨A, c, B, d, blk_ext hk hb hD, own_ext h1 hb hD, own_ext h2 hb hD, hl⟩
theorem VecT.grown {w w' : World} {p lo : Nat} {bs : List Bool} {row : Option Nat} (h : VecT w p bs lo) (hg : w.grownBy w' row) (hr : ∀ k, row = some k → k < lo) : VecT w' p bs lo := by
  obtain ⟨A, c, B, d, hk, h1, h2, hl⟩ := h.out
  refine ⟨A, c, B, d, blk_grown hk hg (fun e => by have := hr _ e; omega), own_grown h1 hg (fun k e f => ?_), own_grown h2 hg (fun k e f => ?_), hl⟩
  · have := (h1.lt _ e).1; have := hr _ f; omega
  · have := (h2.lt _ e).1; have := hr _ f; omega
/-- A row of another type grows. -/
theorem VecT.apart {w w' : World} {p lo base e n sz : Nat} {v : Value} {xs : List Value} {bs : List Bool} (h : VecT w p bs lo) (hg : w.grownBy w' v.ownBlock) (ho : w.ownsRow base e sz v n xs) (he : e ≠ 163 ∧ e ≠ 165 ∧ e ≠ 3) : VecT w' p bs lo := by
  obtain ⟨A, c, B, d, hk, h1, h2, hl⟩ := h.out
  exact ⟨A, c, B, d, blk_grown hk hg (own_ne ho hk (Ne.symm he.1)), own_grown h1 hg (own_apart h1 ho (Ne.symm he.2.1)), own_grown h2 hg (own_apart h2 ho (Ne.symm he.2.2)), hl⟩
/-- A cell of a block of another type is written. -/
theorem VecT.far {w : World} {p lo g o : Nat} {bs : List Bool} {cs : Array Value} {T : TypeId} {fr : Nat × Nat} (h : VecT w p bs lo) (hb : w.heap[g]? = some (.cells cs T fr)) (he : T ≠ 163 ∧ T ≠ 165 ∧ T ≠ 3) (u : Value) : VecT (w.setCell ⟨g, o, none⟩ u) p bs lo := by
  obtain ⟨A, c, B, d, hk, h1, h2, hl⟩ := h.out
  refine ⟨A, c, B, d, blk_far hk u (fun e => ?_), ownsRow_setCell_other h1 (own_ne h1 hb he.2.1) _, ownsRow_setCell_other h2 (own_ne h2 hb he.2.2) _, hl⟩
  subst e
  rw [hb] at hk
  injection hk with hk; injection hk with _ h2 _
  exact he.1 h2
def VNewPost (w : World) (bs : List Bool) (e : Ending) (w' : World) : Prop :=
  ∃ p, e = .returned (.tuple #[.pointer (some ⟨p, 0, none⟩), .int .i64 0]) ∧ w.heap.size ≤ p ∧ p < w'.heap.size ∧ VecN w' p bs w.heap.size ∧ Below w.heap.size w w'
def NewPostT (w : World) (bs : List Bool) (e : Ending) (w' : World) : Prop :=
  ∃ p, e = .returned (.tuple #[.pointer (some ⟨p, 0, none⟩), .int .i64 0]) ∧ w.heap.size ≤ p ∧ p < w'.heap.size ∧ VecT w' p bs w.heap.size ∧ Below w.heap.size w w'
set_option maxRecDepth 100000 in
set_option maxHeartbeats 2000000 in
theorem New_typed (w : World) (A : Option Addr) (n c : Nat) (bs : List Bool) (hn : bs.length = n) (hm : n ≤ 1048576) (hr : Rds w A (boolsV bs)) :
    Calls Try.prog 76 #[.slice A n c] w (NewPostT w bs) := by
  have HR := Lib.hid hr
  have HN := Lib.hid hn
  clear hr hn
  have hni : ¬ 1048576 < (n : Int) := by omega
  go_enter Try.func76, Try.ntmps76
  go_wp2
  go_loopw [17] (fun i wr => ∃ (k : Nat) (v : Value), k ≤ n ∧ i = .int .i64 k ∧ Hid (VecU wr w.heap.size (w.heap.size + 1) (bs.take k) v (.slice none 0 0)) ∧ Hid (Below w.heap.size w wr)) (fun i _ => n - (intOf i).toNat)
  case atStart =>
    refine ⟨0, .slice none 0 0, by omega, rfl, ⟨?_, ?_⟩, (Below.refl _ _).alloc (Nat.le_refl _) _⟩
    · rw [heap_alloc_new]; simp
    · rw [List.take_zero, show nW ([] : List Bool).length = 0 from by decide, show wordsL [] = [] from by decide]; exact World.ownsRow_nil _ _ _ _
  case round =>
    obtain ⟨k, v, hk, rfl, HU, HX⟩ := hrel
    by_cases h8 : k < n
    · have hk' : k < bs.length := by rw [HN.out]; exact h8
      have hki : (k : Int) < (n : Int) := by omega
      obtain ⟨a, rfl, hc⟩ := (HR.out.ext HX.out (Nat.le_refl _)).map k hk'
      have HT : Hid (bs.take (k + 1) = bs.take k ++ [bs[k]]) := List.take_succ_eq_append_getElem hk'
      generalize bs[k] = b at *
      have hps : w.heap.size + 1 ≤ wr.heap.size := blk_lt HU.out.blk
      have hlen : (bs.take k).length ≤ 1048576 := by rw [List.length_take]; omega
      go_wp2_with fail
      refine (vput_any wr w.heap.size (w.heap.size + 1) (bs.take k) v _ HU.out (by omega) hps hlen b).mono ?_
      rintro e w2 ⟨rfl, v', hu', hb⟩
      have HU2 := Lib.hid hu'
      have HX2 : Hid (Below w.heap.size w w2) := HX.out.trans hb
      clear hu' hb
      go_wp2
      go_roundw
      case rel => exact ⟨k + 1, v', by omega, by go_num, by show VecU _ _ _ _ _ _; rw [HT.out]; exact HU2.out, HX2⟩
      case measure => simp [intOf]; omega
    · obtain rfl : k = n := by omega
      have hki : ¬ (k : Int) < (k : Int) := by omega
      have HT : Hid (bs.take k = bs) := List.take_of_length_le (by rw [HN.out]; exact Nat.le_refl _)
      have hu := HU.out
      rw [HT.out] at hu
      obtain ⟨A1, c1, rfl, p1, p2, p3, p4, p5⟩ := own_rds hu.own
      have HBK := Lib.hid hu.blk
      have HO := Lib.hid hu.own
      have hk0 : wr.cell? ⟨w.heap.size, 0, none⟩ = some (.slice A1 (nW bs.length) c1) := blk_cell hu.blk rfl
      clear hu HU HT p1 p2 p3 p4 p5
      have hnw : nW bs.length ≤ 16384 := by have := HN.out; unfold nW; omega
      go_wp2
      clear hk0
      go_loopw [7, 33] (fun s i wq => ∃ (j : Nat) (o : Value), j ≤ nW bs.length ∧ i = .int .i64 j ∧ s = .int .i64 (rankB bs (64 * j) : Int) ∧ Hid (wq.heap[w.heap.size]? = some (.cells #[.slice A1 (nW bs.length) c1, .int .i64 (bs.length : Int), o] 163 (0, 0))) ∧ Hid (wq.ownsRow (w.heap.size + 1) 165 1 (.slice A1 (nW bs.length) c1) (nW bs.length) (longsV (wordsL bs))) ∧ Hid (wq.ownsRow (w.heap.size + 1) 3 1 o j (natsV (onesL bs j))) ∧ Hid (Below w.heap.size w wq)) (fun _ i _ => nW bs.length - (intOf i).toNat)
      case atStart => exact ⟨0, .slice none 0 0, by omega, rfl, by simp [rankB], HBK, HO, World.ownsRow_nil _ _ _ _, HX⟩
      case round =>
        clear HBK HO HX
        obtain ⟨j, o, hj, rfl, rfl, HBK, HO, HON, HX⟩ := hrel
        obtain ⟨A2, c2, rfl, _, _, _, _, _⟩ := own_rds HON.out
        have hk2 : wr.cell? ⟨w.heap.size, 2, none⟩ = some (.slice A2 j c2) := blk_cell HBK.out rfl
        have hf2 := blk_frozen HBK.out 2
        have hbz : w.heap.size + 1 ≤ wr.heap.size := blk_lt HBK.out
        have HVO : Hid (∀ k, (Value.slice A1 (nW bs.length) c1).ownBlock = some k → (Value.slice A2 j c2).ownBlock ≠ some k) := own_apart HO.out HON.out (by decide)
        by_cases h9 : j < nW bs.length
        · have hji : (j : Int) < ((nW bs.length : Nat) : Int) := by omega
          obtain ⟨A1', c1', he1, _, _, _, q4, _⟩ := own_rds HO.out
          obtain ⟨rfl, _, rfl⟩ := Value.slice.inj he1
          obtain ⟨a1, rfl, hc1⟩ := q4.map j (by rw [wordsL_len]; exact h9)
          rw [wordsL_at] at hc1
          have HW := Lib.hid (word_ones bs j)
          have hrk := rank_chunk bs j
          have hr0 := rank_le bs (64 * j)
          have hr1 := rank_le bs (64 * (j + 1))
          have HOS : Hid (onesL bs (j + 1) = onesL bs j ++ [rankB bs (64 * j)]) := onesL_succ bs j
          generalize rankB bs (64 * j) = r0 at *
          generalize ofB (chunk bs j) = x at *
          generalize (chunk bs j).count true = m at *
          have HRK := Lib.hid hrk
          have hrb : (r0 : Int) + (m : Int) ≤ 2000000 := by omega
          clear hrk q4 he1 hr1
          generalize hNW : nW bs.length = N at *
          go_upto_region 14 with (at_builtin; go_loud (refine wp_app1 (w0 := wr) rfl rfl _ _ 57 rfl (w.heap.size + 1) 3 (.int .i64 0) 1 8 Try.underlying57 info_intV rfl (by decide) (by decide) _ j _ rfl HON.out rfl rfl (one_cell1 rfl) (by omega) hbz ?_; intro v' w1 hown' hg' hb'; obtain ⟨A3, c3, rfl, _, _, _, _, _⟩ := own_rds hown'; have HB1 := Lib.hid hb'; have HG1 := Lib.hid hg'; have HO1 := Lib.hid hown'; have HBK1 := Lib.hid ((hb'.block w.heap.size (by omega)).trans HBK.out); have hk2 := blk_cell HBK1.out (o := 2) rfl; have hf2 := blk_frozen HBK1.out 2; clear hown' hg' hb'))
          obtain ⟨wX, hwX⟩ : ∃ wX, wX = w1.setCell ⟨w.heap.size, 2, none⟩ (.slice A3 (j + 1) c3) := ⟨_, rfl⟩
          rw [← hwX]
          have hal : Below wr.heap.size wr (wr.alloc (.cells #[.int .i64 (r0 : Int)] 3)) := (Below.refl _ _).alloc (Nat.le_refl _) _
          have HO2 : Hid (wX.ownsRow (w.heap.size + 1) 165 1 (.slice (some a1) N c1) N (longsV (wordsL bs))) := by
            rw [hwX]
            have h1 := own_grown (own_ext HO.out hal (Nat.le_refl _)) HG1.out HVO.out
            exact ownsRow_setCell_other h1 (own_ne h1 HBK1.out (by decide)) _
          have HON2 : Hid (wX.ownsRow (w.heap.size + 1) 3 1 (.slice A3 (j + 1) c3) (j + 1) (natsV (onesL bs (j + 1)))) := by
            rw [hwX, HOS.out]
            have h1 := HO1.out
            have h2 : natsV (onesL bs j ++ [r0]) = natsV (onesL bs j) ++ [.int .i64 (r0 : Int)] := by unfold natsV; rw [List.map_append]; rfl
            rw [h2]
            exact ownsRow_setCell_other h1 (own_ne h1 HBK1.out (by decide)) _
          have HBK2 : Hid (wX.heap[w.heap.size]? = some (.cells #[.slice (some a1) N c1, .int .i64 (bs.length : Int), .slice A3 (j + 1) c3] 163 (0, 0))) := by
            rw [hwX]; show _ = _; rw [blk_set HBK1.out]; simp
          have HX2 : Hid (Below w.heap.size w wX) := by
            rw [hwX]; exact (HX.out.trans (HB1.out.mono (by omega))).setCell (Nat.le_refl _) _
          clear hwX hal HO HON HBK HX HVO HBK1 HO1 HG1 HB1 HOS hbz hc1
          go_wp2_with (go_at_call 96; refine (HW.out _).mono ?_; rintro e wq ⟨rfl, rfl⟩)
          go_roundw
          case rel => exact ⟨j + 1, .slice A3 (j + 1) c3, by omega, by go_num, by rw [HRK.out]; go_num, HBK2, HO2, HON2, HX2⟩
          case measure => simp [intOf]; omega
        · obtain rfl : j = nW bs.length := by omega
          have hji : ¬ ((nW bs.length : Nat) : Int) < ((nW bs.length : Nat) : Int) := by omega
          have HOS : Hid (onesL bs (nW bs.length + 1) = onesL bs (nW bs.length) ++ [rankB bs (64 * nW bs.length)]) := onesL_succ bs _
          generalize rankB bs (64 * nW bs.length) = r0 at *
          generalize hNW : nW bs.length = N at *
          have HNW := Lib.hid hNW
          go_upto_region 17 with (at_builtin; go_loud (refine wp_app1 (w0 := wr) rfl rfl _ _ 57 rfl (w.heap.size + 1) 3 (.int .i64 0) 1 8 Try.underlying57 info_intV rfl (by decide) (by decide) _ N _ rfl HON.out rfl rfl (one_cell1 rfl) (by omega) hbz ?_; intro v' w1 hown' hg' hb'; obtain ⟨A3, c3, rfl, _, _, _, _, _⟩ := own_rds hown'; have HB1 := Lib.hid hb'; have HG1 := Lib.hid hg'; have HO1 := Lib.hid hown'; have HBK1 := Lib.hid ((hb'.block w.heap.size (by omega)).trans HBK.out); have hk2 := blk_cell HBK1.out (o := 2) rfl; have hf2 := blk_frozen HBK1.out 2; clear hown' hg' hb'))
          obtain ⟨wX, hwX⟩ : ∃ wX, wX = w1.setCell ⟨w.heap.size, 2, none⟩ (.slice A3 (N + 1) c3) := ⟨_, rfl⟩
          rw [← hwX]
          have hal : Below wr.heap.size wr (wr.alloc (.cells #[.int .i64 (r0 : Int)] 3)) := (Below.refl _ _).alloc (Nat.le_refl _) _
          have HO2 : Hid (wX.ownsRow (w.heap.size + 1) 165 1 (.slice A1 N c1) N (longsV (wordsL bs))) := by
            rw [hwX]
            have h1 := own_grown (own_ext HO.out hal (Nat.le_refl _)) HG1.out HVO.out
            exact ownsRow_setCell_other h1 (own_ne h1 HBK1.out (by decide)) _
          have HON2 : Hid (wX.ownsRow (w.heap.size + 1) 3 1 (.slice A3 (N + 1) c3) (N + 1) (natsV (onesL bs (N + 1)))) := by
            rw [hwX, HOS.out]
            have h1 := HO1.out
            have h2 : natsV (onesL bs N ++ [r0]) = natsV (onesL bs N) ++ [.int .i64 (r0 : Int)] := by unfold natsV; rw [List.map_append]; rfl
            rw [h2]
            exact ownsRow_setCell_other h1 (own_ne h1 HBK1.out (by decide)) _
          have HBK2 : Hid (wX.heap[w.heap.size]? = some (.cells #[.slice A1 N c1, .int .i64 (bs.length : Int), .slice A3 (N + 1) c3] 163 (0, 0))) := by
            rw [hwX]; show _ = _; rw [blk_set HBK1.out]; simp
          have HX2 : Hid (Below w.heap.size w wX) := by
            rw [hwX]; exact (HX.out.trans (HB1.out.mono (by omega))).setCell (Nat.le_refl _) _
          clear hwX hal HO HON HBK HX HVO HBK1 HO1 HG1 HB1 HOS hbz hNW
          go_wp2
          go_ret2
          refine ⟨w.heap.size, rfl, Nat.le_refl _, blk_lt HBK2.out, ?_, HX2.out⟩
          refine ⟨A1, c1, A3, c3, ?_, ?_, ?_, Nat.le_refl _⟩
          · rw [HNW.out]; exact HBK2.out
          · rw [HNW.out]; exact own_lower HO2.out (by omega)
          · rw [HNW.out]; exact own_lower HON2.out (by omega)
theorem vNew_any (w : World) (A : Option Addr) (n c : Nat) (bs : List Bool) (hn : bs.length = n) (hm : n ≤ 1048576) (hr : Rds w A (boolsV bs)) :
    Calls Try.prog 76 #[.slice A n c] w (VNewPost w bs) := (New_typed w A n c bs hn hm hr).mono fun e w' h => by
  obtain ⟨p, h1, h2, h3, h4, h5⟩ := h
  exact ⟨p, h1, h2, h3, h4.vecN, h5⟩
end Go.Proofs.Ytjpcfpffbicpnaa

end