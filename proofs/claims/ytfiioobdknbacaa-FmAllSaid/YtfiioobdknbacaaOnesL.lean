/- Counting the ones of 64 bits, by halves: plain. No program stands here. -/
import Derived.Test.YtfiioobdknbacaaBase
set_option linter.unusedVariables false
set_option linter.unusedSimpArgs false
namespace Lec
/-- Bits, the lowest first, as a number. -/
def ofB : List Bool → Nat
  | [] => 0
  | b :: l => b.toNat + 2 * ofB l
theorem ofB_lt : ∀ l : List Bool, ofB l < 2 ^ l.length
  | [] => by decide
  | b :: l => by
    have := ofB_lt l
    have hb : b.toNat ≤ 1 := by cases b <;> decide
    simp only [ofB, List.length_cons, Nat.pow_succ]; omega
/-- Digits, the lowest first, of k bits each. -/
def valD (k : Nat) : List Nat → Nat
  | [] => 0
  | d :: ds => d + 2 ^ k * valD k ds
theorem and_low (A m y k : Nat) (hm : m < 2 ^ k) : A &&& (m + 2 ^ k * y) = (A % 2 ^ k &&& m) + 2 ^ k * (A / 2 ^ k &&& y) := by
  have h1 : (m + 2 ^ k * y) % 2 ^ k = m := by rw [Nat.add_mul_mod_self_left, Nat.mod_eq_of_lt hm]
  have h2 : (m + 2 ^ k * y) / 2 ^ k = y := by rw [Nat.add_mul_div_left _ _ (Nat.two_pow_pos k), Nat.div_eq_of_lt hm, Nat.zero_add]
  have h := Nat.mod_add_div (A &&& (m + 2 ^ k * y)) (2 ^ k)
  rw [Nat.and_mod_two_pow, Nat.and_div_two_pow, h1, h2] at h
  exact h.symm
/-- A mask on digits that are moved down by s bits. -/
theorem mask_digits (k s m : Nat) (hs : s ≤ k) (hm : m < 2 ^ (k - s)) : ∀ ds : List Nat, (∀ d ∈ ds, d < 2 ^ k) → (valD k ds / 2 ^ s) &&& valD k (List.replicate ds.length m) = valD k (ds.map fun d => (d / 2 ^ s) &&& m)
  | [], _ => by simp [valD]
  | d :: ds, h => by
    have ih := mask_digits k s m hs hm ds (fun x hx => h x (List.mem_cons_of_mem _ hx))
    have hd : d < 2 ^ k := h d (List.mem_cons_self)
    have hk : 2 ^ k = 2 ^ s * 2 ^ (k - s) := by rw [← Nat.pow_add]; congr 1; omega
    have hmk : m < 2 ^ k := Nat.lt_of_lt_of_le hm (Nat.pow_le_pow_right (by omega) (by omega))
    have hds : d / 2 ^ s < 2 ^ (k - s) := by rw [Nat.div_lt_iff_lt_mul (Nat.two_pow_pos s), Nat.mul_comm, ← hk]; exact hd
    have hA : (d + 2 ^ k * valD k ds) / 2 ^ s = d / 2 ^ s + 2 ^ (k - s) * valD k ds := by
      rw [hk, Nat.mul_assoc, Nat.add_mul_div_left _ _ (Nat.two_pow_pos s)]
    have hhi : (d + 2 ^ k * valD k ds) / 2 ^ s / 2 ^ k = valD k ds / 2 ^ s := by
      rw [Nat.div_div_eq_div_mul, Nat.mul_comm (2 ^ s), ← Nat.div_div_eq_div_mul, Nat.add_mul_div_left _ _ (Nat.two_pow_pos k), Nat.div_eq_of_lt hd, Nat.zero_add]
    have hlo : ((d + 2 ^ k * valD k ds) / 2 ^ s % 2 ^ k) &&& m = (d / 2 ^ s) &&& m := by
      apply Nat.eq_of_testBit_eq
      intro i
      rw [Nat.testBit_and, Nat.testBit_and]
      by_cases hi : i < k - s
      · rw [Nat.testBit_mod_two_pow, hA, show d / 2 ^ s + 2 ^ (k - s) * valD k ds = 2 ^ (k - s) * valD k ds + d / 2 ^ s from Nat.add_comm _ _, Nat.testBit_two_pow_mul_add _ hds]
        simp [hi, show i < k by omega]
      · have : m.testBit i = false := Nat.testBit_lt_two_pow (Nat.lt_of_lt_of_le hm (Nat.pow_le_pow_right (by omega) (by omega)))
        rw [this, Bool.and_false, Bool.and_false]
    show (d + 2 ^ k * valD k ds) / 2 ^ s &&& (m + 2 ^ k * valD k (List.replicate ds.length m)) = ((d / 2 ^ s) &&& m) + 2 ^ k * valD k (ds.map _)
    rw [and_low _ _ _ _ hmk, hlo, hhi, ih]
theorem valD_add (k : Nat) : ∀ (f g : Nat → Nat) (ds : List Nat), valD k (ds.map f) + valD k (ds.map g) = valD k (ds.map fun d => f d + g d)
  | f, g, [] => rfl
  | f, g, d :: ds => by
    have ih := valD_add k f g ds
    simp only [List.map_cons, valD]
    rw [← ih, Nat.mul_add]; omega
/-- Two digits at a time. -/
def pairD (k : Nat) : List Nat → List Nat
  | a :: b :: ds => (a + 2 ^ k * b) :: pairD k ds
  | l => l
theorem valD_pair (k : Nat) : ∀ (n : Nat) (ds : List Nat), ds.length = 2 * n → valD (2 * k) (pairD k ds) = valD k ds
  | 0, [], _ => rfl
  | n + 1, a :: b :: ds, h => by
    have ih := valD_pair k n ds (by simp at h; omega)
    simp only [pairD, valD]
    rw [ih, Nat.mul_add, ← Nat.mul_assoc, ← Nat.pow_add, Nat.add_assoc, show k + k = 2 * k by omega]
theorem pairD_len (k : Nat) : ∀ (n : Nat) (ds : List Nat), ds.length = 2 * n → (pairD k ds).length = n
  | 0, [], _ => rfl
  | n + 1, a :: b :: ds, h => by simp only [pairD, List.length_cons]; rw [pairD_len k n ds (by simp at h; omega)]
theorem pair_digits (k B : Nat) : ∀ (n : Nat) (ds : List Nat), ds.length = 2 * n → (∀ d ∈ ds, d ≤ B) → ∀ d ∈ pairD k ds, ∃ a b, a ≤ B ∧ b ≤ B ∧ d = a + 2 ^ k * b
  | 0, [], _, _ => fun d hd => by simp [pairD] at hd
  | n + 1, a :: b :: ds, h, hB => fun d hd => by
    simp only [pairD, List.mem_cons] at hd
    rcases hd with rfl | hd
    · exact ⟨a, b, hB a (by simp), hB b (by simp), rfl⟩
    · exact pair_digits k B n ds (by simp at h; omega) (fun x hx => hB x (by simp [hx])) d hd
theorem pair_sum (k B : Nat) (f : Nat → Nat) (hf : ∀ a b, a ≤ B → b ≤ B → f (a + 2 ^ k * b) = a + b) : ∀ (n : Nat) (ds : List Nat), ds.length = 2 * n → (∀ d ∈ ds, d ≤ B) → ((pairD k ds).map f).sum = ds.sum
  | 0, [], _, _ => rfl
  | n + 1, a :: b :: ds, h, hB => by
    have ih := pair_sum k B f hf n ds (by simp at h; omega) (fun x hx => hB x (by simp [hx]))
    simp only [pairD, List.map_cons, List.sum_cons]
    rw [ih, hf a b (hB a (by simp)) (hB b (by simp))]; omega
theorem map_le {f : Nat → Nat} {P : List Nat} {k B : Nat} (hf : ∀ a b, a ≤ B → b ≤ B → f (a + 2 ^ k * b) = a + b) (hP : ∀ d ∈ P, ∃ a b, a ≤ B ∧ b ≤ B ∧ d = a + 2 ^ k * b) : ∀ d ∈ P.map f, d ≤ 2 * B := fun d hd => by
  obtain ⟨x, hx, rfl⟩ := List.mem_map.1 hd
  obtain ⟨a, b, ha, hb, rfl⟩ := hP x hx
  rw [hf a b ha hb]; omega
theorem ofB_val : ∀ l : List Bool, ofB l = valD 1 (l.map Bool.toNat)
  | [] => rfl
  | b :: l => by simp only [ofB, List.map_cons, valD]; rw [ofB_val l]
theorem count_sum : ∀ l : List Bool, l.count true = (l.map Bool.toNat).sum
  | [] => rfl
  | b :: l => by
    rw [List.count_cons, count_sum l, List.map_cons, List.sum_cons]
    cases b
    · simp
    · simp [Nat.add_comm]
theorem and_15 (x : Nat) : x &&& 15 = x % 16 := Nat.and_two_pow_sub_one_eq_mod x 4
theorem and_3 (x : Nat) : x &&& 3 = x % 4 := Nat.and_two_pow_sub_one_eq_mod x 2
theorem and_1 (x : Nat) : x &&& 1 = x % 2 := Nat.and_two_pow_sub_one_eq_mod x 1
theorem valD_mod16 : ∀ ds : List Nat, (∀ d ∈ ds, d % 16 ≤ 4 ∧ d ≤ 68) → valD 8 ds % 16 ≤ 4
  | [], _ => by decide
  | d :: ds, h => by
    have := (h d (by simp)).1
    simp only [valD]; omega
theorem step3 : ∀ ds : List Nat, (∀ d ∈ ds, d % 16 ≤ 4 ∧ d ≤ 68) → (valD 8 ds / 16 + valD 8 ds) &&& valD 8 (List.replicate ds.length 15) = valD 8 (ds.map fun d => (d / 16 + d) % 16)
  | [], _ => by simp [valD]
  | d :: ds, h => by
    have ih := step3 ds (fun x hx => h x (List.mem_cons_of_mem _ hx))
    have hv := valD_mod16 ds (fun x hx => h x (List.mem_cons_of_mem _ hx))
    have hd := (h d (by simp)).2
    show ((d + 2 ^ 8 * valD 8 ds) / 16 + (d + 2 ^ 8 * valD 8 ds)) &&& (15 + 2 ^ 8 * valD 8 (List.replicate ds.length 15)) = (d / 16 + d) % 16 + 2 ^ 8 * valD 8 (ds.map _)
    rw [and_low _ _ _ _ (by decide), and_15]
    have hlo : ((d + 2 ^ 8 * valD 8 ds) / 16 + (d + 2 ^ 8 * valD 8 ds)) % 2 ^ 8 % 16 = (d / 16 + d) % 16 := by omega
    have hhi : ((d + 2 ^ 8 * valD 8 ds) / 16 + (d + 2 ^ 8 * valD 8 ds)) / 2 ^ 8 = valD 8 ds / 16 + valD 8 ds := by omega
    rw [hlo, hhi, ih]
theorem div_of (x a z m : Nat) (h : x = a + m * z) (ha : a < m) : x / m = z := by
  rw [h, Nat.add_mul_div_left _ _ (by omega), Nat.div_eq_of_lt ha, Nat.zero_add]
theorem mod_of (x a z m : Nat) (h : x = a + m * z) (ha : a < m) : x % m = a := by
  rw [h, Nat.add_mul_mod_self_left, Nat.mod_eq_of_lt ha]
theorem f3q (c0 c1 c2 c3 c4 c5 c6 c7 : Nat) (h0 : c0 ≤ 8) : (c0 + 256 * c1 + 65536 * c2 + 16777216 * c3 + 4294967296 * c4 + 1099511627776 * c5 + 281474976710656 * c6 + 72057594037927936 * c7) / 256 = c1 + 256 * c2 + 65536 * c3 + 16777216 * c4 + 4294967296 * c5 + 1099511627776 * c6 + 281474976710656 * c7 :=
  div_of _ c0 _ 256 (by omega) (by omega)
theorem f3s (c0 c1 c2 c3 c4 c5 c6 c7 : Nat) : (c0 + 256 * c1 + 65536 * c2 + 16777216 * c3 + 4294967296 * c4 + 1099511627776 * c5 + 281474976710656 * c6 + 72057594037927936 * c7) + (c1 + 256 * c2 + 65536 * c3 + 16777216 * c4 + 4294967296 * c5 + 1099511627776 * c6 + 281474976710656 * c7) = (c0 + c1) + 256 * (c1 + c2) + 65536 * (c2 + c3) + 16777216 * (c3 + c4) + 4294967296 * (c4 + c5) + 1099511627776 * (c5 + c6) + 281474976710656 * (c6 + c7) + 72057594037927936 * c7 := by omega
theorem f4q (c0 c1 c2 c3 c4 c5 c6 c7 : Nat) (h0 : c0 ≤ 8) (h1 : c1 ≤ 8) (h2 : c2 ≤ 8) : ((c0 + c1) + 256 * (c1 + c2) + 65536 * (c2 + c3) + 16777216 * (c3 + c4) + 4294967296 * (c4 + c5) + 1099511627776 * (c5 + c6) + 281474976710656 * (c6 + c7) + 72057594037927936 * c7) / 65536 = (c2 + c3) + 256 * (c3 + c4) + 65536 * (c4 + c5) + 16777216 * (c5 + c6) + 4294967296 * (c6 + c7) + 1099511627776 * c7 :=
  div_of _ ((c0 + c1) + 256 * (c1 + c2)) _ 65536 (by omega) (by omega)
theorem f4s (c0 c1 c2 c3 c4 c5 c6 c7 : Nat) : ((c0 + c1) + 256 * (c1 + c2) + 65536 * (c2 + c3) + 16777216 * (c3 + c4) + 4294967296 * (c4 + c5) + 1099511627776 * (c5 + c6) + 281474976710656 * (c6 + c7) + 72057594037927936 * c7) + ((c2 + c3) + 256 * (c3 + c4) + 65536 * (c4 + c5) + 16777216 * (c5 + c6) + 4294967296 * (c6 + c7) + 1099511627776 * c7) = (c0 + c1 + c2 + c3) + 256 * (c1 + c2 + c3 + c4) + 65536 * (c2 + c3 + c4 + c5) + 16777216 * (c3 + c4 + c5 + c6) + 4294967296 * (c4 + c5 + c6 + c7) + 1099511627776 * (c5 + c6 + c7) + 281474976710656 * (c6 + c7) + 72057594037927936 * c7 := by omega
theorem f5q (c0 c1 c2 c3 c4 c5 c6 c7 : Nat) (h0 : c0 ≤ 8) (h1 : c1 ≤ 8) (h2 : c2 ≤ 8) (h3 : c3 ≤ 8) (h4 : c4 ≤ 8) (h5 : c5 ≤ 8) (h6 : c6 ≤ 8) : ((c0 + c1 + c2 + c3) + 256 * (c1 + c2 + c3 + c4) + 65536 * (c2 + c3 + c4 + c5) + 16777216 * (c3 + c4 + c5 + c6) + 4294967296 * (c4 + c5 + c6 + c7) + 1099511627776 * (c5 + c6 + c7) + 281474976710656 * (c6 + c7) + 72057594037927936 * c7) / 4294967296 = (c4 + c5 + c6 + c7) + 256 * (c5 + c6 + c7) + 65536 * (c6 + c7) + 16777216 * c7 :=
  div_of _ ((c0 + c1 + c2 + c3) + 256 * (c1 + c2 + c3 + c4) + 65536 * (c2 + c3 + c4 + c5) + 16777216 * (c3 + c4 + c5 + c6)) _ 4294967296 (by omega) (by omega)
theorem f5s (c0 c1 c2 c3 c4 c5 c6 c7 : Nat) : ((c0 + c1 + c2 + c3) + 256 * (c1 + c2 + c3 + c4) + 65536 * (c2 + c3 + c4 + c5) + 16777216 * (c3 + c4 + c5 + c6) + 4294967296 * (c4 + c5 + c6 + c7) + 1099511627776 * (c5 + c6 + c7) + 281474976710656 * (c6 + c7) + 72057594037927936 * c7) + ((c4 + c5 + c6 + c7) + 256 * (c5 + c6 + c7) + 65536 * (c6 + c7) + 16777216 * c7) = (c0 + c1 + c2 + c3 + c4 + c5 + c6 + c7) + 128 * (2 * (c1 + c2 + c3 + c4 + c5 + c6 + c7) + 512 * (c2 + c3 + c4 + c5 + c6 + c7) + 131072 * (c3 + c4 + c5 + c6 + c7) + 33554432 * (c4 + c5 + c6 + c7) + 8589934592 * (c5 + c6 + c7) + 2199023255552 * (c6 + c7) + 562949953421312 * c7) := by omega
theorem f6m (c0 c1 c2 c3 c4 c5 c6 c7 : Nat) (h0 : c0 ≤ 8) (h1 : c1 ≤ 8) (h2 : c2 ≤ 8) (h3 : c3 ≤ 8) (h4 : c4 ≤ 8) (h5 : c5 ≤ 8) (h6 : c6 ≤ 8) (h7 : c7 ≤ 8) : ((c0 + c1 + c2 + c3 + c4 + c5 + c6 + c7) + 128 * (2 * (c1 + c2 + c3 + c4 + c5 + c6 + c7) + 512 * (c2 + c3 + c4 + c5 + c6 + c7) + 131072 * (c3 + c4 + c5 + c6 + c7) + 33554432 * (c4 + c5 + c6 + c7) + 8589934592 * (c5 + c6 + c7) + 2199023255552 * (c6 + c7) + 562949953421312 * c7)) % 128 = c0 + c1 + c2 + c3 + c4 + c5 + c6 + c7 := mod_of _ _ _ 128 rfl (by omega)
theorem b3 (c0 c1 c2 c3 c4 c5 c6 c7 : Nat) (h0 : c0 ≤ 8) (h1 : c1 ≤ 8) (h2 : c2 ≤ 8) (h3 : c3 ≤ 8) (h4 : c4 ≤ 8) (h5 : c5 ≤ 8) (h6 : c6 ≤ 8) (h7 : c7 ≤ 8) : c0 + 256 * c1 + 65536 * c2 + 16777216 * c3 + 4294967296 * c4 + 1099511627776 * c5 + 281474976710656 * c6 + 72057594037927936 * c7 < 9223372036854775808 := by omega
theorem b4 (c0 c1 c2 c3 c4 c5 c6 c7 : Nat) (h0 : c0 ≤ 8) (h1 : c1 ≤ 8) (h2 : c2 ≤ 8) (h3 : c3 ≤ 8) (h4 : c4 ≤ 8) (h5 : c5 ≤ 8) (h6 : c6 ≤ 8) (h7 : c7 ≤ 8) : (c0 + c1) + 256 * (c1 + c2) + 65536 * (c2 + c3) + 16777216 * (c3 + c4) + 4294967296 * (c4 + c5) + 1099511627776 * (c5 + c6) + 281474976710656 * (c6 + c7) + 72057594037927936 * c7 < 9223372036854775808 := by omega
theorem b5 (c0 c1 c2 c3 c4 c5 c6 c7 : Nat) (h0 : c0 ≤ 8) (h1 : c1 ≤ 8) (h2 : c2 ≤ 8) (h3 : c3 ≤ 8) (h4 : c4 ≤ 8) (h5 : c5 ≤ 8) (h6 : c6 ≤ 8) (h7 : c7 ≤ 8) : (c0 + c1 + c2 + c3) + 256 * (c1 + c2 + c3 + c4) + 65536 * (c2 + c3 + c4 + c5) + 16777216 * (c3 + c4 + c5 + c6) + 4294967296 * (c4 + c5 + c6 + c7) + 1099511627776 * (c5 + c6 + c7) + 281474976710656 * (c6 + c7) + 72057594037927936 * c7 < 9223372036854775808 := by omega
theorem b6 (c0 c1 c2 c3 c4 c5 c6 c7 : Nat) (h0 : c0 ≤ 8) (h1 : c1 ≤ 8) (h2 : c2 ≤ 8) (h3 : c3 ≤ 8) (h4 : c4 ≤ 8) (h5 : c5 ≤ 8) (h6 : c6 ≤ 8) (h7 : c7 ≤ 8) : (c0 + c1 + c2 + c3 + c4 + c5 + c6 + c7) + 128 * (2 * (c1 + c2 + c3 + c4 + c5 + c6 + c7) + 512 * (c2 + c3 + c4 + c5 + c6 + c7) + 131072 * (c3 + c4 + c5 + c6 + c7) + 33554432 * (c4 + c5 + c6 + c7) + 8589934592 * (c5 + c6 + c7) + 2199023255552 * (c6 + c7) + 562949953421312 * c7) < 9223372036854775808 := by omega
theorem fold8 (c0 c1 c2 c3 c4 c5 c6 c7 : Nat) (h0 : c0 ≤ 8) (h1 : c1 ≤ 8) (h2 : c2 ≤ 8) (h3 : c3 ≤ 8) (h4 : c4 ≤ 8) (h5 : c5 ≤ 8) (h6 : c6 ≤ 8) (h7 : c7 ≤ 8) (x3 x4 x5 x6 : Nat) (e3 : x3 = c0 + 256 * c1 + 65536 * c2 + 16777216 * c3 + 4294967296 * c4 + 1099511627776 * c5 + 281474976710656 * c6 + 72057594037927936 * c7) (e4 : x4 = x3 + x3 / 256) (e5 : x5 = x4 + x4 / 65536) (e6 : x6 = x5 + x5 / 4294967296) :
    x6 % 128 = c0 + c1 + c2 + c3 + c4 + c5 + c6 + c7 ∧ x3 < 9223372036854775808 ∧ x4 < 9223372036854775808 ∧ x5 < 9223372036854775808 ∧ x6 < 9223372036854775808 := by
  rw [e3, f3q c0 c1 c2 c3 c4 c5 c6 c7 h0, f3s] at e4
  rw [e4, f4q c0 c1 c2 c3 c4 c5 c6 c7 h0 h1 h2, f4s] at e5
  rw [e5, f5q c0 c1 c2 c3 c4 c5 c6 c7 h0 h1 h2 h3 h4 h5 h6, f5s] at e6
  rw [e6, e5, e4, e3]
  exact ⟨f6m _ _ _ _ _ _ _ _ h0 h1 h2 h3 h4 h5 h6 h7, b3 _ _ _ _ _ _ _ _ h0 h1 h2 h3 h4 h5 h6 h7, b4 _ _ _ _ _ _ _ _ h0 h1 h2 h3 h4 h5 h6 h7, b5 _ _ _ _ _ _ _ _ h0 h1 h2 h3 h4 h5 h6 h7, b6 _ _ _ _ _ _ _ _ h0 h1 h2 h3 h4 h5 h6 h7⟩
theorem valD_le (k B : Nat) : ∀ ds : List Nat, (∀ d ∈ ds, d ≤ B) → valD k ds ≤ valD k (List.replicate ds.length B)
  | [], _ => Nat.le_refl _
  | d :: ds, h => by
    have ih := valD_le k B ds (fun x hx => h x (List.mem_cons_of_mem _ hx))
    have := h d (by simp)
    simp only [List.length_cons, List.replicate_succ, valD]
    exact Nat.add_le_add this (Nat.mul_le_mul_left _ ih)
theorem eight {ds : List Nat} (h : ds.length = 8) : ∃ c0 c1 c2 c3 c4 c5 c6 c7, ds = [c0, c1, c2, c3, c4, c5, c6, c7] := by
  match ds, h with
  | [c0, c1, c2, c3, c4, c5, c6, c7], _ => exact ⟨c0, c1, c2, c3, c4, c5, c6, c7, rfl⟩
theorem half16 (x : Nat) (h : x ≤ 4919131752989213764) : x / 16 + x < 9223372036854775808 := by omega
theorem e3x (c0 c1 c2 c3 c4 c5 c6 c7 : Nat) : valD 8 [c0, c1, c2, c3, c4, c5, c6, c7] = c0 + 256 * c1 + 65536 * c2 + 16777216 * c3 + 4294967296 * c4 + 1099511627776 * c5 + 281474976710656 * c6 + 72057594037927936 * c7 := by simp only [valD]; omega
/-- The ones of 64 bits. -/
theorem swar (l : List Bool) (hl : l.length = 64) (x1 x2 x3 x4 x5 x6 : Nat)
    (e1 : x1 = (ofB l / 2 &&& 6148914691236517205) + (ofB l &&& 6148914691236517205)) (e2 : x2 = (x1 / 4 &&& 3689348814741910323) + (x1 &&& 3689348814741910323))
    (e3 : x3 = (x2 / 16 + x2) &&& 1085102592571150095) (e4 : x4 = x3 + x3 / 256) (e5 : x5 = x4 + x4 / 65536) (e6 : x6 = x5 + x5 / 4294967296) :
    x6 % 128 = l.count true ∧ x1 < 18446744073709551616 ∧ x2 < 9223372036854775808 ∧ x2 / 16 + x2 < 9223372036854775808 ∧ x3 < 9223372036854775808 ∧ x4 < 9223372036854775808 ∧ x5 < 9223372036854775808 ∧ x6 < 9223372036854775808 := by
  have hb : ∀ d ∈ l.map Bool.toNat, d ≤ 1 := fun d hd => by
    obtain ⟨b, _, rfl⟩ := List.mem_map.1 hd; cases b <;> decide
  have f1 : ∀ a b, a ≤ 1 → b ≤ 1 → (fun d : Nat => (d / 2 ^ 1 &&& 1) + (d / 2 ^ 0 &&& 1)) (a + 2 ^ 1 * b) = a + b := by
    intro a b ha hb; simp only [and_1]; omega
  have f2 : ∀ a b, a ≤ 2 → b ≤ 2 → (fun d : Nat => (d / 2 ^ 2 &&& 3) + (d / 2 ^ 0 &&& 3)) (a + 2 ^ 2 * b) = a + b := by
    intro a b ha hb; simp only [and_3]; omega
  have f3 : ∀ a b, a ≤ 4 → b ≤ 4 → (fun d : Nat => (d / 16 + d) % 16) (a + 2 ^ 4 * b) = a + b := by
    intro a b ha hb; simp only; omega
  have l0 : (l.map Bool.toNat).length = 2 * 32 := by rw [List.length_map, hl]
  have p1 := pair_digits 1 1 32 _ l0 hb
  have s1 := pair_sum 1 1 (fun d : Nat => (d / 2 ^ 1 &&& 1) + (d / 2 ^ 0 &&& 1)) f1 32 _ l0 hb
  have n1 := pairD_len 1 32 _ l0
  have m1 := map_le (f := (fun d : Nat => (d / 2 ^ 1 &&& 1) + (d / 2 ^ 0 &&& 1))) f1 p1
  have v1 := valD_pair 1 32 _ l0
  have l1 : ((pairD 1 (l.map Bool.toNat)).map fun d : Nat => (d / 2 ^ 1 &&& 1) + (d / 2 ^ 0 &&& 1)).length = 2 * 16 := by rw [List.length_map, n1]
  have q1 : x1 = valD 2 ((pairD 1 (l.map Bool.toNat)).map fun d : Nat => (d / 2 ^ 1 &&& 1) + (d / 2 ^ 0 &&& 1)) := by
    have hlt : ∀ d ∈ pairD 1 (l.map Bool.toNat), d < 2 ^ 2 := fun d hd => by obtain ⟨a, b, ha, hb, rfl⟩ := p1 d hd; omega
    have a1 := mask_digits 2 1 1 (by omega) (by decide) _ hlt
    have a0 := mask_digits 2 0 1 (by omega) (by decide) _ hlt
    rw [n1, show valD 2 (List.replicate 32 1) = 6148914691236517205 by decide] at a1 a0
    rw [e1, ofB_val, ← v1, ← valD_add, ← a1, ← a0]
    simp
  generalize hD1 : ((pairD 1 (l.map Bool.toNat)).map fun d : Nat => (d / 2 ^ 1 &&& 1) + (d / 2 ^ 0 &&& 1)) = D1 at *
  have p2 := pair_digits 2 2 16 _ l1 m1
  have s2 := pair_sum 2 2 (fun d : Nat => (d / 2 ^ 2 &&& 3) + (d / 2 ^ 0 &&& 3)) f2 16 _ l1 m1
  have n2 := pairD_len 2 16 _ l1
  have m2 := map_le (f := (fun d : Nat => (d / 2 ^ 2 &&& 3) + (d / 2 ^ 0 &&& 3))) f2 p2
  have v2 := valD_pair 2 16 _ l1
  have l2 : ((pairD 2 D1).map fun d : Nat => (d / 2 ^ 2 &&& 3) + (d / 2 ^ 0 &&& 3)).length = 2 * 8 := by rw [List.length_map, n2]
  have q2 : x2 = valD 4 ((pairD 2 D1).map fun d : Nat => (d / 2 ^ 2 &&& 3) + (d / 2 ^ 0 &&& 3)) := by
    have hlt : ∀ d ∈ pairD 2 D1, d < 2 ^ 4 := fun d hd => by obtain ⟨a, b, ha, hb, rfl⟩ := p2 d hd; omega
    have a1 := mask_digits 4 2 3 (by omega) (by decide) _ hlt
    have a0 := mask_digits 4 0 3 (by omega) (by decide) _ hlt
    rw [n2, show valD 4 (List.replicate 16 3) = 3689348814741910323 by decide] at a1 a0
    rw [e2, q1, ← v2, ← valD_add, ← a1, ← a0]
    simp
  have b1 : x1 ≤ 12297829382473034410 := by
    rw [q1]; have := valD_le 2 2 D1 m1; rw [l1] at this
    exact Nat.le_trans this (by decide)
  generalize hD2 : ((pairD 2 D1).map fun d : Nat => (d / 2 ^ 2 &&& 3) + (d / 2 ^ 0 &&& 3)) = D2 at *
  have b2 : x2 ≤ 4919131752989213764 := by
    rw [q2]; have := valD_le 4 4 D2 m2; rw [l2] at this
    exact Nat.le_trans this (by decide)
  have p3 := pair_digits 4 4 8 _ l2 m2
  have s3 := pair_sum 4 4 (fun d : Nat => (d / 16 + d) % 16) f3 8 _ l2 m2
  have n3 := pairD_len 4 8 _ l2
  have m3 := map_le (f := (fun d : Nat => (d / 16 + d) % 16)) f3 p3
  have v3 := valD_pair 4 8 _ l2
  have q3 : x3 = valD 8 ((pairD 4 D2).map fun d : Nat => (d / 16 + d) % 16) := by
    have hlt : ∀ d ∈ pairD 4 D2, d % 16 ≤ 4 ∧ d ≤ 68 := fun d hd => by obtain ⟨a, b, ha, hb, rfl⟩ := p3 d hd; omega
    have a1 := step3 _ hlt
    rw [n3, show valD 8 (List.replicate 8 15) = 1085102592571150095 by decide] at a1
    rw [e3, q2, ← v3, a1]
  have l3 : ((pairD 4 D2).map fun d : Nat => (d / 16 + d) % 16).length = 8 := by rw [List.length_map, n3]
  generalize hD3 : ((pairD 4 D2).map fun d : Nat => (d / 16 + d) % 16) = D3 at *
  obtain ⟨c0, c1, c2, c3, c4, c5, c6, c7, hc⟩ := eight l3
  rw [hc] at m3 q3 s3
  have e3' : x3 = c0 + 256 * c1 + 65536 * c2 + 16777216 * c3 + 4294967296 * c4 + 1099511627776 * c5 + 281474976710656 * c6 + 72057594037927936 * c7 := by
    rw [q3]; exact e3x _ _ _ _ _ _ _ _
  obtain ⟨g0, g3, g4, g5, g6⟩ := fold8 c0 c1 c2 c3 c4 c5 c6 c7 (m3 _ (by simp)) (m3 _ (by simp)) (m3 _ (by simp)) (m3 _ (by simp)) (m3 _ (by simp)) (m3 _ (by simp)) (m3 _ (by simp)) (m3 _ (by simp)) x3 x4 x5 x6 e3' e4 e5 e6
  refine ⟨?_, Nat.lt_of_le_of_lt b1 (by decide), Nat.lt_of_le_of_lt b2 (by decide), half16 x2 b2, g3, g4, g5, g6⟩
  rw [g0, count_sum, ← s1, ← s2, ← s3]
  clear e1 e2 e3 e4 e5 e6 e3' g3 g4 g5 g6 g0 b1 b2 m1 m2 m3 q1 q2 q3 s1 s2 s3 hb f1 f2 f3
  simp only [List.sum_cons, List.sum_nil]
  omega
end Lec
