/- The checksum, as numbers: one bit, one byte, bytes. -/
set_option linter.unusedVariables false
set_option linter.unusedSimpArgs false
namespace Lec

def cstep (c : Nat) : Nat := if c % 2 = 1 then (c / 2) ^^^ 3988292384 else c / 2
def citer : Nat → Nat → Nat
  | 0, c => c
  | k + 1, c => cstep (citer k c)
def cbyte (c : Nat) : Nat := citer 8 c
def cfold (c : Nat) (bs : List UInt8) : Nat := bs.foldl (fun c b => cbyte (c ^^^ b.toNat)) c
def csum (s : Nat) (bs : List UInt8) : Nat := 4294967295 - cfold (4294967295 - s) bs

theorem xor_lt {a b : Nat} (ha : a < 4294967296) (hb : b < 4294967296) : a ^^^ b < 4294967296 := Nat.xor_lt_two_pow (n := 32) ha hb
theorem cstep_lt {c : Nat} (h : c < 4294967296) : cstep c < 4294967296 := by
  unfold cstep; split
  · exact xor_lt (by omega) (by omega)
  · omega
theorem citer_lt {c : Nat} (h : c < 4294967296) : ∀ k, citer k c < 4294967296
  | 0 => h
  | k + 1 => cstep_lt (citer_lt h k)
theorem cbyte_lt {c : Nat} (h : c < 4294967296) : cbyte c < 4294967296 := citer_lt h 8
theorem cfold_snoc (c : Nat) (bs : List UInt8) (b : UInt8) : cfold c (bs ++ [b]) = cbyte (cfold c bs ^^^ b.toNat) := by simp [cfold]
theorem u8_lt (b : UInt8) : b.toNat < 256 := b.toNat_lt
theorem cfold_lt (bs : List UInt8) : ∀ {c : Nat}, c < 4294967296 → cfold c bs < 4294967296 := by
  induction bs with
  | nil => intro c h; exact h
  | cons b bs ih => intro c h; exact ih (cbyte_lt (xor_lt h (by have := u8_lt b; omega)))

theorem cstep_xor (a b : Nat) : cstep (a ^^^ b) = cstep a ^^^ cstep b := by
  have hd : (a ^^^ b) / 2 = (a / 2) ^^^ (b / 2) := by
    have := Nat.shiftRight_xor_distrib (a := a) (b := b) (i := 1)
    simpa [Nat.shiftRight_succ] using this
  have hm : (a ^^^ b) % 2 = (a % 2) ^^^ (b % 2) := Nat.xor_mod_two_pow (n := 1)
  unfold cstep
  rw [hd, hm]
  rcases Nat.mod_two_eq_zero_or_one a with ha | ha <;> rcases Nat.mod_two_eq_zero_or_one b with hb | hb <;> rw [ha, hb] <;> simp
  · rw [Nat.xor_assoc]
  · rw [Nat.xor_assoc, Nat.xor_assoc, Nat.xor_comm (b / 2)]
  · rw [Nat.xor_assoc, Nat.xor_comm 3988292384 (b / 2 ^^^ 3988292384), Nat.xor_assoc, Nat.xor_self, Nat.xor_zero]
theorem citer_xor (a b : Nat) : ∀ k, citer k (a ^^^ b) = citer k a ^^^ citer k b
  | 0 => rfl
  | k + 1 => by show cstep _ = cstep _ ^^^ cstep _; rw [citer_xor a b k, cstep_xor]
theorem cstep_even (m : Nat) : cstep (m * 2) = m := by unfold cstep; rw [if_neg (by omega)]; omega
theorem cbyte_high (q : Nat) : cbyte (q * 256) = q := by
  show cstep (cstep (cstep (cstep (cstep (cstep (cstep (cstep (q * 256)))))))) = q
  rw [show q * 256 = q * 128 * 2 by omega, cstep_even, show q * 128 = q * 64 * 2 by omega, cstep_even, show q * 64 = q * 32 * 2 by omega, cstep_even, show q * 32 = q * 16 * 2 by omega, cstep_even,
    show q * 16 = q * 8 * 2 by omega, cstep_even, show q * 8 = q * 4 * 2 by omega, cstep_even, show q * 4 = q * 2 * 2 by omega, cstep_even, cstep_even]
theorem split8 (c : Nat) : (c / 256 * 256) ^^^ (c % 256) = c := by
  apply Nat.eq_of_testBit_eq
  intro i
  rw [Nat.testBit_xor, show (256 : Nat) = 2 ^ 8 from rfl, Nat.testBit_mul_two_pow, Nat.testBit_mod_two_pow, Nat.testBit_div_two_pow]
  by_cases h : 8 ≤ i
  · simp [h, show ¬ i < 8 by omega, show i - 8 + 8 = i by omega]
  · simp [h, show i < 8 by omega]
theorem cbyte_table (c b : Nat) : (c / 256) ^^^ cbyte ((c % 256) ^^^ b) = cbyte (c ^^^ b) := by
  have h := citer_xor (c / 256 * 256) (c % 256 ^^^ b) 8
  rw [show citer 8 (c / 256 * 256) = c / 256 from cbyte_high _, ← Nat.xor_assoc, split8] at h
  exact h.symm

theorem cstep_inj {a b : Nat} (ha : a < 4294967296) (hb : b < 4294967296) (h : cstep a = cstep b) : a = b := by
  have far : ∀ x y : Nat, x < 2147483648 → y < 2147483648 → x ^^^ 3988292384 ≠ y := by
    intro x y hx hy e
    have e' := congrArg (fun z => Nat.testBit z 31) e
    simp only [Nat.testBit_xor] at e'
    rw [Nat.testBit_lt_two_pow (i := 31) (by omega : x < 2 ^ 31), Nat.testBit_lt_two_pow (i := 31) (by omega : y < 2 ^ 31)] at e'
    revert e'; decide
  unfold cstep at h
  split at h <;> split at h
  · have := congrArg (fun z => z ^^^ 3988292384) h
    simp only [Nat.xor_assoc, Nat.xor_self, Nat.xor_zero] at this
    omega
  · exact absurd h (far _ _ (by omega) (by omega))
  · exact absurd h.symm (far _ _ (by omega) (by omega))
  · omega
theorem citer_inj {a b : Nat} (ha : a < 4294967296) (hb : b < 4294967296) : ∀ k, citer k a = citer k b → a = b
  | 0, h => h
  | k + 1, h => citer_inj ha hb k (cstep_inj (citer_lt ha k) (citer_lt hb k) h)
theorem cbyte_inj {a b : Nat} (ha : a < 4294967296) (hb : b < 4294967296) (h : cbyte a = cbyte b) : a = b := citer_inj ha hb 8 h
theorem xor_inj_right {a b c : Nat} (h : a ^^^ c = b ^^^ c) : a = b := by
  have := congrArg (fun z => z ^^^ c) h
  simpa only [Nat.xor_assoc, Nat.xor_self, Nat.xor_zero] using this
theorem xor_inj_left {a b c : Nat} (h : c ^^^ a = c ^^^ b) : a = b := by
  rw [Nat.xor_comm c a, Nat.xor_comm c b] at h; exact xor_inj_right h
theorem cfold_inj (bs : List UInt8) : ∀ {a b : Nat}, a < 4294967296 → b < 4294967296 → cfold a bs = cfold b bs → a = b := by
  induction bs with
  | nil => intro a b _ _ h; exact h
  | cons x bs ih =>
    intro a b ha hb h
    have hx := u8_lt x
    have la := xor_lt ha (show x.toNat < 4294967296 by omega)
    have lb := xor_lt hb (show x.toNat < 4294967296 by omega)
    exact xor_inj_right (cbyte_inj la lb (ih (cbyte_lt la) (cbyte_lt lb) h))
theorem cfold_append (c : Nat) (xs ys : List UInt8) : cfold c (xs ++ ys) = cfold (cfold c xs) ys := by simp [cfold]
theorem csum_nil {s : Nat} (h : s < 4294967296) : csum s [] = s := by show 4294967295 - (4294967295 - s) = s; omega
theorem csum_lt (s : Nat) (bs : List UInt8) : csum s bs < 4294967296 := by unfold csum; omega
theorem csum_append (s : Nat) (xs ys : List UInt8) : csum (csum s xs) ys = csum s (xs ++ ys) := by
  unfold csum
  have h := cfold_lt xs (c := 4294967295 - s) (by omega)
  rw [cfold_append, show 4294967295 - (4294967295 - cfold (4294967295 - s) xs) = cfold (4294967295 - s) xs by omega]
/-- One byte turned: another sum. -/
theorem csum_turned (s : Nat) (xs ys : List UInt8) (a b : UInt8) (hne : a ≠ b) : csum s (xs ++ a :: ys) ≠ csum s (xs ++ b :: ys) := by
  intro h
  unfold csum at h
  have h0 : 4294967295 - s < 4294967296 := by omega
  have l1 := cfold_lt (xs ++ a :: ys) h0
  have l2 := cfold_lt (xs ++ b :: ys) h0
  have e : cfold (4294967295 - s) (xs ++ a :: ys) = cfold (4294967295 - s) (xs ++ b :: ys) := by omega
  rw [cfold_append, cfold_append] at e
  have lx := cfold_lt xs h0
  have ua := u8_lt a
  have ub := u8_lt b
  have la := xor_lt lx (show a.toNat < 4294967296 by omega)
  have lb := xor_lt lx (show b.toNat < 4294967296 by omega)
  have e2 := cfold_inj ys (cbyte_lt la) (cbyte_lt lb) e
  exact hne (UInt8.toNat_inj.1 (xor_inj_left (cbyte_inj la lb e2)))

end Lec
