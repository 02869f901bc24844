/- Several texts in one. The checksum, as numbers: one bit, one byte, bytes. | The walks of package sum: what its functions answer. | The walk of sum.Sum by its table. -/
import Derived.Test.YtjpcfpffbicpnaaProg
import Derived.Test.YtjpcfpffbicpnaaPackBas
section
set_option linter.unusedVariables false
set_option linter.unusedSimpArgs false
namespace Lec

def cstep (c : Nat) : Nat := if c % 2 = 1 then (c / 2) ^^^ 3988292384 else c / 2
def citer : Nat → Nat → Nat
  | 0, c => c
  | k + 1, c => cstep (citer k c)
def cbyte (c : Nat) : Nat := citer 8 c
def cfold (c : Nat) (bs : List UInt8) : Nat := bs.foldl (fun c b => cbyte (c ^^^ b.toNat)) c
def csum (s : Nat) (bs : List UInt8) : Nat := 4294967295 - cfold (4294967295 - s) bs

theorem xor_lt {a b : Nat} (ha : a < 4294967296) (hb : b < 4294967296) : a ^^^ b < 4294967296 := Nat.xor_lt_two_pow (n := 32) ha hb
theorem cstep_lt {c : Nat} (h : c < 4294967296) : cstep c < 4294967296 := by
  unfold cstep; split
  · exact xor_lt (by omega) (by omega)
  · omega
theorem citer_lt {c : Nat} (h : c < 4294967296) : ∀ k, citer k c < 4294967296
  | 0 => h
  | k + 1 => cstep_lt (citer_lt h k)
theorem cbyte_lt {c : Nat} (h : c < 4294967296) : cbyte c < 4294967296 := citer_lt h 8
theorem cfold_snoc (c : Nat) (bs : List UInt8) (b : UInt8) : cfold c (bs ++ [b]) = cbyte (cfold c bs ^^^ b.toNat) := by simp [cfold]
theorem u8_lt (b : UInt8) : b.toNat < 256 := b.toNat_lt
theorem cfold_lt (bs : List UInt8) : ∀ {c : Nat}, c < 4294967296 → cfold c bs < 4294967296 := by
  induction bs with
  | nil => intro c h; exact h
  | cons b bs ih => intro c h; exact ih (cbyte_lt (xor_lt h (by have := u8_lt b; omega)))

theorem cstep_xor (a b : Nat) : cstep (a ^^^ b) = cstep a ^^^ cstep b := by
  have hd : (a ^^^ b) / 2 = (a / 2) ^^^ (b / 2) := by
    have := Nat.shiftRight_xor_distrib (a := a) (b := b) (i := 1)
    simpa [Nat.shiftRight_succ] using this
  have hm : (a ^^^ b) % 2 = (a % 2) ^^^ (b % 2) := Nat.xor_mod_two_pow (n := 1)
  unfold cstep
  rw [hd, hm]
  rcases Nat.mod_two_eq_zero_or_one a with ha | ha <;> rcases Nat.mod_two_eq_zero_or_one b with hb | hb <;> rw [ha, hb] <;> simp
  · rw [Nat.xor_assoc]
  · rw [Nat.xor_assoc, Nat.xor_assoc, Nat.xor_comm (b / 2)]
  · rw [Nat.xor_assoc, Nat.xor_comm 3988292384 (b / 2 ^^^ 3988292384), Nat.xor_assoc, Nat.xor_self, Nat.xor_zero]
theorem citer_xor (a b : Nat) : ∀ k, citer k (a ^^^ b) = citer k a ^^^ citer k b
  | 0 => rfl
  | k + 1 => by show cstep _ = cstep _ ^^^ cstep _; rw [citer_xor a b k, cstep_xor]
theorem cstep_even (m : Nat) : cstep (m * 2) = m := by unfold cstep; rw [if_neg (by omega)]; omega
theorem cbyte_high (q : Nat) : cbyte (q * 256) = q := by
  show cstep (cstep (cstep (cstep (cstep (cstep (cstep (cstep (q * 256)))))))) = q
  rw [show q * 256 = q * 128 * 2 by omega, cstep_even, show q * 128 = q * 64 * 2 by omega, cstep_even, show q * 64 = q * 32 * 2 by omega, cstep_even, show q * 32 = q * 16 * 2 by omega, cstep_even,
    show q * 16 = q * 8 * 2 by omega, cstep_even, show q * 8 = q * 4 * 2 by omega, cstep_even, show q * 4 = q * 2 * 2 by omega, cstep_even, cstep_even]
theorem split8 (c : Nat) : (c / 256 * 256) ^^^ (c % 256) = c := by
  apply Nat.eq_of_testBit_eq
  intro i
  rw [Nat.testBit_xor, show (256 : Nat) = 2 ^ 8 from rfl, Nat.testBit_mul_two_pow, Nat.testBit_mod_two_pow, Nat.testBit_div_two_pow]
  by_cases h : 8 ≤ i
  · simp [h, show ¬ i < 8 by omega, show i - 8 + 8 = i by omega]
  · simp [h, show i < 8 by omega]
theorem cbyte_table (c b : Nat) : (c / 256) ^^^ cbyte ((c % 256) ^^^ b) = cbyte (c ^^^ b) := by
  have h := citer_xor (c / 256 * 256) (c % 256 ^^^ b) 8
  rw [show citer 8 (c / 256 * 256) = c / 256 from cbyte_high _, ← Nat.xor_assoc, split8] at h
  exact h.symm

theorem cstep_inj {a b : Nat} (ha : a < 4294967296) (hb : b < 4294967296) (h : cstep a = cstep b) : a = b := by
  have far : ∀ x y : Nat, x < 2147483648 → y < 2147483648 → x ^^^ 3988292384 ≠ y := by
    intro x y hx hy e
    have e' := congrArg (fun z => Nat.testBit z 31) e
    simp only [Nat.testBit_xor] at e'
    rw [Nat.testBit_lt_two_pow (i := 31) (by omega : x < 2 ^ 31), Nat.testBit_lt_two_pow (i := 31) (by omega : y < 2 ^ 31)] at e'
    revert e'; decide
  unfold cstep at h
  split at h <;> split at h
  · have := congrArg (fun z => z ^^^ 3988292384) h
    simp only [Nat.xor_assoc, Nat.xor_self, Nat.xor_zero] at this
    omega
  · exact absurd h (far _ _ (by omega) (by omega))
  · exact absurd h.symm (far _ _ (by omega) (by omega))
  · omega
theorem citer_inj {a b : Nat} (ha : a < 4294967296) (hb : b < 4294967296) : ∀ k, citer k a = citer k b → a = b
  | 0, h => h
  | k + 1, h => citer_inj ha hb k (cstep_inj (citer_lt ha k) (citer_lt hb k) h)
theorem cbyte_inj {a b : Nat} (ha : a < 4294967296) (hb : b < 4294967296) (h : cbyte a = cbyte b) : a = b := citer_inj ha hb 8 h
theorem xor_inj_right {a b c : Nat} (h : a ^^^ c = b ^^^ c) : a = b := by
  have := congrArg (fun z => z ^^^ c) h
  simpa only [Nat.xor_assoc, Nat.xor_self, Nat.xor_zero] using this
theorem xor_inj_left {a b c : Nat} (h : c ^^^ a = c ^^^ b) : a = b := by
  rw [Nat.xor_comm c a, Nat.xor_comm c b] at h; exact xor_inj_right h
theorem cfold_inj (bs : List UInt8) : ∀ {a b : Nat}, a < 4294967296 → b < 4294967296 → cfold a bs = cfold b bs → a = b := by
  induction bs with
  | nil => intro a b _ _ h; exact h
  | cons x bs ih =>
    intro a b ha hb h
    have hx := u8_lt x
    have la := xor_lt ha (show x.toNat < 4294967296 by omega)
    have lb := xor_lt hb (show x.toNat < 4294967296 by omega)
    exact xor_inj_right (cbyte_inj la lb (ih (cbyte_lt la) (cbyte_lt lb) h))
theorem cfold_append (c : Nat) (xs ys : List UInt8) : cfold c (xs ++ ys) = cfold (cfold c xs) ys := by simp [cfold]
theorem csum_nil {s : Nat} (h : s < 4294967296) : csum s [] = s := by show 4294967295 - (4294967295 - s) = s; omega
theorem csum_lt (s : Nat) (bs : List UInt8) : csum s bs < 4294967296 := by unfold csum; omega
theorem csum_append (s : Nat) (xs ys : List UInt8) : csum (csum s xs) ys = csum s (xs ++ ys) := by
  unfold csum
  have h := cfold_lt xs (c := 4294967295 - s) (by omega)
  rw [cfold_append, show 4294967295 - (4294967295 - cfold (4294967295 - s) xs) = cfold (4294967295 - s) xs by omega]
/-- One byte turned: another sum. -/
theorem csum_turned (s : Nat) (xs ys : List UInt8) (a b : UInt8) (hne : a ≠ b) : csum s (xs ++ a :: ys) ≠ csum s (xs ++ b :: ys) := by
  intro h
  unfold csum at h
  have h0 : 4294967295 - s < 4294967296 := by omega
  have l1 := cfold_lt (xs ++ a :: ys) h0
  have l2 := cfold_lt (xs ++ b :: ys) h0
  have e : cfold (4294967295 - s) (xs ++ a :: ys) = cfold (4294967295 - s) (xs ++ b :: ys) := by omega
  rw [cfold_append, cfold_append] at e
  have lx := cfold_lt xs h0
  have ua := u8_lt a
  have ub := u8_lt b
  have la := xor_lt lx (show a.toNat < 4294967296 by omega)
  have lb := xor_lt lx (show b.toNat < 4294967296 by omega)
  have e2 := cfold_inj ys (cbyte_lt la) (cbyte_lt lb) e
  exact hne (UInt8.toNat_inj.1 (xor_inj_left (cbyte_inj la lb e2)))

end Lec

end
section
set_option linter.unusedVariables false
set_option linter.unusedSimpArgs false
namespace Go.Proofs.Ytjpcfpffbicpnaa
open Go.RowKit Lec

theorem and1 (c : Nat) (h : c < 4294967296) : bits BinOp.and IntKind.u32 (c : Int) 1 = ((c % 2 : Nat) : Int) := by
  rw [show (1 : Int) = ((1 : Nat) : Int) from rfl, u32_and_nat c 1 h (by omega), Nat.and_one_is_mod]

theorem crc_bits (g o : Nat) (w : World) (s : Nat) (hs : s < 4294967296) (hc : w.cell? ⟨g, o, none⟩ = some (.int .u32 (s : Int))) (hf : w.frozen? ⟨g, o, none⟩ = false) :
    Calls Try.prog 115 #[.pointer (some ⟨g, o, none⟩)] w fun e w' => e = .returned (.tuple #[]) ∧ w.setCell ⟨g, o, none⟩ (.int .u32 (cbyte s : Int)) = w' := by
  go_enter Try.func115, Try.ntmps115
  go_wp2
  go_loopw [2] (fun i wr => ∃ k : Nat, k ≤ 8 ∧ i = .int .i64 k ∧ wr = w.setCell ⟨g, o, none⟩ (.int .u32 (citer k s : Int))) (fun i _ => 8 - (intOf i).toNat)
  case atStart => exact ⟨0, by omega, rfl, (setCell_same w g o _ hc).symm⟩
  case round =>
    obtain ⟨k, hk, rfl, rfl⟩ := hrel
    have hl := citer_lt hs k
    by_cases h8 : k < 8
    · have H := and1 _ hl
      by_cases h2 : citer k s % 2 = 1
      · have hx : (bits BinOp.and IntKind.u32 ((citer k s : Nat) : Int) 1 == 1) = true := by rw [H, h2]; rfl
        have E : Hid (bits BinOp.xor IntKind.u32 ((citer k s : Nat) / 2 : Int) 3988292384 = (citer (k + 1) s : Nat)) := by
          have := u32_xor_nat (citer k s / 2) 3988292384 (by omega) (by omega)
          rw [show citer (k + 1) s = (citer k s / 2) ^^^ 3988292384 by show cstep _ = _; unfold cstep; rw [if_pos h2], ← this]; rfl
        clear H h2
        go_wp2
        go_roundw
        case rel => exact ⟨k + 1, by omega, by go_num, by rw [setCell_twice, E.out]⟩
        case measure => simp [intOf]; omega
      · have hx : (bits BinOp.and IntKind.u32 ((citer k s : Nat) : Int) 1 == 1) = false := by rw [H, show citer k s % 2 = 0 by omega]; rfl
        have E : Hid (((citer k s : Nat) / 2 : Int) = (citer (k + 1) s : Nat)) := by
          rw [show citer (k + 1) s = (citer k s / 2) by show cstep _ = _; unfold cstep; rw [if_neg h2]]; rfl
        clear H h2
        go_wp2
        go_roundw
        case rel => exact ⟨k + 1, by omega, by go_num, by rw [setCell_twice, E.out]⟩
        case measure => simp [intOf]; omega
    · obtain rfl : k = 8 := by omega
      go_wp2
      go_end0
      exact ⟨rfl, rfl⟩

theorem crc_add (g o : Nat) (w : World) (s : Nat) (hs : s < 4294967296) (hc : w.cell? ⟨g, o, none⟩ = some (.int .u32 (s : Int))) (hf : w.frozen? ⟨g, o, none⟩ = false)
    (A : Option Addr) (n c : Nat) (bs : List UInt8) (hn : bs.length = n) (hm : n ≤ 9223372036854775807) (hr : Rds w A (bytesV bs)) (hne : ∀ a, A = some a → 0 < n → a.block ≠ g) :
    Calls Try.prog 88 #[.pointer (some ⟨g, o, none⟩), .slice A n c] w fun e w' => e = .returned (.tuple #[]) ∧ w.setCell ⟨g, o, none⟩ (.int .u32 (cfold s bs : Int)) = w' := by
  have HR := Lib.hid hr
  have HN := Lib.hid hn
  clear hr hn
  go_enter Try.func88, Try.ntmps88
  go_wp2
  go_loopw [8] (fun i wr => ∃ k : Nat, k ≤ n ∧ i = .int .i64 k ∧ Hid (wr = w.setCell ⟨g, o, none⟩ (.int .u32 (cfold s (bs.take k) : Int)))) (fun i _ => n - (intOf i).toNat)
  case atStart => exact ⟨0, by omega, rfl, (setCell_same w g o _ hc).symm⟩
  case round =>
    obtain ⟨k, hk, rfl, HW⟩ := hrel
    by_cases h8 : k < n
    · have hk' : k < bs.length := by rw [HN.out]; exact h8
      obtain ⟨a, rfl, hb⟩ := HR.out.byte k hk'
      have hb1 : wr.cell? (a.add k) = some (.int .u8 (bs[k].toNat : Int)) := by rw [HW.out, cell_set_far _ (by rw [add_block]; exact hne a rfl (by omega))]; exact hb
      have hc1 : wr.cell? ⟨g, o, none⟩ = some (.int .u32 (cfold s (bs.take k) : Int)) := by rw [HW.out]; exact cell_set_self _ hc
      have hf1 : wr.frozen? ⟨g, o, none⟩ = false := by rw [HW.out, frozen_set]; exact hf
      have hcl := cfold_lt (bs.take k) hs
      have hu : ((bs[k].toNat : Nat) : Int) % 4294967296 = (bs[k].toNat : Int) := by have := u8_lt bs[k]; omega
      have hx : bits BinOp.xor IntKind.u32 ((cfold s (bs.take k) : Nat) : Int) ((bs[k].toNat : Nat) : Int) = ((cfold s (bs.take k) ^^^ bs[k].toNat : Nat) : Int) := u32_xor_nat _ _ hcl (by have := u8_lt bs[k]; omega)
      have HL : Hid (cfold s (bs.take (k + 1)) = cbyte (cfold s (bs.take k) ^^^ bs[k].toNat)) := by
        rw [List.take_succ_eq_append_getElem hk']; exact cfold_snoc _ _ _
      clear hb
      go_wp2_with fail
      refine (crc_bits g o _ _ (xor_lt hcl (by have := u8_lt bs[k]; omega)) (cell_set_self _ hc1) (by rw [frozen_set]; exact hf1)).mono ?_
      rintro e w' ⟨rfl, rfl⟩
      go_wp2
      go_roundw
      case rel => exact ⟨k + 1, by omega, by go_num, by show _ = _; rw [setCell_twice, HW.out, setCell_twice, HL.out]⟩
      case measure => simp [intOf]; omega
    · obtain rfl : k = n := by omega
      go_wp2
      go_end0
      exact ⟨rfl, by rw [HW.out, List.take_of_length_le (by rw [HN.out]; exact Nat.le_refl _)]⟩

def Z256 : Array Value := (List.replicate 256 (Value.int .u32 0)).toArray
theorem zv_table (w : World) : (zeroValue 149).run Try.prog w = .ok (.agg Z256) w := by kernel_rfl
def tabV : List Value := (List.range 256).map fun i => Value.int .u32 (cbyte i : Int)

set_option maxHeartbeats 400000 in
set_option maxRecDepth 100000 in
theorem crc_table (w : World) :
    Calls Try.prog 89 #[] w fun e w' => e = .returned (.agg tabV.toArray) ∧ Below w.heap.size w w' := by
  have hz := zv_table
  go_enter Try.func89, Try.ntmps89
  go_wp2
  go_loopw [3] (fun i wr => ∃ (k : Nat) (cs : Array Value), k ≤ 256 ∧ i = .int .i64 k ∧ Hid (wr.heap[w.heap.size]? = some (.cells cs 149 (0, 0))) ∧ Hid (cs.size = 256) ∧ Hid (∀ j, j < k → cs[j]? = some (Value.int .u32 (cbyte j : Int))) ∧ Hid (Below w.heap.size w wr)) (fun i _ => 256 - (intOf i).toNat)
  case atStart =>
    refine ⟨0, Z256, by omega, rfl, heap_alloc_new w _, by show _ = _; simp [Z256], fun j hj => by omega, (Below.refl _ _).alloc (Nat.le_refl _) _⟩
  case round =>
    obtain ⟨k, cs, hk, rfl, HB, HS, HC, HL⟩ := hrel
    by_cases h8 : k < 256
    · have hu : (k : Int) % 4294967296 = k := by omega
      have hlt : w.heap.size < wr.heap.size := (Array.getElem?_eq_some_iff.1 HB.out).1
      obtain ⟨v0, hv0⟩ : ∃ v, wr.cell? ⟨w.heap.size, k, none⟩ = some v := ⟨_, (cell_of_row wr w.heap.size k cs _ _ HB.out).trans (Array.getElem?_eq_getElem (by rw [HS.out]; omega))⟩
      have hf0 : wr.frozen? ⟨w.heap.size, k, none⟩ = false := frozen_of_row wr w.heap.size k cs _ HB.out
      go_wp2_with fail
      refine (crc_bits wr.heap.size 0 _ k (by omega) (by simp [go_sem]) (by simp [go_sem])).mono ?_
      rintro e w' ⟨rfl, rfl⟩
      go_wp2
      go_roundw
      case rel =>
        refine ⟨k + 1, cs.setIfInBounds k (Value.int .u32 (cbyte k : Int)), by omega, by go_num, ?_, ?_, ?_, ?_⟩
        · show _ = _
          rw [Below.heap_alloc _ _ _ (by simpa using hlt)]
          exact heap_setCell_same wr w.heap.size k cs _ _ HB.out
        · show _ = _
          rw [Array.size_setIfInBounds]; exact HS.out
        · intro j hj
          rw [Array.getElem?_setIfInBounds]
          by_cases e : k = j
          · rw [if_pos e, if_pos (by rw [HS.out]; omega), ← e]
          · rw [if_neg e]; exact HC.out j (by omega)
        · exact (HL.out.setCell (Nat.le_refl _) _).alloc (by simp; omega) _
      case measure => simp [intOf]; omega
    · obtain rfl : k = 256 := by omega
      obtain rfl : cs = tabV.toArray := by
        apply Array.ext_getElem?
        intro j
        by_cases hj : j < 256
        · rw [HC.out j hj]; simp [tabV, hj]
        · rw [Array.getElem?_eq_none (by rw [HS.out]; omega), Array.getElem?_eq_none (by simp [tabV]; omega)]
      clear HC h8
      have hl : ¬ ((256 : Int) < 256) := by omega
      go_wp2_with (first | (refine wpList_load_row rfl _ _ rfl w.heap.size rfl 149 tabV.toArray (0, 0) _ HB.out Try.underlying149 rfl (by kernel_rfl) ?_) | (refine wpList_store_row rfl _ _ _ rfl w.heap.size tabV.toArray rfl rfl 149 tabV.toArray HB.out (by kernel_rfl) rfl (by kernel_rfl) ?_))
      rw [setRow_self wr w.heap.size tabV.toArray _ _ HB.out]
      exact bodyPost_ret (v := .agg tabV.toArray) (results_cell_row rfl _ wr w.heap.size _ tabV.toArray (0, 0) _ rfl HB.out Try.underlying149 rfl (by kernel_rfl)) rfl ⟨rfl, HL.out⟩

theorem u32_sg : IntKind.u32.signed = false := rfl
theorem u32_mx : IntKind.u32.max = 4294967295 := rfl

set_option maxRecDepth 100000 in
theorem sum_small (s : Nat) (hs : s < 4294967296) (w : World) (A : Option Addr) (n c : Nat) (bs : List UInt8) (hn : bs.length = n) (hm : n < 300) (hr : Rds w A (bytesV bs)) :
    Calls Try.prog 63 #[.int .u32 (s : Int), .slice A n c] w fun e w' => e = .returned (.int .u32 (csum s bs : Int)) ∧ Below w.heap.size w w' := by
  have HR := Lib.hid hr
  have HN := Lib.hid hn
  clear hr hn
  have hm1 : (n : Int) < 300 := by omega
  have hsg := u32_sg
  have hmx := u32_mx
  have hx1 := u32_not s hs
  have hcl := cfold_lt bs (c := 4294967295 - s) (by omega)
  have hx2 := u32_not _ hcl
  go_enter Try.func63, Try.ntmps63
  go_wp2_with fail
  refine (crc_add w.heap.size 0 _ (4294967295 - s) (by omega) (by simp [go_sem]) (by simp [go_sem]) A n c bs HN.out (by omega) (HR.out.ext ((Below.refl _ _).alloc (Nat.le_refl _) _) (Nat.le_refl _)) ?_).mono ?_
  · intro a ha h0
    have := HR.out.blk ha (by simp [bytesV, HN.out]; exact h0)
    omega
  rintro e w' ⟨rfl, rfl⟩
  go_wp2
  go_ret
  refine ⟨rfl, ?_⟩
  exact ((Below.refl _ _).alloc (Nat.le_refl _) _)

end Go.Proofs.Ytjpcfpffbicpnaa

end
section
set_option linter.unusedVariables false
set_option linter.unusedSimpArgs false
namespace Go.Proofs.Ytjpcfpffbicpnaa
open Go.RowKit Lec

set_option maxRecDepth 100000 in
theorem sum_large (s : Nat) (hs : s < 4294967296) (w : World) (A : Option Addr) (n c : Nat) (bs : List UInt8) (hn : bs.length = n) (hm0 : ¬ n < 300) (hm : n ≤ 9223372036854775807) (hr : Rds w A (bytesV bs)) :
    Calls Try.prog 63 #[.int .u32 (s : Int), .slice A n c] w fun e w' => e = .returned (.int .u32 (csum s bs : Int)) ∧ Below w.heap.size w w' := by
  have HR := Lib.hid hr
  have HN := Lib.hid hn
  clear hr hn
  have hm1 : ¬ (n : Int) < 300 := by omega
  have hsg := u32_sg
  have hmx := u32_mx
  have hx1 := u32_not s hs
  have hz := zv_table
  go_enter Try.func63, Try.ntmps63
  go_wp2_with fail
  refine (crc_table _).mono ?_
  rintro e w1 ⟨rfl, hb1⟩
  have hlt1 : w.heap.size < w1.heap.size := by have := hb1.size; simp at this; omega
  have hcs : w1.heap[w.heap.size]? = some (.cells #[.int .u32 ((4294967295 - s : Nat) : Int)] 147 (0, 0)) := (hb1.block _ (by simp)).trans (heap_alloc_new _ _)
  have HB1 : Hid (Below w.heap.size w w1) := ((Below.refl _ _).alloc (Nat.le_refl _) _).trans (hb1.mono (by simp))
  have HCS := Lib.hid hcs
  clear hb1 hcs
  go_wp2_with (refine wpList_store_row rfl _ _ _ rfl w1.heap.size tabV.toArray rfl rfl 149 Z256 (heap_alloc_new _ _) (by kernel_rfl) rfl (by kernel_rfl) ?_)
  clear hz
  generalize hW2 : (w1.alloc (Obj.cells Z256 149)).setRow w1.heap.size tabV.toArray = W2
  obtain ⟨HT, HA, HX⟩ : Hid (W2.heap[w1.heap.size]? = some (.cells tabV.toArray 149 (0, 0))) ∧ Hid (W2.heap[w.heap.size]? = some (.cells #[.int .u32 ((4294967295 - s : Nat) : Int)] 147 (0, 0))) ∧ Hid (Below w.heap.size w W2) := by
    subst hW2
    refine ⟨setRow_heap _ _ _ _ _ _ (heap_alloc_new _ _), (setRow_other _ _ _ _ (by omega)).trans ((Below.heap_alloc _ _ _ hlt1).trans HCS.out), ?_⟩
    exact below_setRow (HB1.out.alloc (by omega) _) (by omega) _
  clear hW2 HCS HB1
  generalize w1.heap.size = g1 at *
  go_loopw [29] (fun i wr => ∃ k : Nat, k ≤ n ∧ i = .int .i64 k ∧ Hid (wr.heap[g1]? = some (.cells tabV.toArray 149 (0, 0))) ∧
      Hid (wr.heap[w.heap.size]? = some (.cells #[.int .u32 (cfold (4294967295 - s) (bs.take k) : Int)] 147 (0, 0))) ∧ Hid (Below w.heap.size w wr)) (fun i _ => n - (intOf i).toNat)
  case atStart => exact ⟨0, by omega, rfl, HT, HA, HX⟩
  case round =>
    clear HT HA HX
    obtain ⟨k, hk, rfl, HT, HA, HX⟩ := hrel
    have hcl := cfold_lt (bs.take k) (c := 4294967295 - s) (by omega)
    have hc0 : wr.cell? ⟨w.heap.size, 0, none⟩ = some (.int .u32 (cfold (4294967295 - s) (bs.take k) : Int)) := cell_of_row wr _ 0 _ _ _ HA.out
    have hf0 : wr.frozen? ⟨w.heap.size, 0, none⟩ = false := frozen_of_row wr _ 0 _ _ HA.out
    by_cases h8 : k < n
    · have hk' : k < bs.length := by rw [HN.out]; exact h8
      obtain ⟨a, rfl, hb⟩ := HR.out.byte k hk'
      have hb1 := cell_ext HX.out (Nat.le_refl _) hb
      clear hb
      have hlk : (k : Int) < n := by omega
      have hub := u8_lt bs[k]
      have hxl : (cfold (4294967295 - s) (bs.take k) % 256) ^^^ bs[k].toNat < 256 := Nat.xor_lt_two_pow (n := 8) (by omega) (by omega)
      have hx3 : bits BinOp.xor IntKind.u8 ((cfold (4294967295 - s) (bs.take k) : Nat) % 256 : Int) ((bs[k].toNat : Nat) : Int) = (((cfold (4294967295 - s) (bs.take k) % 256) ^^^ bs[k].toNat : Nat) : Int) := by
        have := u8_xor_nat (cfold (4294967295 - s) (bs.take k) % 256) bs[k].toNat (by omega) (by omega)
        rw [← this]; rfl
      have hx4 : bits BinOp.xor IntKind.u32 ((cfold (4294967295 - s) (bs.take k) : Nat) / 256 : Int) ((cbyte ((cfold (4294967295 - s) (bs.take k) % 256) ^^^ bs[k].toNat) : Nat) : Int) = ((cfold (4294967295 - s) (bs.take (k + 1)) : Nat) : Int) := by
        have := u32_xor_nat (cfold (4294967295 - s) (bs.take k) / 256) (cbyte ((cfold (4294967295 - s) (bs.take k) % 256) ^^^ bs[k].toNat)) (by omega) (cbyte_lt (by omega))
        rw [List.take_succ_eq_append_getElem hk', cfold_snoc, ← cbyte_table (cfold (4294967295 - s) (bs.take k)) bs[k].toNat, ← this]; rfl
      have htc : wr.cell? ⟨g1, (cfold (4294967295 - s) (bs.take k) % 256) ^^^ bs[k].toNat, none⟩ = some (.int .u32 (cbyte ((cfold (4294967295 - s) (bs.take k) % 256) ^^^ bs[k].toNat) : Int)) := by
        rw [cell_of_row wr g1 _ _ _ _ HT.out]
        simp [tabV, hxl]
      generalize (cfold (4294967295 - s) (bs.take k) % 256) ^^^ bs[k].toNat = ix at *
      go_wp2
      go_region
      all_goals
        clear htc hx3 hxl
        go_wp2
        go_roundw
        case rel =>
          refine ⟨k + 1, by omega, by go_num, ?_, ?_, ?_⟩
          · show _ = _
            first | exact (Below.heap_setCell _ _ _ _ (by simp; omega)).trans HT.out
          · show _ = _
            exact heap_setCell_same wr w.heap.size 0 _ _ _ HA.out
          · exact (HX.out.setCell (Nat.le_refl _) _).drew
        case measure => simp [intOf]; omega
    · obtain rfl : k = n := by omega
      have hx2 := u32_not _ hcl
      have hlk : ¬ (k : Int) < k := by omega
      go_wp2
      go_ret
      refine ⟨?_, HX.out⟩
      rw [List.take_of_length_le (by rw [HN.out]; exact Nat.le_refl _)]
      rfl
end Go.Proofs.Ytjpcfpffbicpnaa

end