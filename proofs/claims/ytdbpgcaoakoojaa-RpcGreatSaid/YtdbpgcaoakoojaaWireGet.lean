/- The walks of reading a number: wire.GetNum, and the reference's. -/
import Derived.Test.YtdbpgcaoakoojaaWireNum
import Derived.Test.YtdbpgcaoakoojaaBits
set_option linter.unusedVariables false
set_option linter.unusedSimpArgs false
namespace Lec
open Go Go.RowKit
theorem and_tab : ∀ x, x < 256 → x &&& 127 = x % 128 := by decide +kernel
theorem and127 (c : UInt8) : bits BinOp.and IntKind.u8 ((c.toNat : Nat) : Int) 127 = ((c.toNat % 128 : Nat) : Int) := by
  have h := u8_and_nat c.toNat 127 c.toNat_lt (by omega)
  rw [show (127 : Int) = ((127 : Nat) : Int) from rfl, h, and_tab _ c.toNat_lt]

theorem digit_bits (m c k : Nat) (hk : k ≤ 8) (hm : m < 128 ^ k) : bits BinOp.or IntKind.i64 (m : Int) (wrap64 (((c : Nat) : Int) % 128 * 2 ^ (7 * k))) = ((m + c % 128 * 128 ^ k : Nat) : Int) := by
  have hp : (128 : Nat) ^ k = 2 ^ (7 * k) := by rw [Nat.pow_mul]
  have hle : (2 : Nat) ^ (7 * k) ≤ 2 ^ 56 := Nat.pow_le_pow_right (by omega) (by omega)
  have hb : c % 128 * 2 ^ (7 * k) ≤ 127 * 2 ^ 56 := Nat.mul_le_mul (by omega) hle
  have e : ((c : Nat) : Int) % 128 * 2 ^ (7 * k) = ((c % 128 * 2 ^ (7 * k) : Nat) : Int) := by rw [Int.natCast_mul, Int.natCast_pow]; rfl
  have hw : wrap64 ((c % 128 * 2 ^ (7 * k) : Nat) : Int) = ((c % 128 * 2 ^ (7 * k) : Nat) : Int) := by
    unfold wrap64; omega
  rw [e, hw, hp]
  rw [hp] at hm
  rw [i64_or_nat _ _ (by omega) (by omega), Nat.add_comm, Nat.mul_comm, Nat.two_pow_add_eq_or_of_lt hm, Nat.or_comm]

theorem u8_lt' (b : UInt8) : b.toNat < 256 := b.toNat_lt

def refR (bs : List UInt8) : Int × Int := match getB 0 0 bs with | some (m, k) => ((m : Int), (k : Int)) | none => (0, 0)
def getR (bs : List UInt8) : Int × Int × Int := match getB 0 0 bs with | some (m, k) => ((m : Int), (k : Int), 0) | none => (0, 0, 1)
end Lec
namespace Go.Proofs.Ytdbpgcaoakoojaa
open Go.RowKit Lec

set_option maxRecDepth 100000 in
theorem GetNum_any (w : World) (A : Option Addr) (n c : Nat) (bs : List UInt8) (hn : bs.length = n) (hm : n ≤ 9223372036854775807) (hr : Rds w A (bytesV bs)) :
    Calls Try.prog 38 #[.slice A n c] w fun e w' => e = .returned (.tuple #[.int .i64 (getR bs).1, .int .i64 (getR bs).2.1, .int .i64 (getR bs).2.2]) ∧ w = w' := by
  have HR := Lib.hid hr
  have HN := Lib.hid hn
  clear hr hn
  go_enter Try.func38, Try.ntmps38
  go_wp2
  go_loop [2, 9] (fun a i => ∃ k m : Nat, k ≤ n ∧ k ≤ 9 ∧ i = .int .i64 (k : Int) ∧ a = .int .i64 (m : Int) ∧ Hid (m < 128 ^ k) ∧ Hid (getB 0 0 bs = getB k m (bs.drop k))) (fun _ i => n - (intOf i).toNat)
  case atStart => exact ⟨0, 0, by omega, by omega, rfl, rfl, by show _ < _; omega, rfl⟩
  case round =>
    obtain ⟨k, m, hk, hk9, rfl, rfl, HMK, HG⟩ := hrel
    by_cases h8 : k < n
    · have hk' : k < bs.length := by rw [HN.out]; exact h8
      obtain ⟨a, rfl, hb⟩ := HR.out.map k hk'
      have hki : (k : Int) < n := by omega
      have han := and127 bs[k]
      have hd : bs.drop k = bs[k] :: bs.drop (k + 1) := (List.drop_eq_getElem_cons hk')
      have hcl := u8_lt' bs[k]
      have HGS : Hid (getB 0 0 bs = if k = 9 then none else if bs[k].toNat < 128 then (if bs[k].toNat = 0 ∧ 0 < k then none else some (m + bs[k].toNat % 128 * 128 ^ k, k + 1)) else getB (k + 1) (m + bs[k].toNat % 128 * 128 ^ k) (bs.drop (k + 1))) := by
        have := HG.out; rw [hd] at this; exact this
      clear hd HG
      by_cases h9 : k = 9
      · have h9i : ((k : Int) == 9) = true := by rw [beq_iff_eq]; omega
        have HR2 : Hid (getR bs = (0, 0, 1)) := by show _ = _; unfold getR; rw [HGS.out, if_pos h9]
        clear h9
        go_wp2
        go_ret3
        exact ⟨by rw [HR2.out]; rfl, rfl⟩
      · have h9i : ((k : Int) == 9) = false := by rw [beq_eq_false_iff_ne]; omega
        have hk8 : k ≤ 8 := by omega
        have HGT : Hid (getB 0 0 bs = if bs[k].toNat < 128 then (if bs[k].toNat = 0 ∧ 0 < k then none else some (m + bs[k].toNat % 128 * 128 ^ k, k + 1)) else getB (k + 1) (m + bs[k].toNat % 128 * 128 ^ k) (bs.drop (k + 1))) := by
          have := HGS.out; rwa [if_neg h9] at this
        have hdb := digit_bits m bs[k].toNat k hk8 HMK.out
        have HMB : Hid (m + bs[k].toNat % 128 * 128 ^ k < 128 ^ (k + 1)) := by
          show _ < _
          rw [Nat.pow_succ]
          have h1 : bs[k].toNat % 128 * 128 ^ k ≤ 127 * 128 ^ k := Nat.mul_le_mul_right _ (by omega)
          have := HMK.out
          omega
        clear HGS h9 HMK
        generalize m + bs[k].toNat % 128 * 128 ^ k = m2 at *
        by_cases hc : bs[k].toNat < 128
        · have hci : (bs[k].toNat : Int) < 128 := by omega
          by_cases hz : bs[k].toNat = 0 ∧ 0 < k
          · have hzi : ((bs[k].toNat : Int) == 0) = true := by rw [beq_iff_eq]; omega
            have hki0 : (0 : Int) < (k : Int) := by omega
            have HR2 : Hid (getR bs = (0, 0, 1)) := by show _ = _; unfold getR; rw [HGT.out, if_pos hc, if_pos hz]
            clear hz hdb
            go_wp2
            go_ret3
            exact ⟨by rw [HR2.out]; rfl, rfl⟩
          · have HR2 : Hid (getR bs = ((m2 : Int), ((k + 1 : Nat) : Int), 0)) := by show _ = _; unfold getR; rw [HGT.out, if_pos hc, if_neg hz]
            by_cases hz0 : bs[k].toNat = 0
            · have hki0 : ¬ (0 : Int) < (k : Int) := by omega
              have hzi : ((bs[k].toNat : Int) == 0) = true := by rw [beq_iff_eq]; omega
              clear hz hz0
              go_wp2
              go_ret3
              exact ⟨by rw [HR2.out]; rfl, rfl⟩
            · have hzi : ((bs[k].toNat : Int) == 0) = false := by rw [beq_eq_false_iff_ne]; omega
              clear hz hz0
              go_wp2
              go_ret3
              exact ⟨by rw [HR2.out]; rfl, rfl⟩
        · have hci : ¬ (bs[k].toNat : Int) < 128 := by omega
          have HG2 : Hid (getB 0 0 bs = getB (k + 1) m2 (bs.drop (k + 1))) := by show _ = _; rw [HGT.out, if_neg hc]
          clear HGT
          go_wp2
          go_round
          case rel => exact ⟨k + 1, m2, by omega, by omega, by go_num, rfl, HMB, HG2⟩
          case measure => simp [intOf]; omega
    · obtain rfl : k = n := by omega
      have hki : ¬ (k : Int) < k := by omega
      have HR2 : Hid (getR bs = (0, 0, 1)) := by
        show _ = _; unfold getR; rw [HG.out, List.drop_eq_nil_of_le (by rw [HN.out]; exact Nat.le_refl _)]; rfl
      go_wp2
      go_ret3
      exact ⟨by rw [HR2.out]; rfl, rfl⟩

end Go.Proofs.Ytdbpgcaoakoojaa
