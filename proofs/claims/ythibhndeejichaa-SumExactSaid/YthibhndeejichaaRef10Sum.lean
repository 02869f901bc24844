/- The walk of the reference's checksum. -/
import Derived.Test.YthibhndeejichaaProg
import Derived.Test.YthibhndeejichaaBase
import Derived.Test.YthibhndeejichaaCrc
set_option linter.unusedVariables false
set_option linter.unusedSimpArgs false
namespace Go.Proofs.Ythibhndeejichaa
open Go.RowKit Lec

theorem r_and1 (c : Nat) (h : c < 4294967296) : bits BinOp.and IntKind.u32 (c : Int) 1 = ((c % 2 : Nat) : Int) := by
  rw [show (1 : Int) = ((1 : Nat) : Int) from rfl, u32_and_nat c 1 h (by omega), Nat.and_one_is_mod]

set_option maxRecDepth 100000 in
theorem refSum_any (s : Nat) (hs : s < 4294967296) (w : World) (A : Option Addr) (n c : Nat) (bs : List UInt8) (hn : bs.length = n) (hm : n ≤ 9223372036854775807) (hr : Rds w A (bytesV bs)) :
    Calls Try.prog 16 #[.int .u32 (s : Int), .slice A n c] w fun e w' => e = .returned (.int .u32 (csum s bs : Int)) ∧ w = w' := by
  have HR := Lib.hid hr
  have HN := Lib.hid hn
  clear hr hn
  have hsg : IntKind.u32.signed = false := rfl
  have hmx : IntKind.u32.max = 4294967295 := rfl
  have hx1 := u32_not s hs
  go_enter Try.func16, Try.ntmps16
  go_wp2
  go_loop [5, 6] (fun v i => ∃ k : Nat, k ≤ n ∧ i = .int .i64 k ∧ v = .int .u32 (cfold (4294967295 - s) (bs.take k) : Int)) (fun _ i => n - (intOf i).toNat)
  case atStart => exact ⟨0, by omega, rfl, rfl⟩
  case round =>
    obtain ⟨k, hk, rfl, rfl⟩ := hrel
    have hcl := cfold_lt (bs.take k) (c := 4294967295 - s) (by omega)
    by_cases h8 : k < n
    · have hk' : k < bs.length := by rw [HN.out]; exact h8
      obtain ⟨a, rfl, hb⟩ := HR.out.byte k hk'
      have hu : ((bs[k].toNat : Nat) : Int) % 4294967296 = (bs[k].toNat : Int) := by have := u8_lt bs[k]; omega
      have hx : bits BinOp.xor IntKind.u32 ((cfold (4294967295 - s) (bs.take k) : Nat) : Int) ((bs[k].toNat : Nat) : Int) = ((cfold (4294967295 - s) (bs.take k) ^^^ bs[k].toNat : Nat) : Int) := u32_xor_nat _ _ hcl (by have := u8_lt bs[k]; omega)
      have hxl := xor_lt hcl (show bs[k].toNat < 4294967296 by have := u8_lt bs[k]; omega)
      have HL : Hid (cfold (4294967295 - s) (bs.take (k + 1)) = citer 8 (cfold (4294967295 - s) (bs.take k) ^^^ bs[k].toNat)) := by
        show _ = _; rw [List.take_succ_eq_append_getElem hk']; exact cfold_snoc _ _ _
      go_wp2
      clear hx hu
      generalize cfold (4294967295 - s) (bs.take k) ^^^ bs[k].toNat = x at *
      go_loop [5, 7] (fun v j => ∃ q : Nat, q ≤ 8 ∧ j = .int .i64 q ∧ v = .int .u32 (citer q x : Int)) (fun _ j => 8 - (intOf j).toNat)
      case atStart => exact ⟨0, by omega, rfl, rfl⟩
      case round =>
        obtain ⟨q, hq, rfl, rfl⟩ := hrel
        have hl := citer_lt hxl q
        by_cases h9 : q < 8
        · have H := r_and1 _ hl
          by_cases h2 : citer q x % 2 = 1
          · have hx : (bits BinOp.and IntKind.u32 ((citer q x : Nat) : Int) 1 == 1) = true := by rw [H, h2]; rfl
            have E : Hid (bits BinOp.xor IntKind.u32 ((citer q x : Nat) / 2 : Int) 3988292384 = (citer (q + 1) x : Nat)) := by
              have := u32_xor_nat (citer q x / 2) 3988292384 (by omega) (by omega)
              rw [show citer (q + 1) x = (citer q x / 2) ^^^ 3988292384 by show cstep _ = _; unfold cstep; rw [if_pos h2], ← this]; rfl
            clear H h2
            go_wp2
            go_round
            case rel => exact ⟨q + 1, by omega, by go_num, by rw [E.out]⟩
            case measure => simp [intOf]; omega
          · have hx : (bits BinOp.and IntKind.u32 ((citer q x : Nat) : Int) 1 == 1) = false := by rw [H, show citer q x % 2 = 0 by omega]; rfl
            have E : Hid (((citer q x : Nat) / 2 : Int) = (citer (q + 1) x : Nat)) := by
              rw [show citer (q + 1) x = (citer q x / 2) by show cstep _ = _; unfold cstep; rw [if_neg h2]]; rfl
            clear H h2
            go_wp2
            go_round
            case rel => exact ⟨q + 1, by omega, by go_num, by rw [E.out]⟩
            case measure => simp [intOf]; omega
        · obtain rfl : q = 8 := by omega
          go_wp2
          go_round
          case rel => exact ⟨k + 1, by omega, by go_num, by rw [HL.out]⟩
          case measure => simp [intOf]; omega
    · obtain rfl : k = n := by omega
      have hx2 := u32_not _ hcl
      go_wp2
      go_ret
      refine ⟨?_, rfl⟩
      rw [List.take_of_length_le (by rw [HN.out]; exact Nat.le_refl _)]
      rfl

end Go.Proofs.Ythibhndeejichaa
