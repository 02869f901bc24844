/- The walk of sum.Sum by its table. -/
import Derived.Test.YtdbpgcaoakoojaaSumW
set_option linter.unusedVariables false
set_option linter.unusedSimpArgs false
namespace Go.Proofs.Ytdbpgcaoakoojaa
open Go.RowKit Lec

set_option maxRecDepth 100000 in
theorem sum_large (s : Nat) (hs : s < 4294967296) (w : World) (A : Option Addr) (n c : Nat) (bs : List UInt8) (hn : bs.length = n) (hm0 : ¬ n < 300) (hm : n ≤ 9223372036854775807) (hr : Rds w A (bytesV bs)) :
    Calls Try.prog 36 #[.int .u32 (s : Int), .slice A n c] w fun e w' => e = .returned (.int .u32 (csum s bs : Int)) ∧ Below w.heap.size w w' := by
  have HR := Lib.hid hr
  have HN := Lib.hid hn
  clear hr hn
  have hm1 : ¬ (n : Int) < 300 := by omega
  have hsg := u32_sg
  have hmx := u32_mx
  have hx1 := u32_not s hs
  have hz := zv_table
  go_enter Try.func36, Try.ntmps36
  go_wp2_with fail
  refine (crc_table _).mono ?_
  rintro e w1 ⟨rfl, hb1⟩
  have hlt1 : w.heap.size < w1.heap.size := by have := hb1.size; simp at this; omega
  have hcs : w1.heap[w.heap.size]? = some (.cells #[.int .u32 ((4294967295 - s : Nat) : Int)] 89 (0, 0)) := (hb1.block _ (by simp)).trans (heap_alloc_new _ _)
  have HB1 : Hid (Below w.heap.size w w1) := ((Below.refl _ _).alloc (Nat.le_refl _) _).trans (hb1.mono (by simp))
  have HCS := Lib.hid hcs
  clear hb1 hcs
  go_wp2_with (refine wpList_store_row rfl _ _ _ rfl w1.heap.size tabV.toArray rfl rfl 91 Z256 (heap_alloc_new _ _) (by kernel_rfl) rfl (by kernel_rfl) ?_)
  clear hz
  generalize hW2 : (w1.alloc (Obj.cells Z256 91)).setRow w1.heap.size tabV.toArray = W2
  obtain ⟨HT, HA, HX⟩ : Hid (W2.heap[w1.heap.size]? = some (.cells tabV.toArray 91 (0, 0))) ∧ Hid (W2.heap[w.heap.size]? = some (.cells #[.int .u32 ((4294967295 - s : Nat) : Int)] 89 (0, 0))) ∧ Hid (Below w.heap.size w W2) := by
    subst hW2
    refine ⟨setRow_heap _ _ _ _ _ _ (heap_alloc_new _ _), (setRow_other _ _ _ _ (by omega)).trans ((Below.heap_alloc _ _ _ hlt1).trans HCS.out), ?_⟩
    exact below_setRow (HB1.out.alloc (by omega) _) (by omega) _
  clear hW2 HCS HB1
  generalize w1.heap.size = g1 at *
  go_loopw [29] (fun i wr => ∃ k : Nat, k ≤ n ∧ i = .int .i64 k ∧ Hid (wr.heap[g1]? = some (.cells tabV.toArray 91 (0, 0))) ∧
      Hid (wr.heap[w.heap.size]? = some (.cells #[.int .u32 (cfold (4294967295 - s) (bs.take k) : Int)] 89 (0, 0))) ∧ Hid (Below w.heap.size w wr)) (fun i _ => n - (intOf i).toNat)
  case atStart => exact ⟨0, by omega, rfl, HT, HA, HX⟩
  case round =>
    clear HT HA HX
    obtain ⟨k, hk, rfl, HT, HA, HX⟩ := hrel
    have hcl := cfold_lt (bs.take k) (c := 4294967295 - s) (by omega)
    have hc0 : wr.cell? ⟨w.heap.size, 0, none⟩ = some (.int .u32 (cfold (4294967295 - s) (bs.take k) : Int)) := cell_of_row wr _ 0 _ _ _ HA.out
    have hf0 : wr.frozen? ⟨w.heap.size, 0, none⟩ = false := frozen_of_row wr _ 0 _ _ HA.out
    by_cases h8 : k < n
    · have hk' : k < bs.length := by rw [HN.out]; exact h8
      obtain ⟨a, rfl, hb⟩ := HR.out.byte k hk'
      have hb1 := cell_ext HX.out (Nat.le_refl _) hb
      clear hb
      have hlk : (k : Int) < n := by omega
      have hub := u8_lt bs[k]
      have hxl : (cfold (4294967295 - s) (bs.take k) % 256) ^^^ bs[k].toNat < 256 := Nat.xor_lt_two_pow (n := 8) (by omega) (by omega)
      have hx3 : bits BinOp.xor IntKind.u8 ((cfold (4294967295 - s) (bs.take k) : Nat) % 256 : Int) ((bs[k].toNat : Nat) : Int) = (((cfold (4294967295 - s) (bs.take k) % 256) ^^^ bs[k].toNat : Nat) : Int) := by
        have := u8_xor_nat (cfold (4294967295 - s) (bs.take k) % 256) bs[k].toNat (by omega) (by omega)
        rw [← this]; rfl
      have hx4 : bits BinOp.xor IntKind.u32 ((cfold (4294967295 - s) (bs.take k) : Nat) / 256 : Int) ((cbyte ((cfold (4294967295 - s) (bs.take k) % 256) ^^^ bs[k].toNat) : Nat) : Int) = ((cfold (4294967295 - s) (bs.take (k + 1)) : Nat) : Int) := by
        have := u32_xor_nat (cfold (4294967295 - s) (bs.take k) / 256) (cbyte ((cfold (4294967295 - s) (bs.take k) % 256) ^^^ bs[k].toNat)) (by omega) (cbyte_lt (by omega))
        rw [List.take_succ_eq_append_getElem hk', cfold_snoc, ← cbyte_table (cfold (4294967295 - s) (bs.take k)) bs[k].toNat, ← this]; rfl
      have htc : wr.cell? ⟨g1, (cfold (4294967295 - s) (bs.take k) % 256) ^^^ bs[k].toNat, none⟩ = some (.int .u32 (cbyte ((cfold (4294967295 - s) (bs.take k) % 256) ^^^ bs[k].toNat) : Int)) := by
        rw [cell_of_row wr g1 _ _ _ _ HT.out]
        simp [tabV, hxl]
      generalize (cfold (4294967295 - s) (bs.take k) % 256) ^^^ bs[k].toNat = ix at *
      go_wp2
      go_region
      all_goals
        clear htc hx3 hxl
        go_wp2
        go_roundw
        case rel =>
          refine ⟨k + 1, by omega, by go_num, ?_, ?_, ?_⟩
          · show _ = _
            first | exact (Below.heap_setCell _ _ _ _ (by simp; omega)).trans HT.out
          · show _ = _
            exact heap_setCell_same wr w.heap.size 0 _ _ _ HA.out
          · exact (HX.out.setCell (Nat.le_refl _) _).drew
        case measure => simp [intOf]; omega
    · obtain rfl : k = n := by omega
      have hx2 := u32_not _ hcl
      have hlk : ¬ (k : Int) < k := by omega
      go_wp2
      go_ret
      refine ⟨?_, HX.out⟩
      rw [List.take_of_length_le (by rw [HN.out]; exact Nat.le_refl _)]
      rfl
end Go.Proofs.Ytdbpgcaoakoojaa
