/- The walks of package sum: what its functions answer. -/
import Derived.Test.YtdbpgcaoakoojaaProg
import Derived.Test.YtdbpgcaoakoojaaBase
import Derived.Test.YtdbpgcaoakoojaaCrc
set_option linter.unusedVariables false
set_option linter.unusedSimpArgs false
namespace Go.Proofs.Ytdbpgcaoakoojaa
open Go.RowKit Lec

theorem and1 (c : Nat) (h : c < 4294967296) : bits BinOp.and IntKind.u32 (c : Int) 1 = ((c % 2 : Nat) : Int) := by
  rw [show (1 : Int) = ((1 : Nat) : Int) from rfl, u32_and_nat c 1 h (by omega), Nat.and_one_is_mod]

theorem crc_bits (g o : Nat) (w : World) (s : Nat) (hs : s < 4294967296) (hc : w.cell? ⟨g, o, none⟩ = some (.int .u32 (s : Int))) (hf : w.frozen? ⟨g, o, none⟩ = false) :
    Calls Try.prog 46 #[.pointer (some ⟨g, o, none⟩)] w fun e w' => e = .returned (.tuple #[]) ∧ w.setCell ⟨g, o, none⟩ (.int .u32 (cbyte s : Int)) = w' := by
  go_enter Try.func46, Try.ntmps46
  go_wp2
  go_loopw [2] (fun i wr => ∃ k : Nat, k ≤ 8 ∧ i = .int .i64 k ∧ wr = w.setCell ⟨g, o, none⟩ (.int .u32 (citer k s : Int))) (fun i _ => 8 - (intOf i).toNat)
  case atStart => exact ⟨0, by omega, rfl, (setCell_same w g o _ hc).symm⟩
  case round =>
    obtain ⟨k, hk, rfl, rfl⟩ := hrel
    have hl := citer_lt hs k
    by_cases h8 : k < 8
    · have H := and1 _ hl
      by_cases h2 : citer k s % 2 = 1
      · have hx : (bits BinOp.and IntKind.u32 ((citer k s : Nat) : Int) 1 == 1) = true := by rw [H, h2]; rfl
        have E : Hid (bits BinOp.xor IntKind.u32 ((citer k s : Nat) / 2 : Int) 3988292384 = (citer (k + 1) s : Nat)) := by
          have := u32_xor_nat (citer k s / 2) 3988292384 (by omega) (by omega)
          rw [show citer (k + 1) s = (citer k s / 2) ^^^ 3988292384 by show cstep _ = _; unfold cstep; rw [if_pos h2], ← this]; rfl
        clear H h2
        go_wp2
        go_roundw
        case rel => exact ⟨k + 1, by omega, by go_num, by rw [setCell_twice, E.out]⟩
        case measure => simp [intOf]; omega
      · have hx : (bits BinOp.and IntKind.u32 ((citer k s : Nat) : Int) 1 == 1) = false := by rw [H, show citer k s % 2 = 0 by omega]; rfl
        have E : Hid (((citer k s : Nat) / 2 : Int) = (citer (k + 1) s : Nat)) := by
          rw [show citer (k + 1) s = (citer k s / 2) by show cstep _ = _; unfold cstep; rw [if_neg h2]]; rfl
        clear H h2
        go_wp2
        go_roundw
        case rel => exact ⟨k + 1, by omega, by go_num, by rw [setCell_twice, E.out]⟩
        case measure => simp [intOf]; omega
    · obtain rfl : k = 8 := by omega
      go_wp2
      go_end0
      exact ⟨rfl, rfl⟩

theorem crc_add (g o : Nat) (w : World) (s : Nat) (hs : s < 4294967296) (hc : w.cell? ⟨g, o, none⟩ = some (.int .u32 (s : Int))) (hf : w.frozen? ⟨g, o, none⟩ = false)
    (A : Option Addr) (n c : Nat) (bs : List UInt8) (hn : bs.length = n) (hm : n ≤ 9223372036854775807) (hr : Rds w A (bytesV bs)) (hne : ∀ a, A = some a → 0 < n → a.block ≠ g) :
    Calls Try.prog 42 #[.pointer (some ⟨g, o, none⟩), .slice A n c] w fun e w' => e = .returned (.tuple #[]) ∧ w.setCell ⟨g, o, none⟩ (.int .u32 (cfold s bs : Int)) = w' := by
  have HR := Lib.hid hr
  have HN := Lib.hid hn
  clear hr hn
  go_enter Try.func42, Try.ntmps42
  go_wp2
  go_loopw [8] (fun i wr => ∃ k : Nat, k ≤ n ∧ i = .int .i64 k ∧ Hid (wr = w.setCell ⟨g, o, none⟩ (.int .u32 (cfold s (bs.take k) : Int)))) (fun i _ => n - (intOf i).toNat)
  case atStart => exact ⟨0, by omega, rfl, (setCell_same w g o _ hc).symm⟩
  case round =>
    obtain ⟨k, hk, rfl, HW⟩ := hrel
    by_cases h8 : k < n
    · have hk' : k < bs.length := by rw [HN.out]; exact h8
      obtain ⟨a, rfl, hb⟩ := HR.out.byte k hk'
      have hb1 : wr.cell? (a.add k) = some (.int .u8 (bs[k].toNat : Int)) := by rw [HW.out, cell_set_far _ (by rw [add_block]; exact hne a rfl (by omega))]; exact hb
      have hc1 : wr.cell? ⟨g, o, none⟩ = some (.int .u32 (cfold s (bs.take k) : Int)) := by rw [HW.out]; exact cell_set_self _ hc
      have hf1 : wr.frozen? ⟨g, o, none⟩ = false := by rw [HW.out, frozen_set]; exact hf
      have hcl := cfold_lt (bs.take k) hs
      have hu : ((bs[k].toNat : Nat) : Int) % 4294967296 = (bs[k].toNat : Int) := by have := u8_lt bs[k]; omega
      have hx : bits BinOp.xor IntKind.u32 ((cfold s (bs.take k) : Nat) : Int) ((bs[k].toNat : Nat) : Int) = ((cfold s (bs.take k) ^^^ bs[k].toNat : Nat) : Int) := u32_xor_nat _ _ hcl (by have := u8_lt bs[k]; omega)
      have HL : Hid (cfold s (bs.take (k + 1)) = cbyte (cfold s (bs.take k) ^^^ bs[k].toNat)) := by
        rw [List.take_succ_eq_append_getElem hk']; exact cfold_snoc _ _ _
      clear hb
      go_wp2_with fail
      refine (crc_bits g o _ _ (xor_lt hcl (by have := u8_lt bs[k]; omega)) (cell_set_self _ hc1) (by rw [frozen_set]; exact hf1)).mono ?_
      rintro e w' ⟨rfl, rfl⟩
      go_wp2
      go_roundw
      case rel => exact ⟨k + 1, by omega, by go_num, by show _ = _; rw [setCell_twice, HW.out, setCell_twice, HL.out]⟩
      case measure => simp [intOf]; omega
    · obtain rfl : k = n := by omega
      go_wp2
      go_end0
      exact ⟨rfl, by rw [HW.out, List.take_of_length_le (by rw [HN.out]; exact Nat.le_refl _)]⟩

def Z256 : Array Value := (List.replicate 256 (Value.int .u32 0)).toArray
theorem zv_table (w : World) : (zeroValue 91).run Try.prog w = .ok (.agg Z256) w := by kernel_rfl
def tabV : List Value := (List.range 256).map fun i => Value.int .u32 (cbyte i : Int)

set_option maxHeartbeats 400000 in
set_option maxRecDepth 100000 in
theorem crc_table (w : World) :
    Calls Try.prog 43 #[] w fun e w' => e = .returned (.agg tabV.toArray) ∧ Below w.heap.size w w' := by
  have hz := zv_table
  go_enter Try.func43, Try.ntmps43
  go_wp2
  go_loopw [3] (fun i wr => ∃ (k : Nat) (cs : Array Value), k ≤ 256 ∧ i = .int .i64 k ∧ Hid (wr.heap[w.heap.size]? = some (.cells cs 91 (0, 0))) ∧ Hid (cs.size = 256) ∧ Hid (∀ j, j < k → cs[j]? = some (Value.int .u32 (cbyte j : Int))) ∧ Hid (Below w.heap.size w wr)) (fun i _ => 256 - (intOf i).toNat)
  case atStart =>
    refine ⟨0, Z256, by omega, rfl, heap_alloc_new w _, by show _ = _; simp [Z256], fun j hj => by omega, (Below.refl _ _).alloc (Nat.le_refl _) _⟩
  case round =>
    obtain ⟨k, cs, hk, rfl, HB, HS, HC, HL⟩ := hrel
    by_cases h8 : k < 256
    · have hu : (k : Int) % 4294967296 = k := by omega
      have hlt : w.heap.size < wr.heap.size := (Array.getElem?_eq_some_iff.1 HB.out).1
      obtain ⟨v0, hv0⟩ : ∃ v, wr.cell? ⟨w.heap.size, k, none⟩ = some v := ⟨_, (cell_of_row wr w.heap.size k cs _ _ HB.out).trans (Array.getElem?_eq_getElem (by rw [HS.out]; omega))⟩
      have hf0 : wr.frozen? ⟨w.heap.size, k, none⟩ = false := frozen_of_row wr w.heap.size k cs _ HB.out
      go_wp2_with fail
      refine (crc_bits wr.heap.size 0 _ k (by omega) (by simp [go_sem]) (by simp [go_sem])).mono ?_
      rintro e w' ⟨rfl, rfl⟩
      go_wp2
      go_roundw
      case rel =>
        refine ⟨k + 1, cs.setIfInBounds k (Value.int .u32 (cbyte k : Int)), by omega, by go_num, ?_, ?_, ?_, ?_⟩
        · show _ = _
          rw [Below.heap_alloc _ _ _ (by simpa using hlt)]
          exact heap_setCell_same wr w.heap.size k cs _ _ HB.out
        · show _ = _
          rw [Array.size_setIfInBounds]; exact HS.out
        · intro j hj
          rw [Array.getElem?_setIfInBounds]
          by_cases e : k = j
          · rw [if_pos e, if_pos (by rw [HS.out]; omega), ← e]
          · rw [if_neg e]; exact HC.out j (by omega)
        · exact (HL.out.setCell (Nat.le_refl _) _).alloc (by simp; omega) _
      case measure => simp [intOf]; omega
    · obtain rfl : k = 256 := by omega
      obtain rfl : cs = tabV.toArray := by
        apply Array.ext_getElem?
        intro j
        by_cases hj : j < 256
        · rw [HC.out j hj]; simp [tabV, hj]
        · rw [Array.getElem?_eq_none (by rw [HS.out]; omega), Array.getElem?_eq_none (by simp [tabV]; omega)]
      clear HC h8
      have hl : ¬ ((256 : Int) < 256) := by omega
      go_wp2_with (first | (refine wpList_load_row rfl _ _ rfl w.heap.size rfl 91 tabV.toArray (0, 0) _ HB.out Try.underlying91 rfl (by kernel_rfl) ?_) | (refine wpList_store_row rfl _ _ _ rfl w.heap.size tabV.toArray rfl rfl 91 tabV.toArray HB.out (by kernel_rfl) rfl (by kernel_rfl) ?_))
      rw [setRow_self wr w.heap.size tabV.toArray _ _ HB.out]
      exact bodyPost_ret (v := .agg tabV.toArray) (results_cell_row rfl _ wr w.heap.size _ tabV.toArray (0, 0) _ rfl HB.out Try.underlying91 rfl (by kernel_rfl)) rfl ⟨rfl, HL.out⟩

theorem u32_sg : IntKind.u32.signed = false := rfl
theorem u32_mx : IntKind.u32.max = 4294967295 := rfl

set_option maxRecDepth 100000 in
theorem sum_small (s : Nat) (hs : s < 4294967296) (w : World) (A : Option Addr) (n c : Nat) (bs : List UInt8) (hn : bs.length = n) (hm : n < 300) (hr : Rds w A (bytesV bs)) :
    Calls Try.prog 36 #[.int .u32 (s : Int), .slice A n c] w fun e w' => e = .returned (.int .u32 (csum s bs : Int)) ∧ Below w.heap.size w w' := by
  have HR := Lib.hid hr
  have HN := Lib.hid hn
  clear hr hn
  have hm1 : (n : Int) < 300 := by omega
  have hsg := u32_sg
  have hmx := u32_mx
  have hx1 := u32_not s hs
  have hcl := cfold_lt bs (c := 4294967295 - s) (by omega)
  have hx2 := u32_not _ hcl
  go_enter Try.func36, Try.ntmps36
  go_wp2_with fail
  refine (crc_add w.heap.size 0 _ (4294967295 - s) (by omega) (by simp [go_sem]) (by simp [go_sem]) A n c bs HN.out (by omega) (HR.out.ext ((Below.refl _ _).alloc (Nat.le_refl _) _) (Nat.le_refl _)) ?_).mono ?_
  · intro a ha h0
    have := HR.out.blk ha (by simp [bytesV, HN.out]; exact h0)
    omega
  rintro e w' ⟨rfl, rfl⟩
  go_wp2
  go_ret
  refine ⟨rfl, ?_⟩
  exact ((Below.refl _ _).alloc (Nat.le_refl _) _)

end Go.Proofs.Ytdbpgcaoakoojaa
