/- The walk of the law SumOnes. -/
import Derived.Test.YthibhndeejichaaWakes9
import Derived.Test.YthibhndeejichaaIn
import Derived.Test.YthibhndeejichaaQuiet
import Derived.Test.YthibhndeejichaaAsk9
set_option linter.unusedVariables false
set_option linter.unusedSimpArgs false
namespace Lec
def ones (k : Nat) : List Int := (List.range k).map fun b => (csum 0 [UInt8.ofNat b] : Int)
theorem ones_succ (k : Nat) : ones (k + 1) = ones k ++ [(csum 0 [UInt8.ofNat k] : Int)] := by simp [ones, List.range_succ]
theorem ones_new (k : Nat) (hk : k < 256) : (csum 0 [UInt8.ofNat k] : Int) ∉ ones k := by
  intro h
  obtain ⟨b, hb, e⟩ := List.mem_map.1 h
  have hb' : b < k := by simpa using hb
  refine csum_turned 0 [] [] (UInt8.ofNat b) (UInt8.ofNat k) (fun e2 => ?_) (by simpa using Int.ofNat_inj.1 e)
  have := congrArg UInt8.toNat e2
  rw [UInt8.toNat_ofNat_of_lt' (by show b < 256; omega), UInt8.toNat_ofNat_of_lt' (by show k < 256; omega)] at this
  omega
end Lec
namespace Go.Proofs.Ythibhndeejichaa
open Go.RowKit Lec

theorem info_iN : (Try.prog.info? 3).map (fun i => (i.zero, i.size, i.bytes)) = some (some (.int .i64 0), 1, 8) := by kernel_rfl
theorem s00 : csum 0 [] = 0 := by decide +kernel
theorem s0 : csum 0 [0] = 3523407757 := by decide +kernel
theorem s1 : csum 0 [0, 0] = 1104745215 := by decide +kernel
theorem s12 : csum 0 [1, 2] = 3066839698 := by decide +kernel
theorem s21 : csum 0 [2, 1] = 82329835 := by decide +kernel

theorem rds_new (w : World) (bs : List UInt8) (t : TypeId) (vs : Array Value) (h : vs.toList = bytesV bs) : Rds (w.alloc (.cells vs t)) (some ⟨w.heap.size, 0, none⟩) (bytesV bs) := by
  intro i v hv
  refine ⟨_, rfl, ?_⟩
  rw [Addr.add_lit, cell_of_row _ _ _ _ _ _ (heap_alloc_new _ _), Nat.zero_add, ← hv, ← h]
  simp

set_option maxRecDepth 100000 in
set_option maxHeartbeats 1000000 in
theorem SumOnes_walk (W : World) (A : Option Addr) (c : Nat) (xs : List (Nat × List UInt8 × Int)) (hrow : Row Ask9 W A xs) (hlc : xs.length ≤ c) (hcm : c ≤ maxLen) (hnone : A = none → xs.length = 0 ∧ c = 0) (hby : c * 40 ≤ reachBytes) :
    Calls Try.prog 5 #[.slice A xs.length c] W fun e w' => e = .returned (.bool true) ∧ Below W.heap.size W w' := by
  have hlen : xs.length ≤ 9223372036854775807 := by unfold maxLen at hcm; omega
  clear hrow hnone hby hcm hlc
  go_enter Try.func5, Try.ntmps5
  go_wp2
  go_loopw [3, 4] (fun v i wr => ∃ k : Nat, k ≤ 256 ∧ i = .int .i64 k ∧ Hid (wr.ownsRow W.heap.size 3 1 v k (intsV (ones k))) ∧ Hid (Below W.heap.size W wr)) (fun _ i _ => 256 - (intOf i).toNat)
  case atStart => exact ⟨0, by omega, rfl, World.ownsRow_nil _ _ _ _, Below.refl _ _⟩
  case round =>
    obtain ⟨k, hk, rfl, HO, HX⟩ := hrel
    by_cases h8 : k < 256
    · have hi : (k : Int) < 256 := by omega
      have hu : (k : Int) % 256 = (k : Int) := by omega
      go_wp2_with fail
      have hk8 : (UInt8.ofNat k).toNat = k := UInt8.toNat_ofNat_of_lt' (by show k < 256; omega)
      refine (sum_any 0 (by omega) _ _ 1 1 [UInt8.ofNat k] rfl (by omega) (rds_new wr _ _ _ (by simp [hk8]))).mono ?_
      rintro e w1 ⟨rfl, hb⟩
      obtain ⟨x, hx⟩ : ∃ x : Nat, x = csum 0 [UInt8.ofNat k] := ⟨_, rfl⟩
      rw [← hx]
      have hxl : x < 4294967296 := by rw [hx]; exact csum_lt _ _
      have HXN := Lib.hid hx
      have HE : Hid (Ext wr w1) := Ext.trans (b := wr.alloc (.cells #[.int .u8 (k : Int)] 5)) ((Below.refl _ _).alloc (Nat.le_refl _) _) hb
      have HOW := Lib.hid (own_ext HO.out HE.out.below (Nat.le_refl _))
      clear hb hx hk8
      obtain ⟨B, cb, rfl, q1, q2, q3, q4, q5⟩ := own_rds HOW.out
      have HQ := Lib.hid q4
      clear q1 q2 q3 q4 q5
      go_wp2_with fail
      refine (In_any _ B k cb (ones k) (x : Int) (by simp [ones]) (by omega) HQ.out).mono ?_
      rintro e w2 ⟨rfl, rfl⟩
      rw [inOf_none (ones k) (x : Int) (by rw [HXN.out]; exact ones_new k h8)]
      have hm1 : ¬ (0 : Int) ≤ -1 := by omega
      go_wp2_with (at_builtin; refine wp_app1 (w0 := w1) rfl rfl _ _ 34 rfl W.heap.size 3 (.int .i64 0) 1 8 Try.underlying34 info_iN rfl (by decide) (by decide) _ k _ rfl HOW.out rfl rfl (one_cell1 rfl) (by omega) (by have := HX.out.size; have := HE.out.below.size; omega) ?_; intro v' w' hown' hg' hb')
      go_roundw
      case rel =>
        refine ⟨k + 1, by omega, by go_num, ?_, ?_⟩
        · show World.ownsRow _ _ _ _ _ _ _
          rw [ones_succ, ← HXN.out]
          simpa using hown'
        · exact (HX.out.trans (HE.out.below.mono HX.out.size)).trans hb'
      case measure => simp [intOf]; omega
    · obtain rfl : k = 256 := by omega
      have hi : ¬ (256 : Int) < 256 := by omega
      have one : ∀ (w : World) (bs : List UInt8) (vs : Array Value), vs.toList = bytesV bs → bs.length ≤ 9 → Calls Try.prog 15 #[.int .u32 0, .slice (some ⟨w.heap.size, 0, none⟩) bs.length bs.length] (w.alloc (.cells vs 5)) fun e w' => e = .returned (.int .u32 (csum 0 bs : Int)) ∧ Ext w w' := by
        intro w bs vs hv hl
        refine (sum_any 0 (by omega) _ _ _ _ bs rfl (by omega) (rds_new w bs _ vs hv)).mono ?_
        rintro e w' ⟨he, hb⟩
        exact ⟨he, Ext.trans (b := w.alloc (.cells vs 5)) ((Below.refl _ _).alloc (Nat.le_refl _) _) hb⟩
      have ONE := Lib.hid one
      clear one
      have e00 := s00
      go_wp2_with fail
      refine (sum_any 0 (by omega) _ none 0 0 [] rfl (by omega) (Rds.nil _ _)).mono ?_
      rintro e w1 ⟨rfl, hb⟩
      have HX1 := Lib.hid (HX.out.trans (hb.mono HX.out.size))
      clear hb HX HO
      rw [s00]
      go_wp2_with fail
      refine (ONE.out _ [0] _ rfl (by decide)).mono ?_
      rintro e w2 ⟨rfl, hb⟩
      rw [s0]
      have HX2 := Lib.hid (HX1.out.trans (hb.below.mono HX1.out.size))
      clear hb HX1
      go_wp2_with fail
      refine (ONE.out _ [0, 0] _ rfl (by decide)).mono ?_
      rintro e w3 ⟨rfl, hb⟩
      rw [s1]
      have HX3 := Lib.hid (HX2.out.trans (hb.below.mono HX2.out.size))
      clear hb HX2
      go_wp2_with fail
      refine (ONE.out _ [0] _ rfl (by decide)).mono ?_
      rintro e w4 ⟨rfl, hb⟩
      rw [s0]
      have HX4 := Lib.hid (HX3.out.trans (hb.below.mono HX3.out.size))
      clear hb HX3
      go_wp2_with fail
      refine (ONE.out _ [1, 2] _ rfl (by decide)).mono ?_
      rintro e w5 ⟨rfl, hb⟩
      rw [s12]
      have HX5 := Lib.hid (HX4.out.trans (hb.below.mono HX4.out.size))
      clear hb HX4
      go_wp2_with fail
      refine (ONE.out _ [2, 1] _ rfl (by decide)).mono ?_
      rintro e w6 ⟨rfl, hb⟩
      rw [s21]
      have HX6 := Lib.hid (HX5.out.trans (hb.below.mono HX5.out.size))
      clear hb HX5
      go_wp2_with fail
      refine (wakes9 _).mono ?_
      rintro e w7 ⟨rfl, hb⟩
      have HX7 := Lib.hid (HX6.out.trans (hb.mono HX6.out.size))
      clear hb HX6
      go_wp2
      go_ret
      exact ⟨rfl, HX7.out⟩
end Go.Proofs.Ythibhndeejichaa
