/- The walk of math/bits.Len for numbers below 512. -/
import Derived.Test.YtfiioobdknbacaaProg
import Derived.Test.YtfiioobdknbacaaQuiet
set_option linter.unusedVariables false
set_option linter.unusedSimpArgs false
namespace Lec
open Go Go.RowKit
theorem wrap_two (n : Nat) (h : n < 256) : wrap64 (wrap64 (n : Int)) = (n : Int) := by
  rw [IntWalk.wrap64_in (n : Int) (by omega), IntWalk.wrap64_in (n : Int) (by omega)]
theorem wrap_eight (n : Nat) (h : n < 256) : wrap64 (8 + wrap64 (n : Int)) = ((8 + n : Nat) : Int) := by
  rw [IntWalk.wrap64_in (n : Int) (by omega), IntWalk.wrap64_in _ (by omega)]; omega
theorem tab_at (b : ByteArray) (x : Nat) (h : x < b.size) (hall : ((List.range 256).all fun z => decide (z < 2 ^ (b.get! z).toNat) && decide ((b.get! z).toNat ≤ 8)) = true) (hx : x < 256) : x < 2 ^ (b.get x h).toNat ∧ (b.get x h).toNat ≤ 8 := by
  have h1 := List.all_eq_true.1 hall x (List.mem_range.2 hx)
  have h2 : b.get! x = b.get x h := by
    show b.data[x]! = b.data[x]
    rw [getElem!_pos b.data x h]
  rw [h2, Bool.and_eq_true, decide_eq_true_iff, decide_eq_true_iff] at h1
  exact h1
theorem tab_one (b : ByteArray) (x : Nat) (h : x < b.size) (hx : x = 1) (hb : (b.get! 1).toNat = 1) : (b.get x h).toNat = 1 := by
  subst hx
  have h2 : b.get! 1 = b.get 1 h := by
    show b.data[1]! = b.data[1]
    rw [getElem!_pos b.data 1 h]
  rw [← h2, hb]
end Lec
namespace Go.Proofs.Ytfiioobdknbacaa
open Go.RowKit Lec
set_option maxRecDepth 100000 in
theorem Len64_any (w : World) (x : Nat) (hx : x < 512) :
    Calls Try.prog 121 #[.int .u64 (x : Int)] w fun e w' => (∃ n : Nat, e = .returned (.int .i64 (n : Int)) ∧ x < 2 ^ n ∧ n ≤ 9) ∧ w = w' := by
  have h1 : ¬ (4294967296 : Int) ≤ (x : Int) := by omega
  have h2 : ¬ (65536 : Int) ≤ (x : Int) := by omega
  go_enter Try.func121, Try.ntmps121
  by_cases h3 : (256 : Int) ≤ (x : Int)
  · obtain ⟨y, hy⟩ : ∃ y : Nat, (x : Int) / 256 = (y : Int) := ⟨x / 256, by omega⟩
    have hy2 : (y : Int) < 256 := by omega
    have HY : Hid (y = 1) := by show _ = _; omega
    have HX : Hid (x < 512) := hx
    clear hx
    go_wp2
    go_ret
    refine ⟨⟨8 + (ByteArray.get _ y _).toNat, congrArg (fun z => Ending.returned (.int .i64 z)) (wrap_eight _ (UInt8.toNat_lt _)), ?_, ?_⟩, rfl⟩
    · rw [tab_one _ _ _ HY.out (by kernel_rfl)]; have := HX.out; omega
    · rw [tab_one _ _ _ HY.out (by kernel_rfl)]; omega
  · go_wp2
    go_ret
    refine ⟨⟨(ByteArray.get _ x _).toNat, congrArg (fun z => Ending.returned (.int .i64 z)) (wrap_two _ (UInt8.toNat_lt _)), ?_, ?_⟩, rfl⟩
    · exact (tab_at _ _ _ (by kernel_rfl) (by omega)).1
    · exact Nat.le_trans (tab_at _ _ _ (by kernel_rfl) (by omega)).2 (by omega)
theorem mbLen_any (w : World) (x : Nat) (hx : x < 512) :
    Calls Try.prog 92 #[.int .u64 (x : Int)] w fun e w' => (∃ n : Nat, e = .returned (.int .i64 (n : Int)) ∧ x < 2 ^ n ∧ n ≤ 9) ∧ w = w' := by
  have HC := Lib.hid (Len64_any w x hx)
  go_enter Try.func92, Try.ntmps92
  go_wp2_with fail
  refine HC.out.mono ?_
  rintro e w1 ⟨⟨n, rfl, hn, hn9⟩, rfl⟩
  go_wp2
  go_ret
  exact ⟨⟨n, rfl, hn, hn9⟩, rfl⟩
end Go.Proofs.Ytfiioobdknbacaa
