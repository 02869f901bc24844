/- The walks of a number's bytes: wire.Num, and the reference's. -/
import Derived.Test.YtdbpgcaoakoojaaProg
import Derived.Test.YtdbpgcaoakoojaaBase
import Derived.Test.YtdbpgcaoakoojaaVar
set_option linter.unusedVariables false
set_option linter.unusedSimpArgs false
namespace Lec
open Go
theorem or_tab : ∀ x, x < 256 → x ||| 128 = x % 128 + 128 := by decide +kernel
theorem or128 (m : Nat) : bits BinOp.or IntKind.u8 ((m : Int) % 256) 128 = (((UInt8.ofNat (m % 128 + 128)).toNat : Nat) : Int) := by
  have h := u8_or_nat (m % 256) 128 (by omega) (by omega)
  rw [show ((m : Int) % 256) = ((m % 256 : Nat) : Int) from rfl, show (128 : Int) = ((128 : Nat) : Int) from rfl, h, ofNat_toNat (by omega), or_tab _ (by omega)]
  congr 1; omega
theorem or128' (m : Nat) : bits BinOp.or IntKind.u8 ((m : Int) % 128) 128 = (((UInt8.ofNat (m % 128 + 128)).toNat : Nat) : Int) := by
  have h := u8_or_nat (m % 128) 128 (by omega) (by omega)
  rw [show ((m : Int) % 128) = ((m % 128 : Nat) : Int) from rfl, show (128 : Int) = ((128 : Nat) : Int) from rfl, h, ofNat_toNat (by omega), or_tab _ (by omega)]
  congr 1; omega
theorem small8 {m : Nat} (h : m < 128) : ((m : Int) % 256) = (((UInt8.ofNat m).toNat : Nat) : Int) := by rw [ofNat_toNat (by omega)]; omega
end Lec
namespace Go.Proofs.Ytdbpgcaoakoojaa
open Go.RowKit Lec

theorem info_b8 : (Try.prog.info? 5).map (fun i => (i.zero, i.size, i.bytes)) = some (some (.int .u8 0), 1, 1) := by kernel_rfl

theorem Num_neg (w : World) (n : Int) (h : n < 0) : Calls Try.prog 45 #[.int .i64 n] w fun e w' => e = .returned (.tuple #[.slice none 0 0, .int .i64 1]) ∧ w = w' := by
  go_enter Try.func45, Try.ntmps45
  go_wp2
  go_ret2
  exact ⟨rfl, rfl⟩

theorem Num_any (w : World) (n : Nat) (hn : n < 9223372036854775808) :
    Calls Try.prog 45 #[.int .i64 (n : Int)] w fun e w' => ∃ v, e = .returned (.tuple #[v, .int .i64 0]) ∧ w'.ownsRow w.heap.size 5 1 v (numB n).length (bytesV (numB n)) ∧ Below w.heap.size w w' := by
  have hlen := numB_len9 hn
  have hn0 : ¬ (n : Int) < 0 := by omega
  go_enter Try.func45, Try.ntmps45
  go_wp2
  go_loopw [0, 2] (fun x v wr => ∃ (m : Nat) (bs : List UInt8), m ≤ n ∧ x = .int .i64 (m : Int) ∧ Hid (numB n = bs ++ numB m) ∧ Hid (wr.ownsRow w.heap.size 5 1 v bs.length (bytesV bs)) ∧ Hid (Below w.heap.size w wr)) (fun x _ _ => (intOf x).toNat)
  case atStart => exact ⟨n, [], Nat.le_refl _, rfl, rfl, World.ownsRow_nil _ _ _ _, Below.refl _ _⟩
  case round =>
    obtain ⟨m, bs, hm, rfl, HB, HO, HX⟩ := hrel
    have hbl : bs.length < 9 := by
      have := congrArg List.length HB.out
      rw [List.length_append] at this
      have h1 := List.length_pos_iff.2 (numB_ne m)
      omega
    by_cases h : m < 128
    · have hi : ¬ (128 : Int) ≤ (m : Int) := by omega
      have h8 : Hid ((((UInt8.ofNat m).toNat : Nat) : Int) = m) := by show _ = _; rw [ofNat_toNat (by omega)]
      have HE : Hid (numB n = bs ++ [UInt8.ofNat m]) := by have := HB.out; rwa [numB_small h] at this
      go_wp2_with (at_builtin; refine wp_app1 (w0 := wr) rfl rfl _ _ 23 rfl w.heap.size 5 (.int .u8 0) 1 1 Try.underlying23 info_b8 rfl (by decide) (by decide) _ bs.length _ rfl HO.out rfl rfl (one_cell1 rfl) (by omega) HX.out.size ?_; intro v' w' hown' hg' hb')
      go_ret2
      refine ⟨_, rfl, ?_, HX.out.trans hb'⟩
      rw [HE.out]; unfold bytesV; rw [List.map_append, List.length_append, List.map_cons, List.map_nil, h8.out]; exact hown'
    · have hi : (128 : Int) ≤ (m : Int) := by omega
      have h8 := or128 m
      have HE : Hid (numB n = (bs ++ [UInt8.ofNat (m % 128 + 128)]) ++ numB (m / 128)) := by have := HB.out; rw [numB_step h] at this; show _ = _; rw [List.append_assoc]; exact this
      go_wp2_with (at_builtin; refine wp_app1 (w0 := wr) rfl rfl _ _ 23 rfl w.heap.size 5 (.int .u8 0) 1 1 Try.underlying23 info_b8 rfl (by decide) (by decide) _ bs.length _ rfl HO.out rfl rfl (one_cell1 rfl) (by omega) HX.out.size ?_; intro v' w' hown' hg' hb')
      go_roundw
      case rel => exact ⟨m / 128, bs ++ [UInt8.ofNat (m % 128 + 128)], by omega, rfl, HE, by show World.ownsRow _ _ _ _ _ _ _; unfold bytesV; rw [List.map_append, List.length_append]; exact hown', HX.out.trans hb'⟩
      case measure => simp [intOf]; omega

end Go.Proofs.Ytdbpgcaoakoojaa
