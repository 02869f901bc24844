/- The walk of math/bits.OnesCount64. -/
import Derived.Test.YtfiioobdknbacaaProg
import Derived.Test.YtfiioobdknbacaaOnesL
set_option linter.unusedVariables false
set_option linter.unusedSimpArgs false
namespace Lec
open Go Go.RowKit
theorem u64w (n : Nat) (h : n < 18446744073709551616) : IntKind.u64.wrap (n : Int) = (n : Int) := IntWalk.u64_in _ (by omega)
theorem andw (x m : Nat) (hx : x < 18446744073709551616) (hm : m < 18446744073709551616) : bits .and .u64 (x : Int) (m : Int) = ((x &&& m : Nat) : Int) := u64_and_nat x m hx hm
theorem two_and (x y m s : Nat) (hx : x < 18446744073709551616) (hm : m < 18446744073709551616) (d : Nat) (e : y = (x / d &&& m) + (x &&& m)) (hy : y < 18446744073709551616) :
    IntKind.u64.wrap (bits .and .u64 ((x : Int) / (d : Int)) (m : Int) + bits .and .u64 (x : Int) (m : Int)) = (y : Int) := by
  have hd : (x : Int) / (d : Int) = ((x / d : Nat) : Int) := by simp
  rw [hd, andw _ _ (Nat.lt_of_le_of_lt (Nat.div_le_self _ _) hx) hm, andw _ _ hx hm, ← Int.natCast_add, ← e, u64w _ hy]
theorem sum_and (x y m d : Nat) (hm : m < 18446744073709551616) (hs : x / d + x < 18446744073709551616) (e : y = (x / d + x) &&& m) :
    bits .and .u64 (IntKind.u64.wrap ((x : Int) / (d : Int) + (x : Int))) (m : Int) = (y : Int) := by
  have hd : (x : Int) / (d : Int) + (x : Int) = ((x / d + x : Nat) : Int) := by simp
  rw [hd, u64w _ hs, andw _ _ hs hm, ← e]
theorem sum_div (x y d : Nat) (e : y = x + x / d) (hy : y < 18446744073709551616) : IntKind.u64.wrap ((x : Int) + (x : Int) / (d : Int)) = (y : Int) := by
  have hd : (x : Int) + (x : Int) / (d : Int) = ((x + x / d : Nat) : Int) := by simp
  rw [hd, ← e, u64w _ hy]
end Lec
namespace Go.Proofs.Ytfiioobdknbacaa
open Go.RowKit Lec

theorem ones_any (w : World) (l : List Bool) (hl : l.length = 64) (x : Nat) (hx : ofB l = x) : Calls Try.prog 98 #[.int .u64 (x : Int)] w fun e w' => e = .returned (.int .i64 ((l.count true : Nat) : Int)) ∧ w = w' := by
  have HX := Lib.hid hx
  clear hx
  go_enter Try.func98, Try.ntmps98
  have hx : x < 18446744073709551616 := by rw [← HX.out]; have := ofB_lt l; rw [hl] at this; exact this
  obtain ⟨x1, e1⟩ : ∃ x1, x1 = (ofB l / 2 &&& 6148914691236517205) + (ofB l &&& 6148914691236517205) := ⟨_, rfl⟩
  obtain ⟨x2, e2⟩ : ∃ x2, x2 = (x1 / 4 &&& 3689348814741910323) + (x1 &&& 3689348814741910323) := ⟨_, rfl⟩
  obtain ⟨x3, e3⟩ : ∃ x3, x3 = (x2 / 16 + x2) &&& 1085102592571150095 := ⟨_, rfl⟩
  obtain ⟨x4, e4⟩ : ∃ x4, x4 = x3 + x3 / 256 := ⟨_, rfl⟩
  obtain ⟨x5, e5⟩ : ∃ x5, x5 = x4 + x4 / 65536 := ⟨_, rfl⟩
  obtain ⟨x6, e6⟩ : ∃ x6, x6 = x5 + x5 / 4294967296 := ⟨_, rfl⟩
  obtain ⟨s0, b1, b2, b3, b4, b5, b6, b7⟩ := swar l hl x1 x2 x3 x4 x5 x6 e1 e2 e3 e4 e5 e6
  rw [HX.out] at e1
  have r1 := two_and x x1 6148914691236517205 0 hx (by decide) 2 e1 b1
  have r2 := two_and x1 x2 3689348814741910323 0 b1 (by decide) 4 e2 (Nat.lt_trans b2 (by decide))
  have r3 := sum_and x2 x3 1085102592571150095 16 (by decide) (Nat.lt_trans b3 (by decide)) e3
  have r4 := sum_div x3 x4 256 e4 (Nat.lt_trans b5 (by decide))
  have r5 := sum_div x4 x5 65536 e5 (Nat.lt_trans b6 (by decide))
  have r6 := sum_div x5 x6 4294967296 e6 (Nat.lt_trans b7 (by decide))
  have r7 : wrap64 (x6 : Int) = (x6 : Int) := IntWalk.wrap64_in _ (by omega)
  have HR1 := Lib.hid r1
  have HR2 := Lib.hid r2
  have HR3 := Lib.hid r3
  have HR4 := Lib.hid r4
  have HR5 := Lib.hid r5
  have HR6 := Lib.hid r6
  have HR7 := Lib.hid r7
  have HS := Lib.hid s0
  clear r1 r2 r3 r4 r5 r6 r7 e1 e2 e3 e4 e5 e6 b1 b2 b3 b4 b5 b6 b7 s0 hx
  go_wp2
  go_ret
  have r1 : IntKind.u64.wrap (bits .and .u64 ((x : Int) / 2) 6148914691236517205 + bits .and .u64 (x : Int) 6148914691236517205) = (x1 : Int) := HR1.out
  have r2 : IntKind.u64.wrap (bits .and .u64 ((x1 : Int) / 4) 3689348814741910323 + bits .and .u64 (x1 : Int) 3689348814741910323) = (x2 : Int) := HR2.out
  have r3 : bits .and .u64 (IntKind.u64.wrap ((x2 : Int) / 16 + (x2 : Int))) 1085102592571150095 = (x3 : Int) := HR3.out
  have r4 : IntKind.u64.wrap ((x3 : Int) + (x3 : Int) / 256) = (x4 : Int) := HR4.out
  have r5 : IntKind.u64.wrap ((x4 : Int) + (x4 : Int) / 65536) = (x5 : Int) := HR5.out
  have r6 : IntKind.u64.wrap ((x5 : Int) + (x5 : Int) / 4294967296) = (x6 : Int) := HR6.out
  have r8 : ((x6 : Int) % 128) = ((List.count true l : Nat) : Int) := by rw [← HS.out]; simp
  refine ⟨?_, rfl⟩
  show Ending.returned (Value.int .i64 _) = _
  rw [r1, r2, r3, r4, r5, r6, HR7.out, i64_and127, r8]
end Go.Proofs.Ytfiioobdknbacaa
