/- The walk of lecternlaw0.Within. -/
import Derived.Test.YthibhndeejichaaProg
import Derived.Test.YthibhndeejichaaBase
set_option linter.unusedVariables false
set_option linter.unusedSimpArgs false
namespace Lec
def within (i n : Int) : Int := (i % 18446744073709551616) % n
theorem within_lo (i n : Int) (h : 0 < n) : 0 ≤ within i n := Int.emod_nonneg _ (by omega)
theorem within_lt (i n : Int) (h : 0 < n) : within i n < n := Int.emod_lt_of_pos _ h
end Lec
namespace Go.Proofs.Ythibhndeejichaa
open Go.RowKit Lec

theorem Within_any (w : World) (i n : Int) (h0 : 0 < n) (hn : n ≤ 9223372036854775807) :
    Calls Try.prog 19 #[.int .i64 i, .int .i64 n] w fun e w' => e = .returned (.int .i64 (within i n)) ∧ w = w' := by
  have hlo := within_lo i n h0
  have hlt := within_lt i n h0
  have hnm : Hid (n % 18446744073709551616 = n) := by show _ = _; omega
  go_enter Try.func19, Try.ntmps19
  go_wp2
  go_ret
  refine ⟨?_, rfl⟩
  have e : wrap64 ((IntKind.u64.wrap i).tmod n) = within i n := by
    rw [IntKind.wrap_u64, Int.tmod_eq_emod_of_nonneg (Int.emod_nonneg _ (by omega))]
    show wrap64 (within i n) = within i n
    unfold wrap64
    omega
  rw [← e]
  rfl
end Go.Proofs.Ythibhndeejichaa
