/- The argument of the laws on checksums: a sum, bytes, a number. -/
import Derived.Test.YthibhndeejichaaProg
import Derived.Test.YthibhndeejichaaRead
set_option linter.unusedVariables false
namespace Go.Proofs.Ythibhndeejichaa
open Go.RowKit Lec

abbrev Ask9 : Rep (Nat × List UInt8 × Int) := Rep.pair Rep.u32 (Rep.pair (Rep.slice Rep.u8 1) (Rep.int .i64))

theorem ask9_of : Ask9.Of Try.prog 26 :=
  Rep.struct_of Try.underlying26 (by kernel_rfl) (FieldsOf.cons rfl (by kernel_rfl) (Rep.u32_of Try.underlying23) (FieldsOf.cons rfl (by kernel_rfl) (Rep.slice_of Try.underlying24 (by kernel_rfl) (by kernel_rfl) (Rep.u8_of Try.underlying5)) (FieldsOf.one rfl (by kernel_rfl) (Rep.int_of Try.underlying3))))
theorem asks9_of : (Rep.slice Ask9 40).Of Try.prog 22 := Rep.slice_of Try.underlying22 (by kernel_rfl) (by kernel_rfl) ask9_of

theorem ask9_at {w : World} {A : Option Addr} {xs : List (Nat × List UInt8 × Int)} (h : Row Ask9 w A xs) (i : Nat) (hi : i < xs.length) :
    ∃ a B c, A = some a ∧ w.cell? (a.add (i * 3)) = some (.int .u32 (xs[i].1 : Int)) ∧ xs[i].1 < 4294967296 ∧
      w.cell? ⟨(a.add (i * 3)).block, (a.add (i * 3)).off + 1, none⟩ = some (.slice B xs[i].2.1.length c) ∧
      w.cell? ⟨(a.add (i * 3)).block, (a.add (i * 3)).off + 2, none⟩ = some (.int .i64 xs[i].2.2) ∧
      xs[i].2.1.length ≤ c ∧ c ≤ 140737488351232 ∧ (B = none → xs[i].2.1.length = 0 ∧ c = 0) ∧ Rds w B (bytesV xs[i].2.1) ∧ (-9223372036854775808 ≤ xs[i].2.2 ∧ xs[i].2.2 ≤ 9223372036854775807) := by
  obtain ⟨a, cs, e, hl, hc, c1, c2, rfl, _, ⟨rfl, hu⟩, d1, d2, rfl, _, ⟨B, c, rfl, b1, b2, b3, b4, b5⟩, ⟨rfl, hw⟩⟩ := h i hi
  refine ⟨a, B, c, e, by have := hc 0 _ rfl; rwa [show i * Ask9.n + 0 = i * 3 from rfl] at this, hu, ?_, ?_, b1, by simpa [reachBytes] using b4, b3, b5.rds, ?_⟩
  · have := hc 1 _ rfl
    rwa [show i * Ask9.n + 1 = i * 3 + 1 from rfl, add_fld _ _ _ (by omega)] at this
  · have := hc 2 _ rfl
    rwa [show i * Ask9.n + 2 = i * 3 + 2 from rfl, add_fld _ _ _ (by omega)] at this
  · simp [Lit.wf, IntKind.min, IntKind.max, IntKind.bits, IntKind.signed] at hw; omega
end Go.Proofs.Ythibhndeejichaa
