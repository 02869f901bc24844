/- The walks of law 9's own sample, and the checksum of any bytes. -/
import Derived.Test.YthibhndeejichaaSumL
set_option linter.unusedVariables false
set_option linter.unusedSimpArgs false
namespace Go.Proofs.Ythibhndeejichaa
open Go.RowKit Lec

theorem sum_any (s : Nat) (hs : s < 4294967296) (w : World) (A : Option Addr) (n c : Nat) (bs : List UInt8) (hn : bs.length = n) (hm : n ≤ 9223372036854775807) (hr : Rds w A (bytesV bs)) :
    Calls Try.prog 15 #[.int .u32 (s : Int), .slice A n c] w fun e w' => e = .returned (.int .u32 (csum s bs : Int)) ∧ Below w.heap.size w w' := by
  by_cases h : n < 300
  · exact sum_small s hs w A n c bs hn h hr
  · exact sum_large s hs w A n c bs hn h hm hr

def nine : List UInt8 := [49, 50, 51, 52, 53, 54, 55, 56, 57]
theorem nine_sum : csum 0 nine = 3421780262 := by decide +kernel

set_option maxRecDepth 100000 in
theorem wakes9 (w : World) : Calls Try.prog 18 #[] w fun e w' => e = .returned (.bool true) ∧ Below w.heap.size w w' := by
  have kc := fun (w : World) (C : Array Value) (n c : Nat) => Lib.run_convert_bytes_const (P := Try.prog) w 24 5 C n c Try.underlying24 Try.underlying5
  go_enter Try.func18, Try.ntmps18
  go_wp2_with fail
  refine (sum_any 0 (by omega) _ _ 9 9 nine rfl (by omega) ?_).mono ?_
  · intro i v hv
    refine ⟨_, rfl, ?_⟩
    rw [Addr.add_lit, cell_of_row _ _ _ _ _ _ (heap_alloc_new _ _), Nat.zero_add, ← hv]
    show (#[_, _, _, _, _, _, _, _, _] : Array Value)[i]? = (List.map _ nine)[i]?
    rw [← List.getElem?_toArray]
    rfl
  · rintro e w1 ⟨rfl, hb⟩
    rw [nine_sum]
    have HB := Lib.hid hb
    clear hb
    go_wp2
    go_ret
    exact ⟨rfl, ((Below.refl _ _).alloc (Nat.le_refl _) _).trans (HB.out.mono (by simp))⟩
end Go.Proofs.Ythibhndeejichaa
