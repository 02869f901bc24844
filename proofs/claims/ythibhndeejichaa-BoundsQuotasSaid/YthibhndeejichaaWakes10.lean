/- The walk of law 10's own sample. -/
import Derived.Test.YthibhndeejichaaWirePut
import Derived.Test.YthibhndeejichaaAsk10
import Derived.Test.YthibhndeejichaaHelpEB
set_option linter.unusedVariables false
set_option linter.unusedSimpArgs false
namespace Lec
open Go Go.RowKit
def sa : ByteArray := ⟨#[97]⟩
def se : ByteArray := ⟨#[]⟩
theorem put_sample : putB [sa, se] = [2, 1, 97, 0] := by
  have h2 : numB 2 = [2] := by rw [numB_small (by omega)]; rfl
  have h1 : numB 1 = [1] := by rw [numB_small (by omega)]; rfl
  have h0 : numB 0 = [0] := by rw [numB_small (by omega)]; rfl
  show numB 2 ++ ((numB 1 ++ [97]) ++ ((numB 0 ++ []) ++ [])) = _
  rw [h2, h1, h0]; rfl
theorem rds_new_of {α : Type} (f : α → Value) (w : World) (xs : List α) (t : TypeId) (vs : Array Value) (h : vs.toList = xs.map f) : Rds (w.alloc (.cells vs t)) (some ⟨w.heap.size, 0, none⟩) (xs.map f) := by
  intro i v hv
  refine ⟨_, rfl, ?_⟩
  rw [Addr.add_lit, cell_of_row _ _ _ _ _ _ (heap_alloc_new _ _), Nat.zero_add, ← hv, ← h]
  simp
end Lec
namespace Go.Proofs.Ythibhndeejichaa
open Go.RowKit Lec

set_option maxRecDepth 100000 in
theorem wakes10 (w : World) : Calls Try.prog 27 #[] w fun e w' => e = .returned (.bool true) ∧ Below w.heap.size w w' := by
  go_enter Try.func27, Try.ntmps27
  go_wp2_with fail
  refine (Put_any _ _ 2 2 [sa, se] rfl (by omega) (by intro s hs; simp at hs; rcases hs with rfl | rfl <;> decide) (rds_new_of Value.string _ _ _ _ rfl)).mono ?_
  rintro e w1 ⟨hb, ⟨hle, v, rfl, hown⟩ | ⟨hlt, _⟩⟩
  · rw [put_sample] at hown
    obtain ⟨A, c, rfl, q1, q2, q3, q4, q5⟩ := own_rds hown
    have HQ := Lib.hid q4
    have HB := Lib.hid hb
    clear hb hle hown q1 q2 q3 q4 q5
    go_wp2_with fail
    refine (num10 _ _).mono ?_
    rintro e w2 ⟨rfl, rfl⟩
    go_wp2_with fail
    refine (EqBytes_any _ A 4 c [2, 1, 97, 0] rfl (HQ.out.ext ((Below.refl _ _).alloc (Nat.le_refl _) _) (Nat.le_refl _)) _ 4 4 [2, 1, 97, 0] rfl (rds_new_of (fun x : UInt8 => Value.int .u8 (x.toNat : Int)) _ _ _ _ rfl) (by omega)).mono ?_
    rintro e w3 ⟨rfl, q, rfl⟩
    go_wp2
    go_ret
    refine ⟨rfl, ?_⟩
    have h1 : Below w.heap.size w w1 := ((Below.refl _ _).alloc (Nat.le_refl _) _).trans (HB.out.mono (by simp))
    exact (h1.alloc h1.size _).trans ((drawn_below _ q).mono (by simp; exact Nat.le_succ_of_le h1.size))
  · rw [put_sample] at hlt; simp at hlt
end Go.Proofs.Ythibhndeejichaa
