/- slices.Sort of a slice of the call's own, a nil one too. -/
import Derived.Test.YtjpcfpffbicpnaaSort
import Derived.Test.YtjpcfpffbicpnaaPackBas
import Derived.Sort.OwnSortedInts
set_option linter.unusedVariables false
set_option linter.unusedSimpArgs false
namespace Go.Proofs.Ytjpcfpffbicpnaa
open Go.RowKit Lec
theorem insNone_any (w : World) : Calls Try.prog 102 #[.slice none 0 0, .int .i64 0, .int .i64 0] w fun e w' => e = .returned (.tuple #[]) ∧ w = w' := by
  go_enter Try.func102, Try.ntmps102
  go_wp2
  go_loop [6] (fun i => i = .int .i64 1) (fun _ => 0)
  case atStart => rfl
  case round =>
    subst hrel
    go_wp2
    go_end0
    exact ⟨rfl, rfl⟩
set_option maxRecDepth 100000 in
theorem pdqNone_any (w : World) (l : Int) : Calls Try.prog 82 #[.slice none 0 0, .int .i64 0, .int .i64 0, .int .i64 l] w fun e w' => e = .returned (.tuple #[]) ∧ w = w' := by
  have HC := Lib.hid (insNone_any w)
  go_enter Try.func82, Try.ntmps82
  go_wp2
  go_loop [1, 2, 3, 8, 9] (fun a b l x y => a = .int .i64 0 ∧ b = .int .i64 0) (fun _ _ _ _ _ => 0)
  case atStart => exact ⟨rfl, rfl⟩
  case round =>
    obtain ⟨rfl, rfl⟩ := hrel
    go_wp2_with fail
    refine HC.out.mono ?_
    rintro e w1 ⟨rfl, rfl⟩
    go_wp2
    refine bodyPost_ret (v := .tuple #[]) (by simp [results, Try.results82, go_sem, *]) rfl ?_
    exact ⟨rfl, rfl⟩
theorem sortNone_any (w : World) : Calls Try.prog 56 #[.slice none 0 0] w fun e w' => e = .returned (.tuple #[]) ∧ w = w' := by
  have HL := Lib.hid (mbLen_any w 0 (by decide))
  have HP := Lib.hid (fun l => pdqNone_any w l)
  go_enter Try.func56, Try.ntmps56
  go_wp2_with fail
  refine HL.out.mono ?_
  rintro e w1 ⟨⟨n, rfl, _, _⟩, rfl⟩
  go_wp2_with fail
  refine (HP.out _).mono ?_
  rintro e w1 ⟨rfl, rfl⟩
  go_wp2
  go_end0
  exact ⟨rfl, rfl⟩
def leN (a b : Nat) : Bool := decide (a ≤ b)
theorem sort_own (w : World) (base : Nat) (v : Value) (X : List Nat) (hm : X.length ≤ 1000000000) (hown : w.ownsRow base 3 1 v X.length (natsC X)) :
    Calls Try.prog 56 #[v] w fun e w' => e = .returned (.tuple #[]) ∧ w'.ownsRow base 3 1 v X.length (natsC (X.mergeSort leN)) ∧ w.grownBy w' v.ownBlock := by
  rcases hown.2 with ⟨rfl, h0⟩ | ⟨g, cap, cur, rfl, hbase, hb, h1, h2, h3, h4⟩
  · have hX : X = [] := List.length_eq_zero_iff.1 h0
    subst hX
    refine (sortNone_any w).mono ?_
    rintro e w' ⟨rfl, rfl⟩
    exact ⟨rfl, by rw [List.mergeSort_nil]; exact hown, World.grownBy.refl _ _⟩
  · have hg : g < w.heap.size := (Array.getElem?_eq_some_iff.1 hb).1
    have hzs : natsC X = (X.map fun x : Nat => (x : Int)).map (Value.int .i64) := by unfold natsC; rw [List.map_map]; rfl
    have hl : (X.map fun x : Nat => (x : Int)).length = X.length := List.length_map _
    have hH : Go.Sort.Holds (Value.int .i64) w g 0 (X.map fun x : Nat => (x : Int)).toArray := holds_of_blockI hb (by rw [hl, ← hzs, ← Nat.mul_one X.length]; exact h4)
    have hs : (X.map fun x : Nat => (x : Int)).mergeSort (fun x y => decide (x ≤ y)) = (X.mergeSort leN).map fun x : Nat => (x : Int) := by
      rw [List.map_mergeSort (s := fun x y => decide (x ≤ y))]
      intro a _ b _
      unfold leN
      simp
    have h := Try.slices_Sort_int g 0 cap (X.map fun x : Nat => (x : Int)) w hH hg (by rw [hl]; omega)
    rw [hl] at h
    refine h.mono ?_
    rintro e w' ⟨rfl, n, os, rfl⟩
    have ho := ownsRow_sortedI (w := w) (n := n) (os := os) (ss := X.map fun x : Nat => (x : Int)) (ts := (X.map fun x : Nat => (x : Int)).mergeSort (fun x y => decide (x ≤ y))) (List.length_mergeSort _) hbase hb (by rw [hl]; exact h1) h2 h3
    rw [hl, hs] at ho
    rw [hs]
    refine ⟨rfl, ?_, grownBy_sortedI _⟩
    have hz2 : natsC (X.mergeSort leN) = ((X.mergeSort leN).map fun x : Nat => (x : Int)).map (Value.int .i64) := by unfold natsC; rw [List.map_map]; rfl
    rw [hz2]
    exact ho
end Go.Proofs.Ytjpcfpffbicpnaa
