/- The walks of bounds. -/
import Derived.Test.YthibhndeejichaaProg
import Derived.Test.YthibhndeejichaaQuiet
import Derived.Test.YthibhndeejichaaBndL
set_option linter.unusedVariables false
set_option linter.unusedSimpArgs false
namespace Lec
open Go Go.RowKit
theorem wrap_id {n : Int} (h : -9223372036854775808 ≤ n ∧ n ≤ 9223372036854775807) : IntKind.i64.wrap n = n := by
  rw [IntWalk.i64_left]; exact IntWalk.wrap64_in n h
abbrev intsI (xs : List Int) : List Value := xs.map (Value.int .i64)
/-- Bounds that lie at p: the places. -/
def Bnd (w : World) (p : Nat) (xs : List Int) : Prop := ∃ A c, w.cell? ⟨p, 0, none⟩ = some (.slice A xs.length c) ∧ xs.length ≤ 65 ∧ Rds w A (intsI xs)
theorem Bnd.ext {w w' : World} {p B : Nat} {xs : List Int} (h : Bnd w p xs) (hb : Below B w w') (hB : w.heap.size ≤ B) : Bnd w' p xs := by
  obtain ⟨A, c, h1, h3, h2⟩ := h
  exact ⟨A, c, cell_ext hb hB h1, h3, h2.ext hb hB⟩
end Lec
namespace Go.Proofs.Ythibhndeejichaa
open Go.RowKit Lec

theorem info_i64 : (Try.prog.info? 3).map (fun i => (i.zero, i.size, i.bytes)) = some (some (.int .i64 0), 1, 8) := by kernel_rfl

theorem bCount_any (w : World) (p : Nat) (xs : List Int) (hb : Bnd w p xs) :
    Calls Try.prog 38 #[.pointer (some ⟨p, 0, none⟩)] w fun e w' => e = .returned (.int .i64 ((xs.length : Int) - 1)) ∧ w = w' := by
  obtain ⟨A, c, h1, h3, h2⟩ := hb
  clear h2
  go_enter Try.func38, Try.ntmps38
  go_wp2
  go_ret
  exact ⟨rfl, rfl⟩
theorem bAll_any (w : World) (p : Nat) (xs : List Int) (x : Int) (hx : xs.getLast? = some x) (hb : Bnd w p xs) :
    Calls Try.prog 37 #[.pointer (some ⟨p, 0, none⟩)] w fun e w' => e = .returned (.int .i64 x) ∧ ∃ q, w.drewN q = w' := by
  obtain ⟨A, c, h1, h3, h2⟩ := hb
  have hl : 0 < xs.length := by cases xs with | nil => simp at hx | cons _ _ => simp
  obtain ⟨a, rfl, hc⟩ := h2.map (xs.length - 1) (by omega)
  have hxe : xs[xs.length - 1]'(by omega) = x := by
    rw [List.getLast?_eq_getElem?, List.getElem?_eq_getElem (by omega)] at hx; exact Option.some.inj hx
  rw [hxe] at hc
  have hn : ((xs.length : Int) - 1).toNat = xs.length - 1 := by omega
  clear h2 hxe hx
  go_enter Try.func37, Try.ntmps37
  go_wp2
  go_quiet (fail)
  go_wp2
  go_ret
  exact ⟨rfl, nq, rfl⟩
theorem bHas_any (w : World) (p : Nat) (xs : List Int) (i : Int) (t : Bool) (ht : decide (0 ≤ i ∧ i < (xs.length : Int) - 1) = t) (hb : Bnd w p xs) :
    Calls Try.prog 55 #[.pointer (some ⟨p, 0, none⟩), .int .i64 i] w fun e w' => e = .returned (.bool t) ∧ w = w' := by
  have HB := Lib.hid hb
  have HT := Lib.hid ht
  clear hb ht
  go_enter Try.func55, Try.ntmps55
  by_cases h0 : 0 ≤ i
  · by_cases h1 : i < (xs.length : Int) - 1
    · have HE : Hid (t = true) := by show _ = _; rw [← HT.out]; exact decide_eq_true ⟨h0, h1⟩
      clear HT
      go_wp2_with (go_at_call 38; refine (bCount_any w p xs HB.out).mono ?_; rintro e wq ⟨rfl, rfl⟩)
      go_ret
      exact ⟨by rw [HE.out]; rfl, rfl⟩
    · have HE : Hid (t = false) := by show _ = _; rw [← HT.out]; exact decide_eq_false (fun h => h1 h.2)
      clear HT
      go_wp2_with (go_at_call 38; refine (bCount_any w p xs HB.out).mono ?_; rintro e wq ⟨rfl, rfl⟩)
      go_ret
      exact ⟨by rw [HE.out]; show Ending.returned (.bool (decide _)) = _; rw [decide_eq_false (by omega)], rfl⟩
  · have HE : Hid (t = false) := by show _ = _; rw [← HT.out]; exact decide_eq_false (fun h => h0 h.1)
    clear HT
    go_wp2
    go_ret
    exact ⟨by rw [HE.out]; rfl, rfl⟩

theorem bStart_none (w : World) (p : Nat) (xs : List Int) (i : Int) (hi : ¬ (0 ≤ i ∧ i < (xs.length : Int) - 1)) (hb : Bnd w p xs) :
    Calls Try.prog 39 #[.pointer (some ⟨p, 0, none⟩), .int .i64 i] w fun e w' => e = .returned (.tuple #[.int .i64 0, .int .i64 3]) ∧ w = w' := by
  have HB := Lib.hid hb
  have HE := Lib.hid (decide_eq_false hi)
  clear hb hi
  go_enter Try.func39, Try.ntmps39
  go_wp2_with fail
  refine (bHas_any w p xs i _ HE.out HB.out).mono ?_
  rintro e wq ⟨rfl, rfl⟩
  go_wp2
  go_ret2
  exact ⟨rfl, rfl⟩

theorem bStart_any (w : World) (p : Nat) (xs : List Int) (i : Nat) (hi : i + 1 < xs.length) (hb : Bnd w p xs) :
    Calls Try.prog 39 #[.pointer (some ⟨p, 0, none⟩), .int .i64 i] w fun e w' => e = .returned (.tuple #[.int .i64 xs[i], .int .i64 0]) ∧ w = w' := by
  have HB := Lib.hid hb
  have HE : Hid (decide (0 ≤ (i : Int) ∧ (i : Int) < (xs.length : Int) - 1) = true) := decide_eq_true (by omega)
  obtain ⟨A, c, h1, h3, h2⟩ := hb
  obtain ⟨a, rfl, hc⟩ := h2.map i (by omega)
  have hil : (i : Int) < (xs.length : Int) := by omega
  clear h2
  generalize xs[i] = x at *
  go_enter Try.func39, Try.ntmps39
  go_wp2_with fail
  refine (bHas_any w p xs i _ HE.out HB.out).mono ?_
  rintro e wq ⟨rfl, rfl⟩
  go_wp2
  go_ret2
  exact ⟨rfl, rfl⟩

theorem bSize_none (w : World) (p : Nat) (xs : List Int) (i : Int) (hi : ¬ (0 ≤ i ∧ i < (xs.length : Int) - 1)) (hb : Bnd w p xs) :
    Calls Try.prog 40 #[.pointer (some ⟨p, 0, none⟩), .int .i64 i] w fun e w' => e = .returned (.tuple #[.int .i64 0, .int .i64 3]) ∧ w = w' := by
  have HB := Lib.hid hb
  have HE := Lib.hid (decide_eq_false hi)
  clear hb hi
  go_enter Try.func40, Try.ntmps40
  go_wp2_with fail
  refine (bHas_any w p xs i _ HE.out HB.out).mono ?_
  rintro e wq ⟨rfl, rfl⟩
  go_wp2
  go_ret2
  exact ⟨rfl, rfl⟩

theorem bSize_any (w : World) (p : Nat) (xs : List Int) (i : Nat) (hi : i + 1 < xs.length) (x y : Int) (hx : xs[i] = x) (hy : xs[i + 1] = y) (hr : 0 ≤ x ∧ x < y ∧ y ≤ 1000000000) (hb : Bnd w p xs) :
    Calls Try.prog 40 #[.pointer (some ⟨p, 0, none⟩), .int .i64 i] w fun e w' => e = .returned (.tuple #[.int .i64 (y - x - 1), .int .i64 0]) ∧ ∃ q, w.drewN q = w' := by
  have HB := Lib.hid hb
  have HE : Hid (decide (0 ≤ (i : Int) ∧ (i : Int) < (xs.length : Int) - 1) = true) := decide_eq_true (by omega)
  obtain ⟨A, c, h1, h3, h2⟩ := hb
  obtain ⟨a, rfl, hc⟩ := h2.map i (by omega)
  obtain ⟨a', e, hc'⟩ := h2.map (i + 1) (by omega)
  obtain rfl := Option.some.inj e
  rw [hx] at hc
  rw [hy] at hc'
  have hil : (i : Int) < (xs.length : Int) := by omega
  have hil2 : (i : Int) + 1 < (xs.length : Int) := by omega
  have hnn : (0 : Int) ≤ (i : Int) + 1 := by omega
  have hc2 : w.cell? ⟨a.block, a.off + (i + 1), none⟩ = some (.int .i64 y) := by
    rw [← hc']; unfold Addr.add; rw [if_neg (by omega)]
  have hin : ((i : Int) + 1).toNat = i + 1 := by omega
  have hw : IntKind.i64.wrap ((i : Int) + 1) = (i : Int) + 1 := wrap_id (by omega)
  have hw1 : IntKind.i64.wrap (y - x) = y - x := wrap_id (by omega)
  have hw2 : IntKind.i64.wrap (y - x - 1) = y - x - 1 := wrap_id (by omega)
  clear h2 hx hy
  go_enter Try.func40, Try.ntmps40
  go_wp2_with fail
  refine (bHas_any w p xs i _ HE.out HB.out).mono ?_
  rintro e wq ⟨rfl, rfl⟩
  go_wp2
  go_quiet (fail)
  go_wp2
  go_ret2
  exact ⟨rfl, nq, rfl⟩
end Go.Proofs.Ythibhndeejichaa
