/- The walks of a vector's Len, Get, Rank. -/
import Derived.Test.YtfiioobdknbacaaVecW
set_option linter.unusedVariables false
set_option linter.unusedSimpArgs false
namespace Go.Proofs.Ytfiioobdknbacaa
open Go.RowKit Lec

set_option maxRecDepth 100000 in
theorem Get_in (w : World) (p : Nat) (bs : List Bool) (hv : Vec w p bs) (hm : bs.length ≤ 1048576) (i : Nat) (hi : i < bs.length) :
    Calls Try.prog 71 #[.pointer (some ⟨p, 0, none⟩), .int .i64 (i : Int)] w fun e w' => e = .returned (.tuple #[.bool bs[i], .int .i64 0]) ∧ w = w' := by
  have hat := at_any w p bs hv hm i hi
  obtain ⟨A, c, B, d, h1, h2, h3, h4, h5⟩ := hv.out
  have HAT := Lib.hid hat
  have h0 : ¬ (i : Int) < 0 := by omega
  have h6 : ¬ (bs.length : Int) ≤ (i : Int) := by omega
  generalize bs[i] = b at *
  clear h1 h3 h4 h5 hv hat
  go_enter Try.func71, Try.ntmps71
  go_wp2_with fail
  refine HAT.out.mono ?_
  rintro e w' ⟨rfl, rfl⟩
  go_wp2
  go_ret2
  exact ⟨rfl, rfl⟩

theorem Get_out (w : World) (p : Nat) (bs : List Bool) (hv : Vec w p bs) (i : Int) (hi : i < 0 ∨ (bs.length : Int) ≤ i) :
    Calls Try.prog 71 #[.pointer (some ⟨p, 0, none⟩), .int .i64 i] w fun e w' => e = .returned (.tuple #[.bool false, .int .i64 3]) ∧ w = w' := by
  obtain ⟨A, c, B, d, h1, h2, h3, h4, h5⟩ := hv.out
  clear h1 h3 h4 h5 hv
  by_cases h0 : i < 0
  · clear hi
    go_enter Try.func71, Try.ntmps71
    go_wp2
    go_ret2
    exact ⟨rfl, rfl⟩
  · have h6 : (bs.length : Int) ≤ i := by omega
    clear hi
    go_enter Try.func71, Try.ntmps71
    go_wp2
    go_ret2
    exact ⟨rfl, rfl⟩

set_option maxRecDepth 100000 in
theorem Rank_in (w : World) (p : Nat) (bs : List Bool) (hv : Vec w p bs) (hm : bs.length ≤ 1048576) (i : Nat) (hi : i ≤ bs.length) :
    Calls Try.prog 90 #[.pointer (some ⟨p, 0, none⟩), .int .i64 (i : Int)] w fun e w' => e = .returned (.tuple #[.int .i64 (rankB bs i : Int), .int .i64 0]) ∧ ∃ q, w.drewN q = w' := by
  have hat := rank_any w p bs hv hm i hi
  obtain ⟨A, c, B, d, h1, h2, h3, h4, h5⟩ := hv.out
  have HAT := Lib.hid hat
  have h0 : ¬ (i : Int) < 0 := by omega
  have h6 : ¬ (bs.length : Int) < (i : Int) := by omega
  generalize rankB bs i = b at *
  clear h1 h3 h4 h5 hv hat
  go_enter Try.func90, Try.ntmps90
  go_wp2_with fail
  refine HAT.out.mono ?_
  rintro e w' ⟨rfl, q, rfl⟩
  go_wp2
  go_ret2
  exact ⟨rfl, q, rfl⟩

theorem Rank_out (w : World) (p : Nat) (bs : List Bool) (hv : Vec w p bs) (i : Int) (hi : i < 0 ∨ (bs.length : Int) < i) :
    Calls Try.prog 90 #[.pointer (some ⟨p, 0, none⟩), .int .i64 i] w fun e w' => e = .returned (.tuple #[.int .i64 0, .int .i64 3]) ∧ w = w' := by
  obtain ⟨A, c, B, d, h1, h2, h3, h4, h5⟩ := hv.out
  clear h1 h3 h4 h5 hv
  by_cases h0 : i < 0
  · clear hi
    go_enter Try.func90, Try.ntmps90
    go_wp2
    go_ret2
    exact ⟨rfl, rfl⟩
  · have h6 : (bs.length : Int) < i := by omega
    clear hi
    go_enter Try.func90, Try.ntmps90
    go_wp2
    go_ret2
    exact ⟨rfl, rfl⟩
end Go.Proofs.Ytfiioobdknbacaa
