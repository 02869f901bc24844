/- The walks of a vector's find, Select and Select0, with sort.Search. -/
import Derived.Test.YtfiioobdknbacaaVecN
set_option linter.unusedVariables false
set_option linter.unusedSimpArgs false
namespace Lec
/-- How many of the first i bits are b. -/
def cntB (b : Bool) (bs : List Bool) (i : Nat) : Nat := (bs.take i).count b
theorem cntB_true (bs : List Bool) (i : Nat) : cntB true bs i = rankB bs i := rfl
theorem cntB_false (bs : List Bool) (i : Nat) (h : i ≤ bs.length) : cntB false bs i = i - rankB bs i := by
  unfold cntB rankB
  have h1 : (bs.take i).length = i := by rw [List.length_take]; omega
  have : ∀ l : List Bool, l.count false + l.count true = l.length := by
    intro l
    induction l with
    | nil => rfl
    | cons a l ih => rw [List.count_cons, List.count_cons, List.length_cons]; cases a <;> simp <;> omega
  have := this (bs.take i)
  omega
theorem cntB_le (b : Bool) (bs : List Bool) (i : Nat) : cntB b bs i ≤ i := by
  unfold cntB; exact Nat.le_trans List.count_le_length (by rw [List.length_take]; omega)
theorem cntB_mono (b : Bool) (bs : List Bool) {i j : Nat} (h : i ≤ j) : cntB b bs i ≤ cntB b bs j := by
  unfold cntB
  have : bs.take i = (bs.take j).take i := by rw [List.take_take, Nat.min_eq_left h]
  rw [this]
  exact List.Sublist.count_le _ (List.take_sublist _ _)
end Lec
namespace Go.Proofs.Ytfiioobdknbacaa
open Go.RowKit Lec

theorem clo_rank (w : World) (g h p : Nat) (k : Int) (bs : List Bool) (hm : bs.length ≤ 1048576) (j : Nat) (hj : j < bs.length) (hg : w.cell? ⟨g, 0, none⟩ = some (.func (.func 110) #[.pointer (some ⟨p, 0, none⟩)] #[])) (hh : w.cell? ⟨h, 0, none⟩ = some (.int .i64 k))
    (hc : ∀ q, Calls Try.prog 110 #[.pointer (some ⟨p, 0, none⟩), .int .i64 ((j : Int) + 1)] (w.drewN q) fun e w' => e = .returned (.int .i64 (cntB true bs (j + 1) : Int)) ∧ ∃ q', (w.drewN q).drewN q' = w') :
    Calls Try.prog 140 #[.int .i64 (j : Int), .pointer (some ⟨g, 0, none⟩), .pointer (some ⟨h, 0, none⟩)] w fun e w' => e = .returned (.bool (decide (k < (cntB true bs (j + 1) : Int)))) ∧ ∃ q, w.drewN q = w' := by
  have HC := Lib.hid hc
  clear hc
  have hle := cntB_le true bs (j + 1)
  generalize cntB true bs (j + 1) = x at *
  have hwj : IntKind.i64.wrap ((j : Int) + 1) = (j : Int) + 1 := wrap_id (by omega)
  go_enter Try.func140, Try.ntmps140
  go_wp2
  go_quiet ((go_at_call 110; exact Calls.q_drawn (HC.out _)))
  go_wp2
  go_ret
  exact ⟨rfl, nq, rfl⟩

theorem clo_nought (w : World) (g h p : Nat) (k : Int) (bs : List Bool) (hm : bs.length ≤ 1048576) (j : Nat) (hj : j < bs.length) (hg : w.cell? ⟨g, 0, none⟩ = some (.func (.func 127) #[] #[.pointer (some ⟨p, 0, none⟩)])) (hh : w.cell? ⟨h, 0, none⟩ = some (.int .i64 k))
    (hc : ∀ q, Calls Try.prog 127 #[.int .i64 ((j : Int) + 1), .pointer (some ⟨p, 0, none⟩)] (w.drewN q) fun e w' => e = .returned (.int .i64 (cntB false bs (j + 1) : Int)) ∧ ∃ q', (w.drewN q).drewN q' = w') :
    Calls Try.prog 140 #[.int .i64 (j : Int), .pointer (some ⟨g, 0, none⟩), .pointer (some ⟨h, 0, none⟩)] w fun e w' => e = .returned (.bool (decide (k < (cntB false bs (j + 1) : Int)))) ∧ ∃ q, w.drewN q = w' := by
  have HC := Lib.hid hc
  clear hc
  have hle := cntB_le false bs (j + 1)
  generalize cntB false bs (j + 1) = x at *
  have hwj : IntKind.i64.wrap ((j : Int) + 1) = (j : Int) + 1 := wrap_id (by omega)
  go_enter Try.func140, Try.ntmps140
  go_wp2
  go_quiet ((go_at_call 127; exact Calls.q_drawn (HC.out _)))
  go_wp2
  go_ret
  exact ⟨rfl, nq, rfl⟩

set_option maxRecDepth 100000 in
/-- The least place at which the closure says yes. -/
theorem Search_any (w : World) (n r : Nat) (g h : Addr) (hn : n ≤ 2000000) (hr : r ≤ n)
    (hf : ∀ j q, j < n → Calls Try.prog 140 #[.int .i64 ((j : Nat) : Int), .pointer (some g), .pointer (some h)] (w.drewN q) fun e w' => e = .returned (.bool (decide (r ≤ j))) ∧ ∃ q', w.drewN q' = w') :
    Calls Try.prog 139 #[.int .i64 (n : Int), .func (.func 140) #[] #[.pointer (some g), .pointer (some h)]] w fun e w' => e = .returned (.int .i64 (r : Int)) ∧ ∃ q, w.drewN q = w' := by
  have HF := Lib.hid hf
  clear hf
  go_enter Try.func139, Try.ntmps139
  go_wp2
  go_loopw [5, 6] (fun a b wr => ∃ x y q : Nat, a = .int .i64 (x : Int) ∧ b = .int .i64 (y : Int) ∧ x ≤ r ∧ r ≤ y ∧ y ≤ n ∧ wr = w.drewN q) (fun a b _ => (intOf b - intOf a).toNat)
  case atStart => exact ⟨0, n, 0, rfl, rfl, by omega, hr, by omega, rfl⟩
  case round =>
    obtain ⟨x, y, q, rfl, rfl, hx, hy, hyn, rfl⟩ := hrel
    by_cases hxy : x < y
    · have hxi : (x : Int) < (y : Int) := by omega
      go_wp2_with fail
      have e : ((x : Int) + (y : Int)) / 2 = (((x + y) / 2 : Nat) : Int) := by omega
      have hm1 : x ≤ (x + y) / 2 := by omega
      have hm2 : (x + y) / 2 < y := by omega
      rw [e]
      generalize (x + y) / 2 = m at *
      refine (HF.out m q (by omega)).mono ?_
      rintro e w' ⟨rfl, q', rfl⟩
      by_cases hrm : r ≤ m
      · rw [decide_eq_true hrm]
        go_wp2
        go_roundw
        case rel => exact ⟨x, m, q', rfl, rfl, hx, hrm, by omega, rfl⟩
        case measure => simp [intOf]; omega
      · rw [decide_eq_false hrm]
        go_wp2
        go_roundw
        case rel => exact ⟨m + 1, y, q', by go_num, rfl, by omega, hy, hyn, rfl⟩
        case measure => simp [intOf]; omega
    · have hxi : ¬ (x : Int) < (y : Int) := by omega
      obtain rfl : x = r := by omega
      go_wp2
      go_ret
      exact ⟨rfl, q, rfl⟩
end Go.Proofs.Ytfiioobdknbacaa
