/- The walk of bounds' Where, with sort.Search. -/
import Derived.Test.YtjpcfpffbicpnaaPackBas
set_option linter.unusedVariables false
set_option linter.unusedSimpArgs false
namespace Go.Proofs.Ytjpcfpffbicpnaa
open Go.RowKit Lec

set_option maxRecDepth 100000 in
theorem clo_any (w : World) (g h p : Nat) (at' : Int) (xs : List Int) (j : Nat) (hj : j + 1 < xs.length) (hg : w.cell? ⟨g, 0, none⟩ = some (.pointer (some ⟨p, 0, none⟩))) (hh : w.cell? ⟨h, 0, none⟩ = some (.int .i64 at')) (hb : Bnd w p xs) :
    Calls Try.prog 71 #[.int .i64 (j : Int), .pointer (some ⟨g, 0, none⟩), .pointer (some ⟨h, 0, none⟩)] w fun e w' => e = .returned (.bool (decide (at' < xs[j + 1]))) ∧ ∃ q, w.drewN q = w' := by
  obtain ⟨A, c, h1, h3, h2⟩ := hb
  obtain ⟨a, rfl, hc'⟩ := h2.map (j + 1) hj
  have hil2 : (j : Int) + 1 < (xs.length : Int) := by omega
  have hnn : (0 : Int) ≤ (j : Int) + 1 := by omega
  have hc2 : w.cell? ⟨a.block, a.off + (j + 1), none⟩ = some (.int .i64 xs[j + 1]) := by
    rw [← hc']; unfold Addr.add; rw [if_neg (by omega)]
  have hin : ((j : Int) + 1).toNat = j + 1 := by omega
  have hw : IntKind.i64.wrap ((j : Int) + 1) = (j : Int) + 1 := wrap_idB (by omega)
  clear h2
  generalize xs[j + 1] = x at *
  go_enter Try.func71, Try.ntmps71
  go_wp2
  go_quiet (fail)
  go_wp2
  go_ret
  exact ⟨rfl, nq, rfl⟩

set_option maxRecDepth 100000 in
/-- The least place at which the closure says yes. -/
theorem bSearch_any (w : World) (n r : Nat) (g h : Addr) (hn : n ≤ 1000000) (hr : r ≤ n)
    (hf : ∀ j q, j < n → Calls Try.prog 71 #[.int .i64 ((j : Nat) : Int), .pointer (some g), .pointer (some h)] (w.drewN q) fun e w' => e = .returned (.bool (decide (r ≤ j))) ∧ ∃ q', w.drewN q' = w') :
    Calls Try.prog 69 #[.int .i64 (n : Int), .func (.func 71) #[] #[.pointer (some g), .pointer (some h)]] w fun e w' => e = .returned (.int .i64 (r : Int)) ∧ ∃ q, w.drewN q = w' := by
  have HF := Lib.hid hf
  clear hf
  go_enter Try.func69, Try.ntmps69
  go_wp2
  go_loopw [5, 6] (fun a b wr => ∃ x y q : Nat, a = .int .i64 (x : Int) ∧ b = .int .i64 (y : Int) ∧ x ≤ r ∧ r ≤ y ∧ y ≤ n ∧ wr = w.drewN q) (fun a b _ => (intOf b - intOf a).toNat)
  case atStart => exact ⟨0, n, 0, rfl, rfl, by omega, hr, by omega, rfl⟩
  case round =>
    obtain ⟨x, y, q, rfl, rfl, hx, hy, hyn, rfl⟩ := hrel
    by_cases hxy : x < y
    · have hxi : (x : Int) < (y : Int) := by omega
      go_wp2_with fail
      have e : ((x : Int) + (y : Int)) / 2 = (((x + y) / 2 : Nat) : Int) := by omega
      have hm1 : x ≤ (x + y) / 2 := by omega
      have hm2 : (x + y) / 2 < y := by omega
      rw [e]
      generalize (x + y) / 2 = m at *
      refine (HF.out m q (by omega)).mono ?_
      rintro e w' ⟨rfl, q', rfl⟩
      by_cases hrm : r ≤ m
      · rw [decide_eq_true hrm]
        go_wp2
        go_roundw
        case rel => exact ⟨x, m, q', rfl, rfl, hx, hrm, by omega, rfl⟩
        case measure => simp [intOf]; omega
      · rw [decide_eq_false hrm]
        go_wp2
        go_roundw
        case rel => exact ⟨m + 1, y, q', by go_num, rfl, by omega, hy, hyn, rfl⟩
        case measure => simp [intOf]; omega
    · have hxi : ¬ (x : Int) < (y : Int) := by omega
      obtain rfl : x = r := by omega
      go_wp2
      go_ret
      exact ⟨rfl, q, rfl⟩

set_option maxRecDepth 100000 in
theorem bWhere_any (w : World) (p : Nat) (L : List Int) (hok : okI L) (at' : Int) (i : Nat) (hi : i < L.length) (h1 : startI L i ≤ at') (h2 : at' < startI L (i + 1)) (hb : Bnd w p (startsI L (L.length + 1))) :
    Calls Try.prog 49 #[.pointer (some ⟨p, 0, none⟩), .int .i64 at'] w fun e w' => e = .returned (.tuple #[.int .i64 (i : Int), .int .i64 (at' - startI L i), .int .i64 0]) ∧ Below w.heap.size w w' := by
  have hnn := hok.1
  have hall : startI L L.length ≤ 131072 := hok.2.2
  have h64 : L.length ≤ 64 := hok.2.1
  have hlo : (i : Int) ≤ startI L i := startI_nonneg hnn (by omega)
  have hhi := startI_le hnn (show i + 1 ≤ L.length by omega) (Nat.le_refl _)
  have hgl : (startsI L (L.length + 1)).getLast? = some (startI L L.length) := by rw [startsI_snoc]; simp
  have ha0 : ¬ at' < 0 := by omega
  have ha1 : ¬ startI L L.length ≤ at' := by omega
  have HNN := Lib.hid hnn
  have HBB : Hid (∀ w', Below w.heap.size w w' → Bnd w' p (startsI L (L.length + 1))) := fun w' h => hb.ext h (Nat.le_refl _)
  have HALL : Hid (∀ w', Below w.heap.size w w' → ∀ n, Calls Try.prog 68 #[.pointer (some ⟨p, 0, none⟩)] (w'.drewN n) fun e w'' => e = .returned (.int .i64 (startI L L.length)) ∧ ∃ m, w'' = w'.drewN m) := by
    intro w' hw' n
    refine Calls.quiet_of ((bAll_any (w'.drewN n) p _ _ hgl (HBB.out _ (hw'.trans ((drawn_below w' n).mono hw'.size)))).mono ?_)
    rintro e w'' ⟨rfl, q, rfl⟩
    exact ⟨rfl, q, rfl⟩
  clear hb hok hnn hgl
  go_enter Try.func49, Try.ntmps49
  go_wp2_with fail
  have hw2 : Below w.heap.size w ((w.alloc (.cells #[.pointer (some ⟨p, 0, none⟩)] 62)).alloc (.cells #[.int .i64 at'] 3)) := ((Below.refl _ _).alloc (Nat.le_refl _) _).alloc (by simp) _
  go_quiet ((go_at_call 68; exact HALL.out _ hw2 _))
  go_wp2_with fail
  have hw3 := hw2.trans ((drawn_below _ nq).mono hw2.size)
  have hcg : ((w.alloc (.cells #[.pointer (some ⟨p, 0, none⟩)] 62)).alloc (.cells #[.int .i64 at'] 3)).cell? ⟨w.heap.size, 0, none⟩ = some (.pointer (some ⟨p, 0, none⟩)) :=
    cell_ext (B := w.heap.size + 1) ((Below.refl _ _).alloc (by simp) _) (by simp) (by rw [cell_of_row _ _ _ _ _ _ (heap_alloc_new _ _)]; rfl)
  have hch : ((w.alloc (.cells #[.pointer (some ⟨p, 0, none⟩)] 62)).alloc (.cells #[.int .i64 at'] 3)).cell? ⟨w.heap.size + 1, 0, none⟩ = some (.int .i64 at') := by
    rw [show w.heap.size + 1 = (w.alloc (.cells #[.pointer (some ⟨p, 0, none⟩)] 62)).heap.size by simp]
    rw [cell_of_row _ _ _ _ _ _ (heap_alloc_new _ _)]; rfl
  have HCG := Lib.hid hcg
  have HCH := Lib.hid hch
  refine (bCount_any _ p _ (HBB.out _ hw3)).mono ?_
  rintro e wq ⟨rfl, rfl⟩
  have hsl : ((startsI L (L.length + 1)).length : Int) - 1 = L.length := by rw [startsI_len]; omega
  rw [hsl]
  go_wp2_with fail
  have HCL : Hid (∀ j q, j < L.length → Calls Try.prog 71 #[.int .i64 ((j : Nat) : Int), .pointer (some ⟨w.heap.size, 0, none⟩), .pointer (some ⟨w.heap.size + 1, 0, none⟩)] (((((w.alloc (.cells #[.pointer (some ⟨p, 0, none⟩)] 62)).alloc (.cells #[.int .i64 at'] 3)).drewN nq)).drewN q) fun e w' => e = .returned (.bool (decide (i ≤ j))) ∧ ∃ q', ((((w.alloc (.cells #[.pointer (some ⟨p, 0, none⟩)] 62)).alloc (.cells #[.int .i64 at'] 3)).drewN nq)).drewN q' = w') := by
    intro j q hj
    have hw4 := hw3.trans ((drawn_below _ q).mono hw3.size)
    refine (clo_any (World.drewN (World.drewN ((w.alloc (.cells #[.pointer (some ⟨p, 0, none⟩)] 62)).alloc (.cells #[.int .i64 at'] 3)) nq) q) w.heap.size (w.heap.size + 1) p at' (startsI L (L.length + 1)) j (by rw [startsI_len]; omega) hcg hch (HBB.out _ hw4)).mono ?_
    rintro e w' ⟨rfl, q', rfl⟩
    refine ⟨?_, q + q', by simp [Nat.add_assoc]⟩
    rw [startsI_at]
    congr 3
    apply propext
    constructor
    · intro hlt
      by_cases hij : i ≤ j
      · exact hij
      · have := startI_le HNN.out (show j + 1 ≤ i by omega) (by omega); omega
    · intro hij
      have := startI_le HNN.out (show i + 1 ≤ j + 1 by omega) (by omega); omega
  refine (bSearch_any _ L.length i _ _ (by omega) (by omega) HCL.out).mono ?_
  rintro e w3 ⟨rfl, q3, rfl⟩
  have HB4 := Lib.hid (HBB.out _ (hw3.trans ((drawn_below _ q3).mono hw3.size)))
  have HX4 := Lib.hid (hw3.trans ((drawn_below _ q3).mono hw3.size))
  have hcg : ((((w.alloc (.cells #[.pointer (some ⟨p, 0, none⟩)] 62)).alloc (.cells #[.int .i64 at'] 3)).drewN nq).drewN q3).cell? ⟨w.heap.size, 0, none⟩ = some (.pointer (some ⟨p, 0, none⟩)) := HCG.out
  have hch : ((((w.alloc (.cells #[.pointer (some ⟨p, 0, none⟩)] 62)).alloc (.cells #[.int .i64 at'] 3)).drewN nq).drewN q3).cell? ⟨w.heap.size + 1, 0, none⟩ = some (.int .i64 at') := HCH.out
  clear HCG HCH HCL hw3 hw2 HALL HBB
  generalize (((w.alloc _).alloc _).drewN nq).drewN q3 = w4 at *
  obtain ⟨A, c, g1, g3, g2⟩ := HB4.out
  obtain ⟨a, rfl, gc⟩ := g2.map i (by rw [startsI_len]; omega)
  rw [startsI_at] at gc
  rw [startsI_len] at g1 g3
  have hil : (i : Int) < ((L.length + 1 : Nat) : Int) := by omega
  have hsub : IntKind.i64.wrap (at' - startI L i) = at' - startI L i := wrap_idB (by omega)
  clear g2 HB4
  go_wp2_with fail
  go_quiet (fail)
  go_wp2
  go_ret3
  exact ⟨rfl, HX4.out.trans ((drawn_below _ nq).mono HX4.out.size)⟩

set_option maxRecDepth 100000 in
theorem bWhere_none (w : World) (p : Nat) (L : List Int) (hok : okI L) (at' : Int) (h1 : at' < 0 ∨ startI L L.length ≤ at') (hb : Bnd w p (startsI L (L.length + 1))) :
    Calls Try.prog 49 #[.pointer (some ⟨p, 0, none⟩), .int .i64 at'] w fun e w' => e = .returned (.tuple #[.int .i64 0, .int .i64 0, .int .i64 3]) ∧ Below w.heap.size w w' := by
  have hgl : (startsI L (L.length + 1)).getLast? = some (startI L L.length) := by rw [startsI_snoc]; simp
  have HBB : Hid (∀ w', Below w.heap.size w w' → Bnd w' p (startsI L (L.length + 1))) := fun w' h => hb.ext h (Nat.le_refl _)
  have HALL : Hid (∀ w', Below w.heap.size w w' → ∀ n, Calls Try.prog 68 #[.pointer (some ⟨p, 0, none⟩)] (w'.drewN n) fun e w'' => e = .returned (.int .i64 (startI L L.length)) ∧ ∃ m, w'' = w'.drewN m) := by
    intro w' hw' n
    refine Calls.quiet_of ((bAll_any (w'.drewN n) p _ _ hgl (HBB.out _ (hw'.trans ((drawn_below w' n).mono hw'.size)))).mono ?_)
    rintro e w'' ⟨rfl, q, rfl⟩
    exact ⟨rfl, q, rfl⟩
  clear hb hok hgl
  by_cases ha : at' < 0
  · go_enter Try.func49, Try.ntmps49
    go_wp2_with fail
    have hw2 : Below w.heap.size w ((w.alloc (.cells #[.pointer (some ⟨p, 0, none⟩)] 62)).alloc (.cells #[.int .i64 at'] 3)) := ((Below.refl _ _).alloc (Nat.le_refl _) _).alloc (by simp) _
    go_quiet ((go_at_call 68; exact HALL.out _ hw2 _))
    go_wp2
    all_goals
      go_ret3
      exact ⟨rfl, hw2.trans ((drawn_below _ nq).mono hw2.size)⟩
  · have ha2 : startI L L.length ≤ at' := by omega
    go_enter Try.func49, Try.ntmps49
    go_wp2_with fail
    have hw2 : Below w.heap.size w ((w.alloc (.cells #[.pointer (some ⟨p, 0, none⟩)] 62)).alloc (.cells #[.int .i64 at'] 3)) := ((Below.refl _ _).alloc (Nat.le_refl _) _).alloc (by simp) _
    go_quiet ((go_at_call 68; exact HALL.out _ hw2 _))
    go_wp2
    all_goals
      first
        | (go_ret3; exact ⟨rfl, hw2.trans ((drawn_below _ nq).mono hw2.size)⟩)
        | (exfalso; omega)
end Go.Proofs.Ytjpcfpffbicpnaa
