/- The walk of Follow from an index that none can follow, and of any index from 0 on. -/
import Derived.Test.YtdbpgcaoakoojaaEntW
set_option linter.unusedVariables false
set_option linter.unusedSimpArgs false
namespace Go.Proofs.Ytdbpgcaoakoojaa
open Go.RowKit Lec
theorem Follow_big (w : World) (A : Option Addr) (n c : Nat) (i t : Int) (es : List Ent) (hn : es.length = n) (hm : n ≤ 4000000000) (hib : 4398046511104 < i ∧ i < 9223372036854775808) (hr : Rds w A (entsC es)) (u : Bool) (hu : decide (runsE i t es) = u) :
    Calls Try.prog 40 #[.int .i64 i, .int .i64 t, .slice A n c] w fun r w' => r = .returned (.bool u) ∧ Below w.heap.size w w' := by
  have HR := Lib.hid hr
  have HN := Lib.hid hn
  have HU := Lib.hid hu
  clear hr hn hu
  go_enter Try.func40, Try.ntmps40
  go_wp2
  go_loopw [0, 1, 11] (fun x y z wr => z = .int .i64 0 ∧ x = .int .i64 i ∧ y = .int .i64 t ∧ wr = w) (fun _ _ z _ => n - (intOf z).toNat)
  case atStart => exact ⟨rfl, rfl, rfl, rfl⟩
  case round =>
    obtain ⟨rfl, rfl, rfl, rfl⟩ := hrel
    obtain ⟨w, rfl⟩ : ∃ z, z = wr := ⟨_, rfl⟩
    by_cases h1 : 0 < n
    · have h1i : (0 : Int) < (n : Int) := by omega
      have hk' : 0 < es.length := by rw [HN.out]; exact h1
      obtain ⟨a, rfl, g0, g1, g2⟩ := ents_cells HR.out 0 hk'
      have e0 := g0
      have e1 := g1
      have e2 := g2
      rw [Nat.zero_mul, show a.add 0 = a by unfold Addr.add; simp] at e0 e1 e2
      clear g0 g1 g2
      have HE : Hid (u = false) := by
        show _ = _
        rw [← HU.out]
        refine decide_eq_false (fun h => ?_)
        cases es with
        | nil => simp at hk'
        | cons e es =>
          have h2 := h.1.2.1
          have h3 := h.2.1
          omega
      have HGX : Hid (goodE es[0] → es[0].1 ≤ 1099511627776) := Lib.hid (fun h => h.2.1)
      generalize es[0] = x at *
      obtain ⟨xi, xt, xd⟩ := x
      go_wp2_with fail
      have hg0 : (w.alloc (.cells #[.int .i64 xi, .int .i64 xt, .string xd] 41)).cell? ⟨w.heap.size, 0, none⟩ = some (.int .i64 xi) := by rw [cell_of_row _ _ _ _ _ _ (heap_alloc_new _ _)]; rfl
      have hg1 : (w.alloc (.cells #[.int .i64 xi, .int .i64 xt, .string xd] 41)).cell? ⟨w.heap.size, 1, none⟩ = some (.int .i64 xt) := by rw [cell_of_row _ _ _ _ _ _ (heap_alloc_new _ _)]; rfl
      have hal : Below w.heap.size w (w.alloc (.cells #[.int .i64 xi, .int .i64 xt, .string xd] 41)) := (Below.refl _ _).alloc (Nat.le_refl _) _
      by_cases hgood : goodE (xi, xt, xd)
      · refine (Good_any _ (xi, xt, xd) true (decide_eq_true hgood)).mono ?_
        rintro e w4 ⟨rfl, hb4⟩
        have f0 := cell_ext hb4 (Nat.le_refl _) hg0
        have HX4 : Hid (Below w.heap.size w w4) := hal.trans (hb4.mono (by simp))
        have hxi := hgood.1
        have hxi2 := hgood.2.1
        clear hb4 hg0 hg1 hal hgood HGX
        dsimp only at hxi hxi2
        by_cases hx1 : i = 9223372036854775807
        · subst hx1
          have hx1i : (xi != wrap64 9223372036854775808) = true := by rw [bne_iff_ne, show wrap64 9223372036854775808 = -9223372036854775808 by decide +kernel]; omega
          go_wp2
          go_ret
          exact ⟨by rw [HE.out]; rfl, HX4.out⟩
        · have hx1i : (xi != i + 1) = true := by rw [bne_iff_ne]; omega
          go_wp2
          go_ret
          exact ⟨by rw [HE.out]; rfl, HX4.out⟩
      · refine (Good_any _ (xi, xt, xd) false (decide_eq_false hgood)).mono ?_
        rintro e w4 ⟨rfl, hb4⟩
        have HX4 : Hid (Below w.heap.size w w4) := hal.trans (hb4.mono (by simp))
        clear hb4 hg0 hg1 hal
        go_wp2
        go_ret
        exact ⟨by rw [HE.out]; rfl, HX4.out⟩
    · obtain rfl : n = 0 := by omega
      have HE : Hid (u = true) := by
        show _ = _
        rw [← HU.out]
        cases es with
        | nil => exact decide_eq_true trivial
        | cons e es => have := HN.out; simp at this
      go_wp2
      go_ret
      exact ⟨by rw [HE.out]; rfl, Below.refl _ _⟩
theorem Follow_all (w : World) (A : Option Addr) (n c : Nat) (i t : Int) (es : List Ent) (hn : es.length = n) (hm : n ≤ 4000000000) (hib : 0 ≤ i ∧ i < 9223372036854775808) (hr : Rds w A (entsC es)) :
    Calls Try.prog 40 #[.int .i64 i, .int .i64 t, .slice A n c] w fun r w' => r = .returned (.bool (decide (runsE i t es))) ∧ Below w.heap.size w w' := by
  by_cases h : i ≤ 4398046511104
  · exact Follow_any w A n c i t es hn (by omega) ⟨hib.1, h⟩ hr _ rfl
  · exact Follow_big w A n c i t es hn hm ⟨by omega, hib.2⟩ hr _ rfl
end Go.Proofs.Ytdbpgcaoakoojaa
