/- The walks of entries: what a single entry is, what follows, what a log is. -/
import Derived.Test.YtdbpgcaoakoojaaProg
import Derived.Test.YtdbpgcaoakoojaaEntL
import Derived.Test.YtdbpgcaoakoojaaQuiet
set_option linter.unusedVariables false
set_option linter.unusedSimpArgs false
namespace Go.Proofs.Ytdbpgcaoakoojaa
open Go.RowKit Lec

theorem term_any (w : World) (n : Int) (t : Bool) (ht : decide (0 ≤ n ∧ n ≤ 1099511627775) = t) : Calls Try.prog 47 #[.int .i64 n] w fun e w' => e = .returned (.bool t) ∧ w = w' := by
  have HT := Lib.hid ht
  clear ht
  go_enter Try.func47, Try.ntmps47
  by_cases h1 : 0 ≤ n
  · by_cases h2 : n ≤ 1099511627775
    · have HE : Hid (t = true) := by show _ = _; rw [← HT.out]; exact decide_eq_true ⟨h1, h2⟩
      clear HT
      go_wp2
      go_ret
      exact ⟨by rw [HE.out]; rfl, rfl⟩
    · have HE : Hid (t = false) := by show _ = _; rw [← HT.out]; exact decide_eq_false (fun h => h2 h.2)
      clear HT
      go_wp2
      go_ret
      exact ⟨by rw [HE.out]; rfl, rfl⟩
  · have HE : Hid (t = false) := by show _ = _; rw [← HT.out]; exact decide_eq_false (fun h => h1 h.1)
    clear HT
    go_wp2
    go_ret
    exact ⟨by rw [HE.out]; rfl, rfl⟩

theorem Good_any (w : World) (e : Ent) (t : Bool) (ht : decide (goodE e) = t) : Calls Try.prog 44 #[entV e] w fun r w' => r = .returned (.bool t) ∧ Below w.heap.size w w' := by
  have HT := Lib.hid ht
  clear ht
  obtain ⟨i, tm, d⟩ := e
  unfold entV
  have hb0 : Below w.heap.size w (w.alloc (.cells #[.int .i64 i, .int .i64 tm, .string d] 41)) := (Below.refl _ _).alloc (Nat.le_refl _) _
  go_enter Try.func44, Try.ntmps44
  by_cases h1 : 1 ≤ i
  · by_cases h2 : i ≤ 1099511627776
    · by_cases h3 : 0 ≤ tm ∧ tm ≤ 1099511627775
      · by_cases h4 : d.size ≤ 4096
        · have h4i : (d.size : Int) ≤ 4096 := by omega
          have HE : Hid (t = true) := by show _ = _; rw [← HT.out]; exact decide_eq_true ⟨h1, h2, h3.1, h3.2, h4⟩
          clear HT
          go_wp2_with (go_at_call 47; refine (term_any _ tm true (decide_eq_true h3)).mono ?_; rintro r wq ⟨rfl, rfl⟩)
          go_ret
          exact ⟨by rw [HE.out]; rfl, hb0⟩
        · have h4i : ¬ (d.size : Int) ≤ 4096 := by omega
          have HE : Hid (t = false) := by show _ = _; rw [← HT.out]; exact decide_eq_false (fun h => h4 h.2.2.2.2)
          clear HT
          go_wp2_with (go_at_call 47; refine (term_any _ tm true (decide_eq_true h3)).mono ?_; rintro r wq ⟨rfl, rfl⟩)
          go_ret
          exact ⟨by rw [HE.out]; first | rfl | (show Ending.returned (.bool (decide _)) = _; rw [decide_eq_false (by omega)]), hb0⟩
      · have HE : Hid (t = false) := by show _ = _; rw [← HT.out]; exact decide_eq_false (fun h => h3 ⟨h.2.2.1, h.2.2.2.1⟩)
        clear HT
        have HT3 := Lib.hid (decide_eq_false h3)
        clear h3
        go_wp2_with (go_at_call 47; refine (term_any _ tm false HT3.out).mono ?_; rintro r wq ⟨rfl, rfl⟩)
        go_ret
        exact ⟨by rw [HE.out]; rfl, hb0⟩
    · have HE : Hid (t = false) := by show _ = _; rw [← HT.out]; exact decide_eq_false (fun h => h2 h.2.1)
      clear HT
      go_wp2
      go_ret
      exact ⟨by rw [HE.out]; rfl, hb0⟩
  · have HE : Hid (t = false) := by show _ = _; rw [← HT.out]; exact decide_eq_false (fun h => h1 h.1)
    clear HT
    go_wp2
    go_ret
    exact ⟨by rw [HE.out]; rfl, hb0⟩

theorem Follow_any (w : World) (A : Option Addr) (n c : Nat) (i t : Int) (es : List Ent) (hn : es.length = n) (hm : n ≤ 9223372036854775807) (hib : 0 ≤ i ∧ i ≤ 4398046511104) (hr : Rds w A (entsC es)) (u : Bool) (hu : decide (runsE i t es) = u) :
    Calls Try.prog 40 #[.int .i64 i, .int .i64 t, .slice A n c] w fun r w' => r = .returned (.bool u) ∧ Below w.heap.size w w' := by
  have HR := Lib.hid hr
  have HN := Lib.hid hn
  have HU := Lib.hid hu
  clear hr hn hu
  go_enter Try.func40, Try.ntmps40
  go_wp2
  go_loopw [0, 1, 11] (fun x y z wr => ∃ k : Nat, z = .int .i64 (k : Int) ∧ x = .int .i64 (endE i t (es.take k)).1 ∧ y = .int .i64 (endE i t (es.take k)).2 ∧ k ≤ n ∧ Hid (runsE i t (es.take k)) ∧ Hid (Below w.heap.size w wr)) (fun _ _ z _ => n - (intOf z).toNat)
  case atStart => exact ⟨0, rfl, rfl, rfl, by omega, by show runsE _ _ _; simp [runsE], Below.refl _ _⟩
  case round =>
    obtain ⟨k, rfl, rfl, rfl, hk, HK, HX⟩ := hrel
    by_cases h1 : k < n
    · have h1i : (k : Int) < (n : Int) := by omega
      have hk' : k < es.length := by rw [HN.out]; exact h1
      obtain ⟨a, rfl, g0, g1, g2⟩ := ents_cells HR.out k hk'
      have e0 := cell_ext HX.out (Nat.le_refl _) g0
      have e1 := cell_ext HX.out (Nat.le_refl _) g1
      have e2 := cell_ext HX.out (Nat.le_refl _) g2
      clear g0 g1 g2
      have HSN : Hid (runsE i t (es.take (k + 1)) ↔ runsE i t (es.take k) ∧ goodE es[k] ∧ es[k].1 = (endE i t (es.take k)).1 + 1 ∧ (endE i t (es.take k)).2 ≤ es[k].2.1) := by
        show _ ↔ _; rw [List.take_succ_eq_append_getElem hk']; exact runsE_snoc _ _ _ _
      have HEN : Hid (endE i t (es.take (k + 1)) = (es[k].1, es[k].2.1)) := by
        show _ = _; rw [List.take_succ_eq_append_getElem hk']; exact endE_snoc _ _ _ _
      have HTK : Hid (runsE i t es → runsE i t (es.take (k + 1))) := fun h => by
        have := (runsE_app i t (es.take (k + 1)) (es.drop (k + 1))).1 (by rw [List.take_append_drop]; exact h)
        exact this.1
      generalize es[k] = x at *
      obtain ⟨xi, xt, xd⟩ := x
      have hidx : (endE i t (es.take k)).1 = i + k := by rw [runsE_end _ _ _ HK.out, List.length_take, Nat.min_eq_left (by omega)]
      have hib2 : k ≤ 1099511627776 := by
        rcases Nat.eq_zero_or_pos k with h | h
        · omega
        · have := (runsE_at i t _ HK.out (k - 1) (by rw [List.length_take]; omega))
          have h2 := this.2.2.1
          rw [this.1] at h2; omega
      rw [hidx] at HSN
      generalize hend : endE i t (es.take k) = en at *
      obtain ⟨ei, et⟩ := en
      obtain rfl : ei = i + k := hidx
      go_wp2_with fail
      have hg0 : (wr.alloc (.cells #[.int .i64 xi, .int .i64 xt, .string xd] 41)).cell? ⟨wr.heap.size, 0, none⟩ = some (.int .i64 xi) := by rw [cell_of_row _ _ _ _ _ _ (heap_alloc_new _ _)]; rfl
      have hg1 : (wr.alloc (.cells #[.int .i64 xi, .int .i64 xt, .string xd] 41)).cell? ⟨wr.heap.size, 1, none⟩ = some (.int .i64 xt) := by rw [cell_of_row _ _ _ _ _ _ (heap_alloc_new _ _)]; rfl
      have hal : Below wr.heap.size wr (wr.alloc (.cells #[.int .i64 xi, .int .i64 xt, .string xd] 41)) := (Below.refl _ _).alloc (Nat.le_refl _) _
      by_cases hgood : goodE (xi, xt, xd)
      · refine (Good_any _ (xi, xt, xd) true (decide_eq_true hgood)).mono ?_
        rintro e w4 ⟨rfl, hb4⟩
        have f0 := cell_ext hb4 (Nat.le_refl _) hg0
        have f1 := cell_ext hb4 (Nat.le_refl _) hg1
        have HX4 : Hid (Below w.heap.size w w4) := HX.out.trans ((hal.trans (hb4.mono (by simp))).mono HX.out.size)
        clear hb4 hg0 hg1 hal
        have hxi := hgood.1
        have hxi2 := hgood.2.1
        by_cases hx1 : xi = i + k + 1
        · have hx1i : (xi != i + k + 1) = false := by rw [bne_eq_false_iff_eq]; exact hx1
          by_cases hx2 : et ≤ xt
          · have hx2i : ¬ xt < et := by omega
            have HK2 : Hid (runsE i t (es.take (k + 1))) := HSN.out.2 ⟨HK.out, hgood, hx1, hx2⟩
            go_wp2
            go_quiet (fail)
            go_wp2
            have HX5 : Hid (Below w.heap.size w (w4.drewN nq)) := HX4.out.trans ((drawn_below w4 nq).mono HX4.out.size)
            have he2 := HEN.out
            go_roundw
            case rel => exact ⟨k + 1, by go_num, by rw [he2]; show Value.int .i64 (i + k + 1) = Value.int .i64 xi; rw [hx1], by rw [he2], by omega, HK2, HX5⟩
            case measure => simp [intOf]; omega
          · have hx2i : xt < et := by omega
            have HE : Hid (u = false) := by show _ = _; rw [← HU.out]; exact decide_eq_false (fun h => hx2 (HSN.out.1 (HTK.out h)).2.2.2)
            go_wp2
            go_ret
            exact ⟨by rw [HE.out]; rfl, HX4.out⟩
        · have hx1i : (xi != i + k + 1) = true := by rw [bne_iff_ne]; exact hx1
          have HE : Hid (u = false) := by show _ = _; rw [← HU.out]; exact decide_eq_false (fun h => hx1 (HSN.out.1 (HTK.out h)).2.2.1)
          go_wp2
          go_ret
          exact ⟨by rw [HE.out]; rfl, HX4.out⟩
      · refine (Good_any _ (xi, xt, xd) false (decide_eq_false hgood)).mono ?_
        rintro e w4 ⟨rfl, hb4⟩
        have HX4 : Hid (Below w.heap.size w w4) := HX.out.trans ((hal.trans (hb4.mono (by simp))).mono HX.out.size)
        have HE : Hid (u = false) := by show _ = _; rw [← HU.out]; exact decide_eq_false (fun h => hgood (HSN.out.1 (HTK.out h)).2.1)
        clear hb4 hg0 hg1 hal
        go_wp2
        go_ret
        exact ⟨by rw [HE.out]; rfl, HX4.out⟩
    · obtain rfl : k = n := by omega
      have h1i : ¬ (k : Int) < (k : Int) := by omega
      have HE : Hid (u = true) := by
        show _ = _
        rw [← HU.out]
        have := HK.out
        rw [List.take_of_length_le (by rw [HN.out]; exact Nat.le_refl _)] at this
        exact decide_eq_true this
      go_wp2
      go_ret
      exact ⟨by rw [HE.out]; rfl, HX.out⟩

end Go.Proofs.Ytdbpgcaoakoojaa
