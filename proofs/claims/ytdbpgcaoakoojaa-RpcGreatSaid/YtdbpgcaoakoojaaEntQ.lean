/- The walks of EqEntries, EqLog. -/
import Derived.Test.YtdbpgcaoakoojaaEntA
set_option linter.unusedVariables false
set_option linter.unusedSimpArgs false
namespace Go.Proofs.Ytdbpgcaoakoojaa
open Go.RowKit Lec

set_option maxRecDepth 100000 in
theorem EqEntries_any (w : World) (A : Option Addr) (n c : Nat) (xs : List Ent) (hn : xs.length = n) (hr : Rds w A (entsC xs)) (B : Option Addr) (m d : Nat) (ys : List Ent) (hm : ys.length = m) (hs : Rds w B (entsC ys)) (hlim : n ≤ 9223372036854775807) :
    Calls Try.prog 20 #[.slice A n c, .slice B m d] w fun e w' => e = .returned (.bool (decide (xs = ys))) ∧ ∃ q, w.drewN q = w' := by
  by_cases hnm : n = m
  · have hnm1 : ((n : Int) != (m : Int)) = false := by rw [hnm]; simp
    have HR := Lib.hid hr
    have HS := Lib.hid hs
    have HN := Lib.hid hn
    have HM := Lib.hid hm
    have HE := Lib.hid hnm
    clear hr hs hn hm hnm
    go_enter Try.func20, Try.ntmps20
    go_wp2
    go_loopw [5] (fun i wr => ∃ k : Nat, k ≤ n ∧ i = .int .i64 k ∧ Hid (xs.take k = ys.take k) ∧ ∃ q, w.drewN q = wr) (fun i _ => n - (intOf i).toNat)
    case atStart => exact ⟨0, by omega, rfl, by show _ = _; simp, 0, rfl⟩
    case round =>
      obtain ⟨k, hk, rfl, HT, q, rfl⟩ := hrel
      by_cases h8 : k < n
      · have hk' : k < xs.length := by rw [HN.out]; exact h8
        have hk2 : k < ys.length := by rw [HM.out, ← HE.out]; exact h8
        obtain ⟨a, rfl, g0, g1, g2⟩ := ents_cells HR.out k hk'
        obtain ⟨b, rfl, f0, f1, f2⟩ := ents_cells HS.out k hk2
        have hi1 : (k : Int) < m := by have := HE.out; omega
        have HTX := Lib.hid (List.take_succ_eq_append_getElem hk')
        have HTY := Lib.hid (List.take_succ_eq_append_getElem hk2)
        have HNX : Hid (xs = ys → xs[k] = ys[k]) := fun h => by subst h; rfl
        generalize xs[k] = x at *
        generalize ys[k] = y at *
        obtain ⟨xi, xt, xd⟩ := x
        obtain ⟨yi, yt, yd⟩ := y
        by_cases h1 : xi = yi
        · subst h1
          by_cases h2 : xt = yt
          · subst h2
            by_cases h3 : xd = yd
            · subst h3
              go_wp2
              go_quiet (fail)
              go_wp2
              go_roundw
              case rel => exact ⟨k + 1, by omega, by go_num, by show _ = _; rw [HTX.out, HTY.out, HT.out], by first | exact drawn2 _ _ _ | exact drawn1 _ _⟩
              case measure => simp [intOf]; omega
            · have h3' : ¬ xd.toList = yd.toList := fun h => h3 (str_inj h)
              have hne : Hid (xs ≠ ys) := fun h => by have := HNX.out h; simp at this; exact h3 this
              clear h3
              go_wp2
              go_quiet (fail)
              go_wp2
              go_ret
              exact ⟨by rw [decide_eq_false hne.out]; rfl, by first | exact drawn2 _ _ _ | exact drawn1 _ _⟩
          · have hne : Hid (xs ≠ ys) := fun h => by have := HNX.out h; simp at this; exact h2 this.1
            go_wp2
            go_quiet (fail)
            go_wp2
            go_ret
            exact ⟨by rw [decide_eq_false hne.out]; rfl, by first | exact drawn2 _ _ _ | exact drawn1 _ _⟩
        · have hne : Hid (xs ≠ ys) := fun h => by have := HNX.out h; simp at this; exact h1 this.1
          go_wp2
          go_quiet (fail)
          go_wp2
          go_ret
          exact ⟨by rw [decide_eq_false hne.out]; rfl, by first | exact drawn2 _ _ _ | exact drawn1 _ _⟩
      · obtain rfl : k = n := by omega
        have hfin : Hid (xs = ys) := by
          have h1 := HT.out
          rwa [List.take_of_length_le (by rw [HN.out]; exact Nat.le_refl _), List.take_of_length_le (by rw [HM.out, ← HE.out]; exact Nat.le_refl _)] at h1
        go_wp2
        go_ret
        exact ⟨by rw [decide_eq_true hfin.out]; rfl, drawn1 _ _⟩
  · have hnm1 : ((n : Int) != (m : Int)) = true := by rw [bne_iff_ne]; omega
    have hne : Hid (xs ≠ ys) := fun h => hnm (by rw [← hn, ← hm, h])
    clear hn hm hnm
    go_enter Try.func20, Try.ntmps20
    go_wp2
    go_ret
    exact ⟨by rw [decide_eq_false hne.out]; rfl, 0, rfl⟩
end Go.Proofs.Ytdbpgcaoakoojaa
