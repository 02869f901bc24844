/- The walks of the document's own bounds: Lens, Start, Where. -/
import Derived.Test.YthibhndeejichaaBnd
set_option linter.unusedVariables false
set_option linter.unusedSimpArgs false
namespace Go.Proofs.Ythibhndeejichaa
open Go.RowKit Lec

theorem refStart_any (w : World) (A : Option Addr) (n c : Nat) (L : List Int) (hn : L.length = n) (hok : okI L) (i : Nat) (hi : i ≤ n) (hr : Rds w A (intsI L)) :
    Calls Try.prog 32 #[.slice A n c, .int .i64 (i : Int)] w fun e w' => e = .returned (.int .i64 (startI L i)) ∧ w = w' := by
  have HR := Lib.hid hr
  have HN := Lib.hid hn
  have HOK := Lib.hid hok
  have h64 : n ≤ 64 := by rw [← hn]; exact hok.2.1
  clear hr hn hok
  go_enter Try.func32, Try.ntmps32
  go_wp2
  go_loop [5, 6] (fun a j => ∃ k : Nat, j = .int .i64 (k : Int) ∧ a = .int .i64 (startI L k) ∧ k ≤ i) (fun _ j => i - (intOf j).toNat)
  case atStart => exact ⟨0, rfl, by rw [startI_zero], by omega⟩
  case round =>
    obtain ⟨k, rfl, rfl, hk⟩ := hrel
    by_cases h1 : k < i
    · have h1i : (k : Int) < (i : Int) := by omega
      have hk' : k < L.length := by rw [HN.out]; omega
      obtain ⟨a, rfl, hb⟩ := HR.out.map k hk'
      have hx0 := nonneg_at HOK.out.1 hk'
      have hst := startI_step hk'
      have hle := startI_le HOK.out.1 (show k + 1 ≤ L.length by omega) (Nat.le_refl _)
      have hal := HOK.out.2.2
      have hs0 := startI_nonneg HOK.out.1 (show k ≤ L.length by omega)
      have hli : (k : Int) < (n : Int) := by omega
      generalize L[k] = x at *
      have HST := Lib.hid hst
      have hb1 : startI L k + (x + 1) ≤ 131072 := by omega
      clear hst hle hal
      generalize hs : startI L k = s at *
      go_wp2
      go_round
      case rel => exact ⟨k + 1, by go_num, by rw [HST.out]; go_num, by omega⟩
      case measure => simp [intOf]; omega
    · obtain rfl : k = i := by omega
      have h1i : ¬ (k : Int) < (k : Int) := by omega
      go_wp2
      go_ret
      exact ⟨rfl, rfl⟩

theorem refWhere_any (w : World) (A : Option Addr) (n c : Nat) (L : List Int) (hn : L.length = n) (hok : okI L) (at' : Int) (i : Nat) (hi : i < n) (h1 : startI L i ≤ at') (h2 : at' < startI L (i + 1)) (hr : Rds w A (intsI L)) :
    Calls Try.prog 35 #[.slice A n c, .int .i64 at'] w fun e w' => e = .returned (.tuple #[.int .i64 (i : Int), .int .i64 (at' - startI L i)]) ∧ w = w' := by
  have HR := Lib.hid hr
  have HN := Lib.hid hn
  have HOK := Lib.hid hok
  have h64 : n ≤ 64 := by rw [← hn]; exact hok.2.1
  have hhi := startI_le hok.1 (show i + 1 ≤ L.length by omega) (Nat.le_refl _)
  have hal := hok.2.2
  have hlo := startI_nonneg hok.1 (show i ≤ L.length by omega)
  have H2 := Lib.hid h2
  have H1 := Lib.hid h1
  have hat : 0 ≤ at' ∧ at' ≤ 131072 := by omega
  clear hr hn hok hhi hal hlo h1 h2
  go_enter Try.func35, Try.ntmps35
  go_wp2
  go_loop [1, 6] (fun a j => ∃ k : Nat, j = .int .i64 (k : Int) ∧ a = .int .i64 (at' - startI L k) ∧ k ≤ i) (fun _ j => i - (intOf j).toNat)
  case atStart => exact ⟨0, rfl, by rw [startI_zero, Int.sub_zero], by omega⟩
  case round =>
    obtain ⟨k, rfl, rfl, hk⟩ := hrel
    have hk' : k < L.length := by rw [HN.out]; omega
    obtain ⟨a, rfl, hb⟩ := HR.out.map k hk'
    have hx0 := nonneg_at HOK.out.1 hk'
    have HST := Lib.hid (startI_step hk')
    have hs0 := startI_nonneg HOK.out.1 (show k ≤ L.length by omega)
    have hki : (k : Int) < (n : Int) := by omega
    by_cases h1 : k < i
    · have hle := startI_le HOK.out.1 (show k + 1 ≤ i by omega) (by rw [HN.out]; omega)
      have hge : L[k] < at' - startI L k := by have := H1.out; have := HST.out; omega
      generalize L[k] = x at *
      clear hle
      generalize hs : startI L k = s at *
      go_wp2
      go_round
      case rel => exact ⟨k + 1, by go_num, by rw [HST.out]; go_num, by omega⟩
      case measure => simp [intOf]; omega
    · obtain rfl : k = i := by omega
      have hge : ¬ L[k] < at' - startI L k := by have := H2.out; have := HST.out; omega
      generalize L[k] = x at *
      go_wp2
      go_ret2
      exact ⟨rfl, rfl⟩

set_option maxRecDepth 100000 in
theorem refLens_any (w : World) (A : Option Addr) (n c : Nat) (L : List Int) (hn : L.length = n) (hm : n ≤ 9223372036854775807) (hw : ∀ x ∈ L, -9223372036854775808 ≤ x ∧ x ≤ 9223372036854775807) (hr : Rds w A (intsI L)) :
    Calls Try.prog 52 #[.slice A n c] w fun e w' => e = .returned (.int .i64 (lensI L)) ∧ w = w' := by
  have HR := Lib.hid hr
  have HN := Lib.hid hn
  have HW := Lib.hid hw
  clear hr hn hw
  go_enter Try.func52, Try.ntmps52
  go_wp2
  go_loop [3] (fun j => ∃ k : Nat, j = .int .i64 (k : Int) ∧ k ≤ n ∧ Hid (nonneg (L.take k))) (fun j => n - (intOf j).toNat)
  case atStart => exact ⟨0, rfl, by omega, by show nonneg _; intro x hx; simp at hx⟩
  case round =>
    obtain ⟨k, rfl, hk, HNN⟩ := hrel
    by_cases h1 : k < n
    · have h1i : (k : Int) < (n : Int) := by omega
      have hk' : k < L.length := by rw [HN.out]; exact h1
      obtain ⟨a, rfl, hb⟩ := HR.out.map k hk'
      have HNS : Hid (0 ≤ L[k] → nonneg (L.take (k + 1))) := fun h => nonneg_take_snoc hk' HNN.out h
      have HNG : Hid (L[k] < 0 → ¬ nonneg L) := fun h hh => by have := nonneg_at hh hk'; omega
      generalize L[k] = x at *
      by_cases hx : x < 0
      · have HE := Lib.hid (HNG.out hx)
        go_wp2
        go_ret
        exact ⟨by rw [lensI_neg HE.out]; rfl, rfl⟩
      · have HNN2 : Hid (nonneg (L.take (k + 1))) := HNS.out (by omega)
        go_wp2
        go_round
        case rel => exact ⟨k + 1, by go_num, by omega, HNN2⟩
        case measure => simp [intOf]; omega
    · obtain rfl : k = n := by omega
      have h1i : ¬ (k : Int) < (k : Int) := by omega
      have HNL : Hid (nonneg L) := by have := HNN.out; rwa [List.take_of_length_le (by rw [HN.out]; exact Nat.le_refl _)] at this
      clear HNN
      by_cases hbig : 64 < k
      · have hbi : (64 : Int) < (k : Int) := by omega
        have HE := Lib.hid (lensI_much HNL.out (.inl (by rw [HN.out]; exact hbig)))
        go_wp2
        go_ret
        exact ⟨by rw [HE.out]; rfl, rfl⟩
      · have hbi : ¬ (64 : Int) < (k : Int) := by omega
        go_wp2
        go_loop [4, 5] (fun l j => ∃ q : Nat, j = .int .i64 (q : Int) ∧ l = .int .i64 (131072 - startI L q) ∧ q ≤ k ∧ startI L q ≤ 131072) (fun _ j => k - (intOf j).toNat)
        case atStart => exact ⟨0, rfl, by rw [startI_zero, Int.sub_zero], by omega, by rw [startI_zero]; omega⟩
        case round =>
          obtain ⟨q, rfl, rfl, hq, hsq⟩ := hrel
          by_cases h2 : q < k
          · have h2i : (q : Int) < (k : Int) := by omega
            have hq' : q < L.length := by rw [HN.out]; exact h2
            obtain ⟨a, rfl, hb⟩ := HR.out.map q hq'
            have hx0 := nonneg_at HNL.out hq'
            have HST := Lib.hid (startI_step hq')
            have hs0 := startI_nonneg HNL.out (show q ≤ L.length by omega)
            have HLE := Lib.hid (startI_le HNL.out (show q + 1 ≤ L.length by omega) (Nat.le_refl _))
            generalize L[q] = x at *
            by_cases hxl : 131072 - startI L q ≤ x
            · have HE := Lib.hid (lensI_much HNL.out (.inr (by have := HST.out; have := HLE.out; omega)))
              go_wp2
              go_ret
              exact ⟨by rw [HE.out]; rfl, rfl⟩
            · have hnx : startI L (q + 1) ≤ 131072 := by have := HST.out; omega
              go_wp2
              go_round
              case rel => exact ⟨q + 1, by go_num, by rw [HST.out]; go_num, by omega, hnx⟩
              case measure => simp [intOf]; omega
          · obtain rfl : q = k := by omega
            have h2i : ¬ (q : Int) < (q : Int) := by omega
            have HE : Hid (lensI L = 0) := lensI_ok ⟨HNL.out, by rw [HN.out]; omega, by rw [HN.out]; exact hsq⟩
            go_wp2
            go_ret
            exact ⟨by rw [HE.out]; rfl, rfl⟩
end Go.Proofs.Ythibhndeejichaa
