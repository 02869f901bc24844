/- The walks of rpc's node, bit, numbers. -/
import Derived.Test.YtdbpgcaoakoojaaRpcM
set_option linter.unusedVariables false
set_option linter.unusedSimpArgs false
namespace Lec
open Go Go.RowKit
def nodeN (n : Int) : Bool := decide (1 ≤ n ∧ n ≤ 7)
def numsN (xs : List Int) : Bool := decide (∀ x ∈ xs, 0 ≤ x ∧ x < 1099511627776)
end Lec
namespace Go.Proofs.Ytdbpgcaoakoojaa
open Go.RowKit Lec
theorem rpcNode_any (w : World) (n : Int) : Calls Try.prog 30 #[.int .i64 n] w fun e w' => e = .returned (.bool (nodeN n)) ∧ w = w' := by
  obtain ⟨u, hu⟩ : ∃ u, u = nodeN n := ⟨_, rfl⟩
  rw [← hu]
  have HU := Lib.hid hu
  clear hu
  go_enter Try.func30, Try.ntmps30
  by_cases h1 : 1 ≤ n
  · by_cases h2 : n ≤ 7
    · have HE : Hid (u = true) := by show _ = _; rw [HU.out]; exact decide_eq_true ⟨h1, h2⟩
      clear HU
      go_wp2
      go_ret
      exact ⟨by rw [HE.out]; rfl, rfl⟩
    · have HE : Hid (u = false) := by show _ = _; rw [HU.out]; exact decide_eq_false (fun h => h2 h.2)
      clear HU
      go_wp2
      go_ret
      exact ⟨by rw [HE.out]; first | rfl | simp; omega, rfl⟩
  · have HE : Hid (u = false) := by show _ = _; rw [HU.out]; exact decide_eq_false (fun h => h1 h.1)
    clear HU
    go_wp2
    go_ret
    exact ⟨by rw [HE.out]; first | rfl | simp; omega, rfl⟩
theorem rpcBit_any (w : World) (b : Bool) : Calls Try.prog 33 #[.bool b] w fun e w' => e = .returned (.int .i64 (bitI b)) ∧ w = w' := by
  go_enter Try.func33, Try.ntmps33
  cases b with
  | true =>
    go_wp2
    go_ret
    exact ⟨rfl, rfl⟩
  | false =>
    go_wp2
    go_ret
    exact ⟨rfl, rfl⟩
theorem rpcNumbers_any (w : World) (A : Option Addr) (n c : Nat) (xs : List Int) (hn : xs.length = n) (hm : n ≤ 1000) (hr : Rds w A (xs.map (Value.int .i64))) :
    Calls Try.prog 31 #[.slice A n c] w fun e w' => e = .returned (.bool (numsN xs)) ∧ Below w.heap.size w w' := by
  have HR := Lib.hid hr
  have HN := Lib.hid hn
  clear hr hn
  obtain ⟨u, hu⟩ : ∃ u, u = numsN xs := ⟨_, rfl⟩
  rw [← hu]
  have HU := Lib.hid hu
  clear hu
  go_enter Try.func31, Try.ntmps31
  go_wp2
  go_loopw [7] (fun i wr => ∃ k : Nat, k ≤ n ∧ i = .int .i64 (k : Int) ∧ Hid (∀ j (h : j < xs.length), j < k → 0 ≤ xs[j] ∧ xs[j] < 1099511627776) ∧ Hid (Below w.heap.size w wr)) (fun i _ => n - (intOf i).toNat)
  case atStart => exact ⟨0, by omega, rfl, Lib.hid (fun j _ h => absurd h (by omega)), Lib.hid (Below.refl _ _)⟩
  case round =>
    obtain ⟨k, hk, rfl, HK, HX⟩ := hrel
    by_cases h8 : k < n
    · have h8i : (k : Int) < (n : Int) := by omega
      have hk' : k < xs.length := by rw [HN.out]; exact h8
      obtain ⟨a, rfl, g0⟩ := HR.out k (.int .i64 xs[k]) (by rw [List.getElem?_map, List.getElem?_eq_getElem hk']; rfl)
      have e0 := cell_ext HX.out (Nat.le_refl _) g0
      clear g0
      have HXK : Hid (xs[k] ∈ xs) := Lib.hid (List.getElem_mem hk')
      have HKK : Hid ((0 ≤ xs[k] ∧ xs[k] < 1099511627776) → ∀ j (h : j < xs.length), j < k + 1 → 0 ≤ xs[j] ∧ xs[j] < 1099511627776) := Lib.hid (fun hh j h hj => by
        rcases Nat.lt_or_ge j k with h2 | h2
        · exact HK.out j h h2
        · obtain rfl : j = k := by omega
          exact hh)
      generalize xs[k] = x at *
      by_cases h1 : x < 0
      · have HE : Hid (u = false) := by show _ = _; rw [HU.out]; exact decide_eq_false (fun h => by have := (h x HXK.out).1; omega)
        clear HU
        go_wp2
        go_ret
        exact ⟨by rw [HE.out]; first | rfl | simp, HX.out⟩
      · by_cases h2 : x < 1099511627776
        · have h3 : ¬ 1099511627776 ≤ x := by omega
          go_wp2
          go_roundw
          case rel => exact ⟨k + 1, by omega, by go_num, Lib.hid (HKK.out ⟨by omega, h2⟩), HX⟩
          case measure => first | (simp [intOf]; done) | (simp [intOf]; omega)
        · have h3 : 1099511627776 ≤ x := by omega
          have HE : Hid (u = false) := by show _ = _; rw [HU.out]; exact decide_eq_false (fun h => by have := (h x HXK.out).2; omega)
          clear HU
          go_wp2
          go_ret
          exact ⟨by rw [HE.out]; first | rfl | simp, HX.out⟩
    · obtain rfl : k = n := by omega
      have h8i : ¬ (k : Int) < (k : Int) := by omega
      have HE : Hid (u = true) := by
        show _ = _; rw [HU.out]
        refine decide_eq_true (fun x hx => ?_)
        obtain ⟨j, hj, rfl⟩ := List.getElem_of_mem hx
        exact HK.out j hj (by have := HN.out; omega)
      clear HU
      go_wp2
      go_ret
      exact ⟨by rw [HE.out]; rfl, HX.out⟩
end Go.Proofs.Ytdbpgcaoakoojaa
