/- The walks of the reference's May, Tree. -/
import Derived.Test.YtfiioobdknbacaaWavU
set_option linter.unusedVariables false
set_option linter.unusedSimpArgs false
namespace Lec
open Go Go.RowKit
theorem okTree_nats {K : Int} {ys : List Int} (h : okTree K ys) : natsC (ys.map Int.toNat) = intsV ys := by
  rw [natsC_ints, List.map_map]
  congr 1
  refine (List.map_congr_left (fun y hy => ?_)).trans (List.map_id _)
  have := (h.2.2 y hy).1
  show ((y.toNat : Nat) : Int) = y
  omega
theorem okTree_lt {K : Int} {ys : List Int} (h : okTree K ys) : ∀ x ∈ ys.map Int.toNat, x < K.toNat := fun x hx => by
  obtain ⟨y, hy, rfl⟩ := List.mem_map.1 hx
  have := h.2.2 y hy
  omega
def allIn (K : Int) (ys : List Int) : Bool := ys.all fun y => decide (0 ≤ y ∧ y < K)
theorem allIn_iff (K : Int) (ys : List Int) : allIn K ys = true ↔ ∀ y ∈ ys, 0 ≤ y ∧ y < K := by
  unfold allIn; simp [List.all_eq_true]
def badT (K : Int) (L : List Int) : Int := if decide (1 ≤ K ∧ K ≤ 512) && allIn K L then 0 else 1
theorem okT_iff (K : Int) (L : List Int) : (decide (1 ≤ K ∧ K ≤ 512) && allIn K L) = true ↔ okTree K L := by
  rw [Bool.and_eq_true, allIn_iff, decide_eq_true_iff]; unfold okTree
  exact ⟨fun h => ⟨h.1.1, h.1.2, h.2⟩, fun h => ⟨⟨h.1, h.2.1⟩, h.2.2⟩⟩
theorem badT_ok {K : Int} {L : List Int} (h : okTree K L) : badT K L = 0 := by unfold badT; rw [if_pos ((okT_iff K L).2 h)]
theorem badT_no {K : Int} {L : List Int} (h : ¬ okTree K L) : badT K L = 1 := by unfold badT; rw [if_neg (fun h2 => h ((okT_iff K L).1 h2))]
end Lec
namespace Go.Proofs.Ytfiioobdknbacaa
open Go.RowKit Lec
theorem refMay_any (w : World) (K : Int) (A : Option Addr) (c : Nat) (L : List Int) (hm : L.length ≤ 1000000) (hr : Rds w A (intsV L)) :
    Calls Try.prog 60 #[.int .i64 K, .slice A L.length c] w fun e w' => e = .returned (.bool (allIn K L)) ∧ w = w' := by
  have HR := Lib.hid hr
  clear hr
  go_enter Try.func60, Try.ntmps60
  go_wp2
  go_loop [5] (fun i => ∃ k : Nat, k ≤ L.length ∧ i = .int .i64 (k : Int) ∧ Hid (∀ y ∈ L.take k, 0 ≤ y ∧ y < K)) (fun i => L.length - (intOf i).toNat)
  case atStart => exact ⟨0, by omega, rfl, Lib.hid (by simp)⟩
  case round =>
    obtain ⟨k, hk, rfl, HG⟩ := hrel
    by_cases h8 : k < L.length
    · have h8i : (k : Int) < (L.length : Int) := by omega
      obtain ⟨a, rfl, hc⟩ := HR.out.map k h8
      have HT : Hid (L.take (k + 1) = L.take k ++ [L[k]]) := List.take_succ_eq_append_getElem h8
      have HM : Hid (L[k] ∈ L) := Lib.hid (List.getElem_mem h8)
      generalize L[k] = y at *
      have HBAD : Hid (¬ (0 ≤ y ∧ y < K) → allIn K L = false) := Lib.hid fun h => by
        rw [Bool.eq_false_iff]; intro h2; exact h ((allIn_iff K L).1 h2 y HM.out)
      by_cases h1 : y < 0
      · go_wp2
        go_ret
        exact ⟨by rw [HBAD.out (by omega)]; rfl, rfl⟩
      · by_cases h2 : K ≤ y
        · go_wp2
          go_ret
          exact ⟨by rw [HBAD.out (by omega)]; rfl, rfl⟩
        · go_wp2
          go_round
          case rel => exact ⟨k + 1, by omega, by go_num, Lib.hid (fun z hz => by
              rw [HT.out, List.mem_append] at hz
              rcases hz with hz | hz
              · exact HG.out z hz
              · simp at hz; subst hz; omega)⟩
          case measure => simp [intOf]; omega
    · obtain rfl : k = L.length := by omega
      have h8i : ¬ (L.length : Int) < (L.length : Int) := by omega
      have HE : Hid (allIn K L = true) := Lib.hid ((allIn_iff K L).2 (by have := HG.out; rwa [List.take_length] at this))
      go_wp2
      go_ret
      exact ⟨by rw [HE.out]; rfl, rfl⟩
theorem refTree_any (w : World) (K : Int) (A : Option Addr) (c : Nat) (L : List Int) (hm : L.length ≤ 131072) (hr : Rds w A (intsV L)) :
    Calls Try.prog 59 #[.int .i64 K, .slice A L.length c] w fun e w' => e = .returned (.int .i64 (badT K L)) ∧ w = w' := by
  have HM := Lib.hid (refMay_any w K A c L (by omega) hr)
  have hl : ¬ (131072 : Int) < (L.length : Int) := by omega
  clear hr
  go_enter Try.func59, Try.ntmps59
  by_cases h1 : K < 1
  · have HE : Hid (badT K L = 1) := Lib.hid (badT_no (fun h => by have := h.1; omega))
    go_wp2_with (go_at_call 60; refine HM.out.mono ?_; rintro e w1 ⟨rfl, rfl⟩)
    go_ret
    exact ⟨by rw [HE.out]; rfl, rfl⟩
  · by_cases h2 : 512 < K
    · have HE : Hid (badT K L = 1) := Lib.hid (badT_no (fun h => by have := h.2.1; omega))
      go_wp2_with (go_at_call 60; refine HM.out.mono ?_; rintro e w1 ⟨rfl, rfl⟩)
      go_ret
      exact ⟨by rw [HE.out]; rfl, rfl⟩
    · cases hb : allIn K L with
      | true =>
        have HE : Hid (badT K L = 0) := Lib.hid (badT_ok ⟨by omega, by omega, (allIn_iff K L).1 hb⟩)
        rw [hb] at HM
        clear hb
        go_wp2_with (go_at_call 60; refine HM.out.mono ?_; rintro e w1 ⟨rfl, rfl⟩)
        go_ret
        exact ⟨by rw [HE.out]; rfl, rfl⟩
      | false =>
        have HE : Hid (badT K L = 1) := Lib.hid (badT_no (fun h => by have := (allIn_iff K L).2 h.2.2; rw [hb] at this; cases this))
        rw [hb] at HM
        clear hb
        go_wp2_with (go_at_call 60; refine HM.out.mono ?_; rintro e w1 ⟨rfl, rfl⟩)
        go_ret
        exact ⟨by rw [HE.out]; rfl, rfl⟩
end Go.Proofs.Ytfiioobdknbacaa
