/- The walk of LogWeight. -/
import Derived.Test.YtpdnkhdnenibgaaEntA
set_option linter.unusedVariables false
set_option linter.unusedSimpArgs false
namespace Lec
/-- How many bytes a log has, up to more than are played. -/
def lwOf : Nat → List Ent → Nat
  | n, [] => n
  | n, s :: ss => if n < 1048576 then lwOf (n + s.2.2.size) ss else n
theorem lwOf_ge : ∀ (ss : List Ent) (n : Nat), n ≤ lwOf n ss
  | [], n => Nat.le_refl _
  | s :: ss, n => by
    unfold lwOf; split
    · exact Nat.le_trans (by omega) (lwOf_ge ss _)
    · omega
theorem lwOf_stop (ss : List Ent) (n : Nat) (h : ¬ n < 1048576) : lwOf n ss = n := by
  cases ss with
  | nil => rfl
  | cons s ss => unfold lwOf; rw [if_neg h]
theorem lwOf_step {ss : List Ent} {k : Nat} (hk : k < ss.length) (n : Nat) (h : n < 1048576) : lwOf n (ss.drop k) = lwOf (n + ss[k].2.2.size) (ss.drop (k + 1)) := by
  rw [List.drop_eq_getElem_cons hk]
  conv => lhs; unfold lwOf
  rw [if_pos h]
end Lec
namespace Go.Proofs.Ytpdnkhdnenibgaa
open Go.RowKit Lec

theorem LogWeight_any (w : World) (A : Option Addr) (n c : Nat) (ss : List Ent) (hn : ss.length = n) (hm : n ≤ 140737488351232) (hs : ∀ s ∈ ss, s.2.2.size ≤ 140737488351232) (hr : Rds w A (entsC ss)) :
    Calls Try.prog 71 #[.slice A n c] w fun e w' => e = .returned (.int .i64 (lwOf n ss : Int)) ∧ w = w' := by
  have HR := Lib.hid hr
  have HN := Lib.hid hn
  have HS := Lib.hid hs
  clear hr hn hs
  go_enter Try.func71, Try.ntmps71
  go_wp2
  go_loop [3, 4] (fun a i => ∃ k m : Nat, k ≤ n ∧ i = .int .i64 (k : Int) ∧ a = .int .i64 (m : Int) ∧ m ≤ 281474976702464 ∧ Hid (lwOf n ss = lwOf m (ss.drop k))) (fun _ i => n - (intOf i).toNat)
  case atStart => exact ⟨0, n, by omega, rfl, rfl, by omega, rfl⟩
  case round =>
    obtain ⟨k, m, hk, rfl, rfl, hmb, HT⟩ := hrel
    by_cases h8 : k < n
    · have hk' : k < ss.length := by rw [HN.out]; exact h8
      obtain ⟨a, rfl, g0, g1, g2⟩ := ents_cells HR.out k hk'
      have hki : (k : Int) < n := by omega
      have hsz := HS.out ss[k] (List.getElem_mem hk')
      by_cases hml : m < 1048576
      · have hmi : (m : Int) < 1048576 := by omega
        have HT2 : Hid (lwOf n ss = lwOf (m + ss[k].2.2.size) (ss.drop (k + 1))) := by show _ = _; rw [HT.out, lwOf_step hk' m hml]
        clear HT
        go_wp2
        go_round
        case rel => exact ⟨k + 1, m + ss[k].2.2.size, by omega, by go_num, by go_num, by omega, HT2⟩
        case measure => simp [intOf]; omega
      · have hmi : ¬ (m : Int) < 1048576 := by omega
        have HT2 : Hid (lwOf n ss = m) := by show _ = _; rw [HT.out, lwOf_stop _ m hml]
        go_wp2
        go_ret
        exact ⟨by rw [HT2.out]; rfl, rfl⟩
    · obtain rfl : k = n := by omega
      have hki : ¬ (k : Int) < k := by omega
      have HT2 : Hid (lwOf k ss = m) := by
        show _ = _; rw [HT.out, List.drop_eq_nil_of_le (by rw [HN.out]; exact Nat.le_refl _)]; rfl
      go_wp2
      go_ret
      exact ⟨by rw [HT2.out]; rfl, rfl⟩
end Go.Proofs.Ytpdnkhdnenibgaa
