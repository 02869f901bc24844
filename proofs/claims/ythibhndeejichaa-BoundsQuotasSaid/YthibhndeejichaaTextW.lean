/- The walk of lecternlaw0.TextWeight. -/
import Derived.Test.YthibhndeejichaaProg
import Derived.Test.YthibhndeejichaaBase
set_option linter.unusedVariables false
set_option linter.unusedSimpArgs false
namespace Lec
/-- How many bytes texts have, up to more than are played. -/
def twOf : Nat → List ByteArray → Nat
  | n, [] => n
  | n, s :: ss => if n < 1048576 then twOf (n + s.size) ss else n
def textsLen (ss : List ByteArray) : Nat := (ss.map (·.size)).sum
theorem twOf_light : ∀ (ss : List ByteArray) (n : Nat), twOf n ss < 1048576 → twOf n ss = n + textsLen ss
  | [], n, _ => by simp [twOf, textsLen]
  | s :: ss, n, h => by
    unfold twOf at h ⊢
    split
    · rename_i hn
      rw [if_pos hn] at h
      rw [twOf_light ss _ h]; simp [textsLen]; omega
    · rename_i hn
      rw [if_neg hn] at h; omega
theorem twOf_stop (ss : List ByteArray) (n : Nat) (h : ¬ n < 1048576) : twOf n ss = n := by
  cases ss with
  | nil => rfl
  | cons s ss => unfold twOf; rw [if_neg h]
theorem twOf_step {ss : List ByteArray} {k : Nat} (hk : k < ss.length) (n : Nat) (h : n < 1048576) : twOf n (ss.drop k) = twOf (n + ss[k].size) (ss.drop (k + 1)) := by
  rw [List.drop_eq_getElem_cons hk]
  conv => lhs; unfold twOf
  rw [if_pos h]
end Lec
namespace Go.Proofs.Ythibhndeejichaa
open Go.RowKit Lec

theorem TextWeight_any (w : World) (A : Option Addr) (n c : Nat) (ss : List ByteArray) (hn : ss.length = n) (hm : n ≤ 140737488351232) (hs : ∀ s ∈ ss, s.size ≤ 140737488351232) (hr : Rds w A (ss.map Value.string)) :
    Calls Try.prog 48 #[.slice A n c] w fun e w' => e = .returned (.int .i64 (twOf n ss : Int)) ∧ w = w' := by
  have HR := Lib.hid hr
  have HN := Lib.hid hn
  have HS := Lib.hid hs
  clear hr hn hs
  go_enter Try.func48, Try.ntmps48
  go_wp2
  go_loop [3, 4] (fun a i => ∃ k m : Nat, k ≤ n ∧ i = .int .i64 (k : Int) ∧ a = .int .i64 (m : Int) ∧ m ≤ 281474976702464 ∧ Hid (twOf n ss = twOf m (ss.drop k))) (fun _ i => n - (intOf i).toNat)
  case atStart => exact ⟨0, n, by omega, rfl, rfl, by omega, rfl⟩
  case round =>
    obtain ⟨k, m, hk, rfl, rfl, hmb, HT⟩ := hrel
    by_cases h8 : k < n
    · have hk' : k < ss.length := by rw [HN.out]; exact h8
      obtain ⟨a, rfl, hb⟩ := HR.out.map k hk'
      have hki : (k : Int) < n := by omega
      have hsz := HS.out ss[k] (List.getElem_mem hk')
      by_cases hml : m < 1048576
      · have hmi : (m : Int) < 1048576 := by omega
        have HT2 : Hid (twOf n ss = twOf (m + ss[k].size) (ss.drop (k + 1))) := by show _ = _; rw [HT.out, twOf_step hk' m hml]
        clear HT
        go_wp2
        go_round
        case rel => exact ⟨k + 1, m + ss[k].size, by omega, by go_num, by go_num, by omega, HT2⟩
        case measure => simp [intOf]; omega
      · have hmi : ¬ (m : Int) < 1048576 := by omega
        have HT2 : Hid (twOf n ss = m) := by show _ = _; rw [HT.out, twOf_stop _ m hml]
        clear HT
        go_wp2
        go_ret
        exact ⟨by rw [HT2.out]; rfl, rfl⟩
    · obtain rfl : k = n := by omega
      have hki : ¬ (k : Int) < k := by omega
      have HT2 : Hid (twOf k ss = m) := by show _ = _; rw [HT.out, List.drop_eq_nil_of_le (by rw [HN.out]; exact Nat.le_refl _)]; rfl
      clear HT
      go_wp2
      go_ret
      exact ⟨by rw [HT2.out]; rfl, rfl⟩
end Go.Proofs.Ythibhndeejichaa
