/- The walk of lecternref0.In. -/
import Derived.Test.YthibhndeejichaaProg
import Derived.Test.YthibhndeejichaaBase
set_option linter.unusedVariables false
set_option linter.unusedSimpArgs false
namespace Lec
/-- Where it stands first; -1: nowhere. -/
def inOf : List Int → Int → Int
  | [], _ => -1
  | y :: ys, x => if y = x then 0 else if inOf ys x = -1 then -1 else inOf ys x + 1
theorem inOf_lo : ∀ (xs : List Int) (x : Int), -1 ≤ inOf xs x
  | [], _ => by simp [inOf]
  | y :: ys, x => by
    have := inOf_lo ys x
    unfold inOf; split
    · omega
    · split <;> omega
theorem inOf_first : ∀ (xs : List Int) (k : Nat) (h : k < xs.length) (x : Int), x ∉ xs.take k → xs[k] = x → inOf xs x = k
  | y :: ys, 0, _, x, _, he => by simp at he; simp [inOf, he]
  | y :: ys, k + 1, h, x, hn, he => by
    simp only [List.take_succ_cons, List.mem_cons, not_or] at hn
    have ih := inOf_first ys k (by simpa using h) x hn.2 (by simpa using he)
    unfold inOf
    rw [if_neg (fun e => hn.1 e.symm), ih, if_neg (by omega)]; omega
theorem inOf_none : ∀ (xs : List Int) (x : Int), x ∉ xs → inOf xs x = -1
  | [], _, _ => rfl
  | y :: ys, x, hn => by
    simp only [List.mem_cons, not_or] at hn
    unfold inOf
    rw [if_neg (fun e => hn.1 e.symm), inOf_none ys x hn.2, if_pos rfl]
end Lec
namespace Go.Proofs.Ythibhndeejichaa
open Go.RowKit Lec

theorem In_any (w : World) (A : Option Addr) (n c : Nat) (xs : List Int) (x : Int) (hn : xs.length = n) (hm : n ≤ 9223372036854775807) (hr : Rds w A (intsV xs)) :
    Calls Try.prog 20 #[.slice A n c, .int .i64 x] w fun e w' => e = .returned (.int .i64 (inOf xs x)) ∧ w = w' := by
  have HR := Lib.hid hr
  have HN := Lib.hid hn
  clear hr hn
  go_enter Try.func20, Try.ntmps20
  go_wp2
  go_loop [5] (fun i => ∃ k : Nat, k ≤ n ∧ i = .int .i64 k ∧ Hid (x ∉ xs.take k)) (fun i => n - (intOf i).toNat)
  case atStart => exact ⟨0, by omega, rfl, by show _ ∉ _; simp⟩
  case round =>
    obtain ⟨k, hk, rfl, HT⟩ := hrel
    by_cases h8 : k < n
    · have hk' : k < xs.length := by rw [HN.out]; exact h8
      obtain ⟨a, rfl, hb⟩ := HR.out.map k hk'
      by_cases he : xs[k] = x
      · have ht : (xs[k] == x) = true := by simpa using he
        have HE : Hid (inOf xs x = k) := inOf_first xs k hk' x HT.out he
        clear he
        go_wp2
        go_ret
        exact ⟨by rw [HE.out]; rfl, rfl⟩
      · have ht : (xs[k] == x) = false := by simpa using he
        have HE : Hid (x ∉ xs.take (k + 1)) := by
          show _ ∉ _
          rw [List.take_succ_eq_append_getElem hk', List.mem_append, not_or]
          exact ⟨HT.out, by simpa using fun h => he h.symm⟩
        clear he
        go_wp2
        go_round
        case rel => exact ⟨k + 1, by omega, by go_num, HE⟩
        case measure => simp [intOf]; omega
    · obtain rfl : k = n := by omega
      go_wp2
      go_ret
      refine ⟨?_, rfl⟩
      rw [inOf_none xs x (by have := HT.out; rwa [List.take_of_length_le (by rw [HN.out]; exact Nat.le_refl _)] at this)]
      rfl
end Go.Proofs.Ythibhndeejichaa
