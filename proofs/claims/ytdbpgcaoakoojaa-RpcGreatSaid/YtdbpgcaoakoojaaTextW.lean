/- The walk of lecternlaw0.TextWeight. -/
import Derived.Test.YtdbpgcaoakoojaaProg
import Derived.Test.YtdbpgcaoakoojaaBase
set_option linter.unusedVariables false
set_option linter.unusedSimpArgs false
namespace Lec
/-- How many bytes texts have, up to more than are played. -/
def twOf : Nat → List ByteArray → Nat
  | n, [] => n
  | n, s :: ss => if n < 1048576 then twOf (n + s.size) ss else n
def textsLen (ss : List ByteArray) : Nat := (ss.map (·.size)).sum
theorem twOf_light : ∀ (ss : List ByteArray) (n : Nat), twOf n ss < 1048576 → twOf n ss = n + textsLen ss
  | [], n, _ => by simp [twOf, textsLen]
  | s :: ss, n, h => by
    unfold twOf at h ⊢
    split
    · rename_i hn
      rw [if_pos hn] at h
      rw [twOf_light ss _ h]; simp [textsLen]; omega
    · rename_i hn
      rw [if_neg hn] at h; omega
theorem twOf_stop (ss : List ByteArray) (n : Nat) (h : ¬ n < 1048576) : twOf n ss = n := by
  cases ss with
  | nil => rfl
  | cons s ss => unfold twOf; rw [if_neg h]
theorem twOf_step {ss : List ByteArray} {k : Nat} (hk : k < ss.length) (n : Nat) (h : n < 1048576) : twOf n (ss.drop k) = twOf (n + ss[k].size) (ss.drop (k + 1)) := by
  rw [List.drop_eq_getElem_cons hk]
  conv => lhs; unfold twOf
  rw [if_pos h]
end Lec
