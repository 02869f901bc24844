/- Texts as bytes: what they are. No program stands here. -/
import Derived.Test.YtdbpgcaoakoojaaVar
import Derived.Test.YtdbpgcaoakoojaaTextW
set_option linter.unusedVariables false
set_option linter.unusedSimpArgs false
namespace Lec

abbrev sb (s : ByteArray) : List UInt8 := s.data.toList
theorem sb_len (s : ByteArray) : (sb s).length = s.size := by rw [Array.length_toList]; rfl
/-- One text: its length, its bytes. -/
def textB (s : ByteArray) : List UInt8 := numB s.size ++ sb s
def textsB (ss : List ByteArray) : List UInt8 := ss.flatMap textB
def putB (ss : List ByteArray) : List UInt8 := numB ss.length ++ textsB ss

theorem textsB_snoc (ss : List ByteArray) (s : ByteArray) : textsB (ss ++ [s]) = textsB ss ++ textB s := by simp [textsB]
theorem textB_len (s : ByteArray) : (textB s).length = (numB s.size).length + s.size := by simp [textB, sb_len]
theorem textsB_take_le (ss : List ByteArray) (k : Nat) : (textsB (ss.take k)).length ≤ (textsB ss).length := by
  have : textsB ss = textsB (ss.take k) ++ textsB (ss.drop k) := by
    unfold textsB; rw [← List.flatMap_append, List.take_append_drop]
  rw [this, List.length_append]; omega
theorem textsB_step {ss : List ByteArray} {k : Nat} (h : k < ss.length) : textsB (ss.take (k + 1)) = textsB (ss.take k) ++ textB ss[k] := by
  rw [List.take_succ_eq_append_getElem h, textsB_snoc]
theorem numB_len3 {n : Nat} (h : n < 2097152) : (numB n).length ≤ 3 := numB_len n 3 (by omega) (by omega)
theorem numB_len2 {n : Nat} (h : n < 16384) : (numB n).length ≤ 2 := numB_len n 2 (by omega) (by omega)
/-- Light texts are few bytes. -/
theorem textsB_light : ∀ (ss : List ByteArray), textsLen ss < 16384 → (textsB ss).length ≤ 2 * ss.length + textsLen ss ∧ textsLen ss ≤ (textsB ss).length
  | [], _ => by simp [textsB, textsLen]
  | s :: ss, h => by
    have e : textsLen (s :: ss) = s.size + textsLen ss := by simp [textsLen]
    have := textsB_light ss (by omega)
    have hs : (numB s.size).length ≤ 2 := numB_len2 (by omega)
    have e2 : textsB (s :: ss) = textB s ++ textsB ss := by simp [textsB]
    rw [e2, List.length_append, textB_len, List.length_cons]
    omega
theorem putB_light {ss : List ByteArray} (h : ss.length + textsLen ss ≤ 8000) : (putB ss).length ≤ textsLen ss + 2 + 2 * ss.length ∧ textsLen ss < (putB ss).length := by
  have := textsB_light ss (by omega)
  have h2 : (numB ss.length).length ≤ 2 := numB_len2 (by omega)
  have h3 := List.length_pos_iff.2 (numB_ne ss.length)
  unfold putB
  rw [List.length_append]
  omega
end Lec
