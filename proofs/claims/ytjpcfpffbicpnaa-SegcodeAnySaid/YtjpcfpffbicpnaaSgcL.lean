/- Segments as bytes, plain. -/
import Derived.Test.YtjpcfpffbicpnaaSegP
import Derived.Test.YtjpcfpffbicpnaaPackWire
import Derived.Test.YtjpcfpffbicpnaaPackSum
set_option linter.unusedVariables false
set_option linter.unusedSimpArgs false
namespace Lec
open Go Go.RowKit
/-- The texts that documents are. -/
def textsD (ds : List Doc) : List ByteArray := ds.flatMap fun d => [d.id, d.text]
theorem textsD_len (ds : List Doc) : (textsD ds).length = ds.length * 2 := by
  induction ds with
  | nil => rfl
  | cons d ds ih => rw [show textsD (d :: ds) = [d.id, d.text] ++ textsD ds from rfl, List.length_append, ih]; simp; omega
theorem textsD_app (xs ys : List Doc) : textsD (xs ++ ys) = textsD xs ++ textsD ys := by simp [textsD]
theorem textsD_docs (ds : List Doc) : docsC ds = (textsD ds).map Value.string := by
  induction ds with
  | nil => rfl
  | cons d ds ih => rw [show docsC (d :: ds) = docC d ++ docsC ds from rfl, ih]; simp [textsD, docC]
/-- .. and back. -/
def pairsD : List ByteArray → List Doc
  | a :: b :: l => ⟨a, b⟩ :: pairsD l
  | _ => []
theorem pairs_texts (ds : List Doc) : pairsD (textsD ds) = ds := by
  induction ds with
  | nil => rfl
  | cons d ds ih => show pairsD (d.id :: d.text :: textsD ds) = _; rw [pairsD, ih]
theorem pairs_len : ∀ l : List ByteArray, (pairsD l).length = l.length / 2
  | [] => rfl
  | [_] => by simp [pairsD]
  | a :: b :: l => by rw [pairsD, List.length_cons, pairs_len l]; simp; omega
theorem pairs_take : ∀ (l : List ByteArray) (k : Nat), k * 2 + 2 ≤ l.length → ∃ a b, l[k * 2]? = some a ∧ l[k * 2 + 1]? = some b ∧ (pairsD l).take (k + 1) = (pairsD l).take k ++ [⟨a, b⟩]
  | a :: b :: l, 0, _ => ⟨a, b, rfl, rfl, rfl⟩
  | [], k, h => by simp at h
  | [_], k, h => by simp at h
  | a :: b :: l, k + 1, h => by
    obtain ⟨x, y, h1, h2, h3⟩ := pairs_take l k (by simp at h; omega)
    refine ⟨x, y, ?_, ?_, ?_⟩
    · rw [show (k + 1) * 2 = (k * 2) + 1 + 1 by omega]; simpa using h1
    · rw [show (k + 1) * 2 + 1 = (k * 2 + 1) + 1 + 1 by omega]; simpa using h2
    · rw [pairsD, List.take_succ_cons, List.take_succ_cons, h3]; rfl
/-- Four bytes of a sum. -/
def be4 (s : Nat) : List UInt8 := [UInt8.ofNat (s / 16777216), UInt8.ofNat (s / 65536), UInt8.ofNat (s / 256), UInt8.ofNat s]
def layB (ds : List Doc) : Option (List UInt8) := if (putB (textsD ds)).length ≤ 1048576 then some (putB (textsD ds) ++ be4 (csum 0 (putB (textsD ds)))) else none
/-- The documents that bytes are. -/
def decD (bs : List UInt8) : Option (List Doc) := if bs.length < 4 then none else match getL (bs.take (bs.length - 4)) with
  | none => none
  | some l => if l.length % 2 = 0 ∧ layB (pairsD l) = some bs ∧ Sg.chkD (pairsD l) = 0 then some (pairsD l) else none
theorem decD_lay {bs : List UInt8} {ds : List Doc} (h : decD bs = some ds) : layB ds = some bs ∧ Sg.chkD ds = 0 := by
  unfold decD at h
  split at h
  · cases h
  · split at h
    · cases h
    · split at h
      · rename_i hc
        injection h with h
        subst h
        exact ⟨hc.2.1, hc.2.2⟩
      · cases h
theorem dec_lay {bs : List UInt8} {ds : List Doc} (h : layB ds = some bs) (hc : Sg.chkD ds = 0) : decD bs = some ds := by
  unfold layB at h
  split at h
  · rename_i hl
    injection h with h
    have hbl : bs.length = (putB (textsD ds)).length + 4 := by rw [← h, List.length_append]; rfl
    have ht : bs.take (bs.length - 4) = putB (textsD ds) := by rw [hbl, ← h]; simp
    have hg : getL (putB (textsD ds)) = some (textsD ds) := getL_put (fits_of_len (by omega)) hl
    unfold decD
    rw [if_neg (by omega), ht, hg]
    dsimp only
    rw [pairs_texts, if_pos ⟨by rw [textsD_len]; omega, by unfold layB; rw [if_pos hl, h], hc⟩]
  · cases h
theorem lay_none_dec {bs : List UInt8} (h : bs.length < 4) : decD bs = none := by unfold decD; rw [if_pos h]
theorem get_none_dec {bs : List UInt8} (h : ¬ bs.length < 4) (hg : getL (bs.take (bs.length - 4)) = none) : decD bs = none := by unfold decD; rw [if_neg h, hg]
theorem get_some_dec {bs : List UInt8} {l : List ByteArray} (h : ¬ bs.length < 4) (hg : getL (bs.take (bs.length - 4)) = some l) : decD bs = if l.length % 2 = 0 ∧ layB (pairsD l) = some bs ∧ Sg.chkD (pairsD l) = 0 then some (pairsD l) else none := by unfold decD; rw [if_neg h, hg]
end Lec
