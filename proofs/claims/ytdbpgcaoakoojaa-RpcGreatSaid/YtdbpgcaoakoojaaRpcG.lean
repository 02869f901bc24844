/- The great messages, plain. -/
import Derived.Test.YtdbpgcaoakoojaaRpcX
import Derived.Test.YtdbpgcaoakoojaaConv
set_option linter.unusedVariables false
set_option linter.unusedSimpArgs false
namespace Lec
open Go Go.RowKit
def zerosG (n : Nat) : ByteArray := bytesOf (List.replicate n 0)
theorem zerosG_size (n : Nat) : (zerosG n).size = n := by unfold zerosG; rw [bytesOf_size, List.length_replicate]
def entG (i : Nat) : Ent := (1099511627759 + ((i : Int) + 1), 1099511627775, zerosG (100 * (i + 1)))
def entsG (k : Nat) : List Ent := (List.range k).map entG
theorem entsG_step (k : Nat) : entsG (k + 1) = entsG k ++ [entG k] := by unfold entsG; rw [List.range_succ, List.map_append]; rfl
theorem entsG_len (k : Nat) : (entsG k).length = k := by simp [entsG]
def msgG (es : List Ent) : Rpc := ⟨3, 7, 1, 1099511627775, 1099511627759, 1099511627775, 1099511627775, 1099511627775, false, es, 0, ⟨#[]⟩, false⟩
def msgS (ix at' : Int) (d : ByteArray) : Rpc := ⟨5, 1, 7, 1099511627775, ix, 1099511627775, 0, 1099511627775, false, [], at', d, true⟩
theorem runsG : ∀ (n : Nat) (i t : Int) (j : Nat), i = 1099511627759 + (j : Int) → j + n ≤ 16 → t ≤ 1099511627775 → runsE i t ((List.range' j n).map entG)
  | 0, _, _, _, _, _, _ => trivial
  | n + 1, i, t, j, hi, hj, ht => by
    rw [List.range'_succ, List.map_cons]
    refine ⟨⟨?_, ?_, ?_, ?_, ?_⟩, ?_, ht, ?_⟩
    · show (1 : Int) ≤ 1099511627759 + ((j : Int) + 1); omega
    · show (1099511627759 + ((j : Int) + 1) : Int) ≤ _; omega
    · show (0 : Int) ≤ 1099511627775; omega
    · show (1099511627775 : Int) ≤ _; omega
    · show (zerosG (100 * (j + 1))).size ≤ 4096; rw [zerosG_size]; omega
    · show (1099511627759 + ((j : Int) + 1) : Int) = i + 1; omega
    · exact runsG n _ _ (j + 1) (by show (1099511627759 + ((j : Int) + 1) : Int) = _; omega) (by omega) (Int.le_refl _)
theorem msgG_may : mayR (msgG (entsG 16)) = true := by
  have hr : runsE 1099511627759 1099511627775 (entsG 16) := by unfold entsG; rw [List.range_eq_range']; exact runsG 16 _ _ 0 (by omega) (by omega) (by omega)
  have ho : ownB (msgG (entsG 16)) = true := by
    unfold ownB msgG
    dsimp only
    rw [if_pos rfl]
    exact decide_eq_true ⟨by rw [entsG_len]; omega, hr⟩
  unfold mayR
  rw [ho]
  show (true && nodeN 7 && nodeN 1 && numsN _ && sameR _ _) = true
  rw [show nodeN 7 = true by decide, show nodeN 1 = true by decide, show numsN [(msgG (entsG 16)).trm, (msgG (entsG 16)).idx, (msgG (entsG 16)).lgt, (msgG (entsG 16)).com, (msgG (entsG 16)).rnd, (msgG (entsG 16)).att] = true from by show numsN [1099511627775, 1099511627759, 1099511627775, 1099511627775, 1099511627775, 0] = true; decide]
  rw [show ownR (msgG (entsG 16)) = msgG (entsG 16) from rfl]
  simp [sameR]
theorem msgS_may {n : Nat} (hn : n ≤ 1024) : mayR (msgS 1099511625728 524288 (zerosG n)) = true := by
  have ho : ownB (msgS 1099511625728 524288 (zerosG n)) = true := by
    unfold ownB msgS
    dsimp only
    rw [if_neg (by decide), if_pos rfl]
    exact decide_eq_true ⟨by omega, by omega, by omega, by rw [zerosG_size]; omega⟩
  unfold mayR
  rw [ho]
  show (true && nodeN 1 && nodeN 7 && numsN [1099511627775, 1099511625728, 1099511627775, 0, 1099511627775, 524288] && sameR _ _) = true
  rw [show nodeN 7 = true by decide, show nodeN 1 = true by decide, show numsN [1099511627775, 1099511625728, 1099511627775, 0, 1099511627775, 524288] = true by decide]
  rw [show ownR (msgS 1099511625728 524288 (zerosG n)) = msgS 1099511625728 524288 (zerosG n) from rfl]
  simp [sameR]
theorem may_own_no {m : Rpc} (h : ownB m = false) : mayR m = false := by unfold mayR; rw [h]; rfl
theorem msgG_no (es : List Ent) (h : 16 < es.length) : mayR (msgG es) = false := may_own_no (by
  unfold ownB msgG
  dsimp only
  rw [if_pos rfl]
  exact decide_eq_false (fun g => by omega))
theorem msgS_no {ix at' : Int} {d : ByteArray} (h : 1099511625728 < ix ∨ 524288 < at' ∨ 1024 < d.size) : mayR (msgS ix at' d) = false := may_own_no (by
  unfold ownB msgS
  dsimp only
  rw [if_neg (by decide), if_pos rfl]
  exact decide_eq_false (fun g => by omega))
theorem textsB_most : ∀ ss : List ByteArray, (∀ s ∈ ss, s.size ≤ 1000000) → (textsB ss).length ≤ textsLen ss + 9 * ss.length
  | [], _ => by simp [textsB]
  | s :: ss, h => by
    have h1 := textsB_most ss (fun x hx => h x (by simp [hx]))
    have h2 := numB_len9 (n := s.size) (by have := h s (by simp); omega)
    rw [show textsB (s :: ss) = textB s ++ textsB ss from by simp [textsB], List.length_append]
    have h3 : (textB s).length = (numB s.size).length + s.size := by unfold textB; rw [List.length_append, sb_len]
    have h4 : textsLen (s :: ss) = s.size + textsLen ss := by simp [textsLen]
    rw [h3, h4, List.length_cons]
    omega
theorem len_mem : ∀ (ss : List ByteArray) (s : ByteArray), s ∈ ss → s.size ≤ textsLen ss
  | x :: ss, s, h => by
    have h4 : textsLen (x :: ss) = x.size + textsLen ss := by simp [textsLen]
    rcases List.mem_cons.1 h with rfl | h
    · omega
    · have := len_mem ss s h; omega
/-- What is laid is little. -/
theorem lay_light {m : Rpc} (h1 : textsLen (textsR m) ≤ 20000) (h2 : (textsR m).length ≤ 100) : ∃ b, layR m = some b ∧ b.length ≤ 100000 := by
  have h := textsB_most (textsR m) (fun s hs => by have := len_mem _ s hs; omega)
  have h3 := numB_len9 (n := (textsR m).length) (by omega)
  have h4 : (putB (textsR m)).length ≤ 30000 := by unfold putB; rw [List.length_append]; omega
  have hl : layR m = some (putB (textsR m) ++ be4 (csum 0 (putB (textsR m)))) := by unfold layR; rw [if_pos (by omega)]
  exact ⟨_, hl, by rw [List.length_append]; show _ + 4 ≤ _; omega⟩
theorem great_lay : ∃ b, layR (msgG (entsG 16)) = some b ∧ b.length ≤ 100000 ∧ decR b = some (msgG (entsG 16)) := by
  obtain ⟨b, h1, h2⟩ := lay_light (m := msgG (entsG 16)) (by decide +kernel) (by decide +kernel)
  exact ⟨b, h1, h2, decR_of_lay h1 msgG_may⟩
theorem snap_lay : ∃ b, layR (msgS 1099511625728 524288 (zerosG 1024)) = some b ∧ b.length ≤ 100000 ∧ decR b = some (msgS 1099511625728 524288 (zerosG 1024)) := by
  obtain ⟨b, h1, h2⟩ := lay_light (m := msgS 1099511625728 524288 (zerosG 1024)) (by decide +kernel) (by decide +kernel)
  exact ⟨b, h1, h2, decR_of_lay h1 (msgS_may (by omega))⟩
end Lec
