/- Messages, plain: which may be, what bytes are one. -/
import Derived.Test.YtdbpgcaoakoojaaRpcO
import Derived.Test.YtdbpgcaoakoojaaBackL
set_option linter.unusedVariables false
set_option linter.unusedSimpArgs false
namespace Lec
open Go Go.RowKit
/-- The same, entries told by their number. -/
def sameR (m o : Rpc) : Bool := decide (m.idx = o.idx ∧ m.lgt = o.lgt ∧ m.com = o.com ∧ m.rnd = o.rnd ∧ m.ok = o.ok ∧ m.ents.length = o.ents.length ∧ m.att = o.att ∧ m.dat = o.dat ∧ m.don = o.don)
def mayR (m : Rpc) : Bool := ownB m && nodeN m.frm && nodeN m.tto && numsN [m.trm, m.idx, m.lgt, m.com, m.rnd, m.att] && sameR m (ownR m)
theorem mayR_own {m : Rpc} (h : mayR m = true) : ownB m = true := by
  unfold mayR at h
  simp only [Bool.and_eq_true] at h
  exact h.1.1.1.1
theorem mayR_nums {m : Rpc} (h : mayR m = true) : ∀ x ∈ [m.trm, m.idx, m.lgt, m.com, m.rnd, m.att], 0 ≤ x ∧ x < 1099511627776 := by
  unfold mayR at h
  simp only [Bool.and_eq_true] at h
  exact of_decide_eq_true h.1.2
theorem mayR_same {m : Rpc} (h : mayR m = true) : sameR m (ownR m) = true := by
  unfold mayR at h
  simp only [Bool.and_eq_true] at h
  exact h.2
theorem mayR_nodes {m : Rpc} (h : mayR m = true) : (1 ≤ m.frm ∧ m.frm ≤ 7) ∧ (1 ≤ m.tto ∧ m.tto ≤ 7) := by
  unfold mayR at h
  simp only [Bool.and_eq_true] at h
  exact ⟨of_decide_eq_true h.1.1.1.2, of_decide_eq_true h.1.1.2⟩
theorem ownB_kind {m : Rpc} (h : ownB m = true) : 1 ≤ m.knd ∧ m.knd ≤ 6 := by
  unfold ownB at h
  split at h
  · omega
  · split at h
    · omega
    · have := of_decide_eq_true h
      omega
theorem ownR_ents (m : Rpc) : (ownR m).ents = if m.knd = 3 then m.ents else [] := by
  unfold ownR
  by_cases h3 : m.knd = 3
  · rw [if_neg (by omega), if_neg (by omega), if_pos h3, if_pos h3]
  · rw [if_neg h3]
    split
    · rfl
    · split
      · rfl
      · split
        · rfl
        · split
          · rfl
          · split
            · rfl
            · rfl
theorem mayR_ents3 {m : Rpc} (h : mayR m = true) (h3 : m.knd = 3) : m.ents.length ≤ 16 ∧ runsE m.idx m.lgt m.ents := by
  have h1 := mayR_own h
  unfold ownB at h1
  rw [if_pos h3] at h1
  exact of_decide_eq_true h1
theorem mayR_ents0 {m : Rpc} (h : mayR m = true) (h3 : m.knd ≠ 3) : m.ents = [] := by
  have h1 := (of_decide_eq_true (mayR_same h)).2.2.2.2.2.1
  rw [ownR_ents, if_neg h3] at h1
  exact List.length_eq_zero_iff.1 h1
theorem runsE_good : ∀ (i t : Int) (es : List Ent), runsE i t es → ∀ e ∈ es, goodE e
  | _, _, [], _, e, he => by cases he
  | i, t, x :: es, h, e, he => by
    rcases List.mem_cons.1 he with rfl | he
    · exact h.1
    · exact runsE_good _ _ es h.2.2.2 e he
theorem mayR_good {m : Rpc} (h : mayR m = true) : m.ents.length ≤ 16 ∧ ∀ e ∈ m.ents, goodE e := by
  by_cases h3 : m.knd = 3
  · obtain ⟨h1, h2⟩ := mayR_ents3 h h3
    exact ⟨h1, runsE_good _ _ _ h2⟩
  · rw [mayR_ents0 h h3]
    exact ⟨Nat.zero_le _, fun e he => by cases he⟩
theorem mayR_layable {m : Rpc} (h : mayR m = true) : layable m := by
  have h1 := mayR_nums h
  have h2 := mayR_nodes h
  have h3 := ownB_kind (mayR_own h)
  refine ⟨?_, ?_⟩
  · intro x hx
    unfold numsR at hx
    simp only [List.mem_cons, List.not_mem_nil, or_false] at hx
    have hb : ∀ b : Bool, 0 ≤ bitI b ∧ bitI b ≤ 1 := fun b => by cases b <;> decide
    rcases hx with rfl | rfl | rfl | rfl | rfl | rfl | rfl | rfl | rfl | rfl | rfl
    · omega
    · omega
    · omega
    · have := h1 _ (show m.trm ∈ _ by simp); omega
    · have := h1 _ (show m.idx ∈ _ by simp); omega
    · have := h1 _ (show m.lgt ∈ _ by simp); omega
    · have := h1 _ (show m.com ∈ _ by simp); omega
    · have := h1 _ (show m.rnd ∈ _ by simp); omega
    · have := h1 _ (show m.att ∈ _ by simp); omega
    · have := hb m.ok; omega
    · have := hb m.don; omega
  · intro e he
    have := (mayR_good h).2 e he
    unfold goodE at this
    omega
/-- The message that bytes are. -/
def decR (bs : List UInt8) : Option Rpc := if bs.length < 4 then none else match getL (bs.take (bs.length - 4)) with
  | none => none
  | some l => if (msgT (l, false)).2.2 = false ∧ mayR (msgT (l, false)).1 = true ∧ layR (msgT (l, false)).1 = some bs then some (msgT (l, false)).1 else none
theorem decR_lay {bs : List UInt8} {m : Rpc} (h : decR bs = some m) : layR m = some bs ∧ mayR m = true := by
  unfold decR at h
  split at h
  · cases h
  · split at h
    · cases h
    · split at h
      · rename_i hc
        injection h with h
        subst h
        exact ⟨hc.2.2, hc.2.1⟩
      · cases h
theorem decR_of_lay {bs : List UInt8} {m : Rpc} (h : layR m = some bs) (hc : mayR m = true) : decR bs = some m := by
  unfold layR at h
  split at h
  · rename_i hl
    injection h with h
    have hbl : bs.length = (putB (textsR m)).length + 4 := by rw [← h, List.length_append]; rfl
    have ht : bs.take (bs.length - 4) = putB (textsR m) := by rw [hbl, ← h]; simp
    have hg : getL (putB (textsR m)) = some (textsR m) := getL_put (fits_of_len (by omega)) hl
    unfold decR
    rw [if_neg (by omega), ht, hg]
    dsimp only
    rw [msgT_texts (mayR_layable hc), if_pos ⟨rfl, hc, by unfold layR; rw [if_pos hl, h]⟩]
  · cases h
theorem short_dec {bs : List UInt8} (h : bs.length < 4) : decR bs = none := by unfold decR; rw [if_pos h]
theorem none_dec {bs : List UInt8} (h : ¬ bs.length < 4) (hg : getL (bs.take (bs.length - 4)) = none) : decR bs = none := by unfold decR; rw [if_neg h, hg]
theorem some_dec {bs : List UInt8} {l : List ByteArray} (h : ¬ bs.length < 4) (hg : getL (bs.take (bs.length - 4)) = some l) : decR bs = if (msgT (l, false)).2.2 = false ∧ mayR (msgT (l, false)).1 = true ∧ layR (msgT (l, false)).1 = some bs then some (msgT (l, false)).1 else none := by unfold decR; rw [if_neg h, hg]
/-- What is wrong stays wrong. -/
theorem nextT_bad (l : List ByteArray) : nextT (l, true) = (⟨#[]⟩, (l, true)) := by cases l <;> rfl
theorem numsT_bad (k : Nat) (l : List ByteArray) : (numsT k (l, true)).2 = (l, true) := by
  induction k with
  | zero => rfl
  | succ k ih =>
    rw [numsT]
    show (numT (numsT k (l, true)).2).2 = _
    rw [ih]
    unfold numT
    rw [nextT_bad]
    rfl
theorem msgT_bad (l : List ByteArray) : (msgT (l, true)).2 = (l, true) := by
  unfold msgT
  dsimp only
  rw [numsT_bad, nextT_bad]
  dsimp only
  cases l <;> rfl
/-- Numbers that were read are none below 0. -/
theorem rdB_range (s : ByteArray) : 0 ≤ (rdB s).1 ∧ (rdB s).1 < 9223372036854775808 := by
  unfold rdB getR
  dsimp only
  cases h : getB 0 0 (sb s) with
  | none => exact ⟨by decide, by decide⟩
  | some x =>
    obtain ⟨m, k⟩ := x
    have h1 := getB_bound (sb s) 0 0 m k (by omega) (by simp) h
    have h2 : (128 : Nat) ^ k ≤ 128 ^ 9 := Nat.pow_le_pow_right (by omega) h1.2.2.1
    have h3 : (128 : Nat) ^ 9 = 9223372036854775808 := by decide
    dsimp only
    omega
theorem numsT_range (k : Nat) (st : St) : ∀ x ∈ (numsT k st).1, 0 ≤ x ∧ x < 9223372036854775808 := by
  induction k with
  | zero => intro x hx; cases hx
  | succ k ih =>
    intro x hx
    rw [numsT] at hx
    rcases List.mem_append.1 hx with h | h
    · exact ih x h
    · obtain rfl : x = _ := List.mem_singleton.1 h
      exact rdB_range _
theorem msgT_idx (st : St) : 0 ≤ (msgT st).1.idx ∧ (msgT st).1.idx < 9223372036854775808 := by
  show 0 ≤ (numsT 11 st).1.getD 4 0 ∧ (numsT 11 st).1.getD 4 0 < 9223372036854775808
  refine numsT_range 11 st _ ?_
  rw [List.getD_eq_getElem?_getD, List.getElem?_eq_getElem (by rw [numsT_len]; omega)]
  exact List.getElem_mem _
theorem entsT_len : ∀ (f : Nat) (st : St), (entsT f st).1.length ≤ f
  | 0, _ => Nat.le_refl _
  | f + 1, st => by
    rw [entsT]
    split
    · exact Nat.zero_le _
    · exact Nat.succ_le_succ (entsT_len f _)
theorem msgT_len (st : St) : (msgT st).1.ents.length ≤ st.1.length := Nat.le_trans (entsT_len _ _) (Nat.le_trans (nextT_le _) (numsT_le _ _))
theorem nextT_sz {K : Nat} {st : St} (h : ∀ s ∈ st.1, s.size ≤ K) : (nextT st).1.size ≤ K ∧ ∀ s ∈ (nextT st).2.1, s.size ≤ K := by
  refine ⟨?_, fun s hs => h s (nextT_mem hs)⟩
  rcases nextT_head st with h1 | h1
  · exact h _ h1
  · rw [h1]; exact Nat.zero_le _
theorem msgT_dat {K : Nat} {st : St} (h : ∀ s ∈ st.1, s.size ≤ K) : (msgT st).1.dat.size ≤ K := (nextT_sz (fun s hs => h s (numsT_mem 11 hs))).1
end Lec
