/- Texts as bytes, read back: the plain laws. No program stands here. -/
import Derived.Test.YtdbpgcaoakoojaaWirePut
import Derived.Test.YtdbpgcaoakoojaaReader
set_option linter.unusedVariables false
set_option linter.unusedSimpArgs false
namespace Lec
theorem sb_bytesOf (x : List UInt8) : sb (bytesOf x) = x := rfl
theorem bytesOf_sb (s : ByteArray) : bytesOf (sb s) = s := by cases s; simp [bytesOf, sb]
theorem bytesOf_size (x : List UInt8) : (bytesOf x).size = x.length := by rw [← sb_len, sb_bytesOf]
theorem numG_numB {n : Nat} (hn : n < 9223372036854775808) (rest : List UInt8) : numG (numB n ++ rest) = if n ≤ rest.length then some (n, rest) else none := by
  unfold numG
  rw [getB_numB n 0 0 rest (by have := numB_len9 hn; omega) (by omega)]
  simp
theorem numG_split {bs r : List UInt8} {n : Nat} (h : numG bs = some (n, r)) : bs = numB n ++ r := by
  unfold numG at h
  cases hg : getB 0 0 bs with
  | none => rw [hg] at h; cases h
  | some x =>
    obtain ⟨m, k⟩ := x
    rw [hg] at h
    by_cases hle : m ≤ bs.length - k
    · simp only [hle, if_true] at h
      obtain ⟨rfl, rfl⟩ := h
      have := (numB_getB bs 0 0 _ _ (by omega) (by omega) hg).1
      simp at this
      rw [this, List.take_append_drop]
    · simp [hle] at h
theorem textsG_textsB : ∀ (ss : List ByteArray) (rest : List UInt8), (∀ s ∈ ss, s.size < 9223372036854775808) → textsG ss.length (textsB ss ++ rest) = some (ss, rest)
  | [], rest, _ => rfl
  | s :: ss, rest, h => by
    have e : textsB (s :: ss) ++ rest = numB s.size ++ (sb s ++ (textsB ss ++ rest)) := by simp [textsB, textB]
    have hg : numG (numB s.size ++ (sb s ++ (textsB ss ++ rest))) = some (s.size, sb s ++ (textsB ss ++ rest)) := by
      rw [numG_numB (h s (by simp)), if_pos (by rw [List.length_append, sb_len]; omega)]
    rw [e, List.length_cons]
    unfold textsG
    rw [hg]
    have hd : (sb s ++ (textsB ss ++ rest)).drop s.size = textsB ss ++ rest := by rw [← sb_len, List.drop_left]
    have ht : (sb s ++ (textsB ss ++ rest)).take s.size = sb s := by rw [← sb_len, List.take_left]
    have := textsG_textsB ss rest (fun x hx => h x (by simp [hx]))
    show (match textsG ss.length ((sb s ++ (textsB ss ++ rest)).drop s.size) with | none => none | some (l, r2) => some (bytesOf ((sb s ++ (textsB ss ++ rest)).take s.size) :: l, r2)) = _
    rw [hd, ht, this, bytesOf_sb]
theorem textsG_split : ∀ (n : Nat) (r : List UInt8) (l : List ByteArray) (r2 : List UInt8), textsG n r = some (l, r2) → r = textsB l ++ r2 ∧ l.length = n
  | 0, r, l, r2, h => by
    unfold textsG at h
    obtain ⟨rfl, rfl⟩ := Prod.mk.injEq .. ▸ Option.some.inj h
    exact ⟨rfl, rfl⟩
  | n + 1, r, l, r2, h => by
    unfold textsG at h
    cases hg : numG r with
    | none => rw [hg] at h; cases h
    | some x =>
      obtain ⟨m, r1⟩ := x
      rw [hg] at h
      have h' : (match textsG n (r1.drop m) with | none => none | some (l, r2) => some (bytesOf (r1.take m) :: l, r2)) = some (l, r2) := h
      cases ht : textsG n (r1.drop m) with
      | none => rw [ht] at h'; cases h'
      | some y =>
        obtain ⟨l', r'⟩ := y
        rw [ht] at h'
        have h2 := Option.some.inj h'
        obtain ⟨rfl, rfl⟩ := Prod.mk.injEq .. ▸ h2
        obtain ⟨e, hl⟩ := textsG_split n _ _ _ ht
        have hm := (numG_len hg).1
        refine ⟨?_, by rw [List.length_cons, hl]⟩
        have hs : (bytesOf (r1.take m)).size = m := by rw [bytesOf_size, List.length_take]; omega
        have e2 : textsB (bytesOf (r1.take m) :: l') ++ r' = numB m ++ (r1.take m ++ (textsB l' ++ r')) := by
          simp only [textsB, List.flatMap_cons, textB, hs, sb_bytesOf, List.append_assoc]
        rw [e2, ← e, List.take_append_drop]; exact numG_split hg
theorem textB_pos (s : ByteArray) : 0 < (textB s).length := by
  have := List.length_pos_iff.2 (numB_ne s.size); rw [textB_len]; omega
theorem textsB_len_lo : ∀ ss : List ByteArray, ss.length ≤ (textsB ss).length
  | [] => by simp
  | s :: ss => by
    have := textsB_len_lo ss
    have h := textB_pos s
    have e : textsB (s :: ss) = textB s ++ textsB ss := by simp [textsB]
    rw [e, List.length_append, List.length_cons]; omega
/-- Small: their numbers are numbers. -/
def fits (L : List ByteArray) : Prop := L.length < 9223372036854775808 ∧ ∀ s ∈ L, s.size < 9223372036854775808
theorem getL_more {L : List ByteArray} (h : fits L) (rest : List UInt8) (hb : (putB L ++ rest).length ≤ 1048576) : getL (putB L ++ rest) = if rest = [] then some L else none := by
  unfold getL
  rw [if_neg (by omega)]
  have e : putB L ++ rest = numB L.length ++ (textsB L ++ rest) := by unfold putB; rw [List.append_assoc]
  have hl := textsB_len_lo L
  rw [e, numG_numB h.1, if_pos (by rw [List.length_append]; omega)]
  show finG L.length [] (textsB L ++ rest) = _
  unfold finG
  rw [textsG_textsB L rest h.2]
  cases rest <;> simp
theorem getL_put {L : List ByteArray} (h : fits L) (hb : (putB L).length ≤ 1048576) : getL (putB L) = some L := by
  have := getL_more h [] (by simpa using hb)
  simpa using this
theorem getL_behind {L : List ByteArray} (h : fits L) (hb : (putB L).length + 1 ≤ 1048576) : getL (putB L ++ [0]) = none := by
  have := getL_more h [0] (by simpa using hb)
  simpa using this
theorem getL_split {bs : List UInt8} {l : List ByteArray} (h : getL bs = some l) : bs = putB l := by
  unfold getL at h
  by_cases hb : 1048576 < bs.length
  · rw [if_pos hb] at h; cases h
  · rw [if_neg hb] at h
    cases hg : numG bs with
    | none => rw [hg] at h; cases h
    | some x =>
      obtain ⟨n, r⟩ := x
      rw [hg] at h
      have h' : finG n [] r = some l := h
      unfold finG at h'
      cases ht : textsG n r with
      | none => rw [ht] at h'; cases h'
      | some y =>
        obtain ⟨l', r'⟩ := y
        rw [ht] at h'
        cases r' with
        | cons a b => cases h'
        | nil =>
          obtain rfl : l' = l := by simpa using h'
          obtain ⟨e, hl⟩ := textsG_split n _ _ _ ht
          rw [numG_split hg, e, ← hl]; simp [putB]
theorem getL_len {bs : List UInt8} {l : List ByteArray} (h : getL bs = some l) : bs.length ≤ 1048576 := by
  unfold getL at h
  by_cases hb : 1048576 < bs.length
  · rw [if_pos hb] at h; cases h
  · omega
theorem lens_le (l : List ByteArray) : l.length ≤ (putB l).length ∧ ∀ s ∈ l, s.size ≤ (putB l).length := by
  have h1 := textsB_len_lo l
  have h2 : (putB l).length = (numB l.length).length + (textsB l).length := by unfold putB; rw [List.length_append]
  refine ⟨by omega, fun s hs => ?_⟩
  have : (textB s).length ≤ (textsB l).length := by
    clear h1 h2
    induction l with
    | nil => cases hs
    | cons x l ih =>
      have e : textsB (x :: l) = textB x ++ textsB l := by simp [textsB]
      rw [e, List.length_append]
      rcases List.mem_cons.1 hs with rfl | hs
      · omega
      · have := ih hs; omega
  have h3 := textB_len s
  omega
theorem fits_of_len {l : List ByteArray} (h : (putB l).length < 9223372036854775808) : fits l := by
  have h1 := textsB_len_lo l
  have h2 : (putB l).length = (numB l.length).length + (textsB l).length := by unfold putB; rw [List.length_append]
  refine ⟨by omega, fun s hs => ?_⟩
  have : (textB s).length ≤ (textsB l).length := by
    clear h1 h2 h
    induction l with
    | nil => cases hs
    | cons x l ih =>
      have e : textsB (x :: l) = textB x ++ textsB l := by simp [textsB]
      rw [e, List.length_append]
      rcases List.mem_cons.1 hs with rfl | hs
      · omega
      · have := ih hs; omega
  have h3 := textB_len s
  omega
/-- No beginning is texts' bytes. -/
theorem getL_cut {L : List ByteArray} (h : fits L) (hb : (putB L).length ≤ 1048576) (k : Nat) (hk : k < (putB L).length) : getL ((putB L).take k) = none := by
  cases hg : getL ((putB L).take k) with
  | none => rfl
  | some l =>
    exfalso
    have e := getL_split hg
    have hlt : (putB l).length = k := by rw [← e, List.length_take]; omega
    have hf : fits l := fits_of_len (by omega)
    have hd : putB l ++ (putB L).drop k = putB L := by rw [← e, List.take_append_drop]
    have h1 := getL_more hf ((putB L).drop k) (by rw [hd]; exact hb)
    rw [hd, getL_put h hb, if_neg (by intro e; have := congrArg List.length e; rw [List.length_drop] at this; simp at this; omega)] at h1
    cases h1
end Lec
