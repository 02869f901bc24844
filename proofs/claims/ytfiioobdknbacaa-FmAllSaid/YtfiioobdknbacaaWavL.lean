/- A wavelet tree's levels, plain: stable parts by a bit; where a place goes. No program stands here. -/
set_option linter.unusedVariables false
set_option linter.unusedSimpArgs false
namespace Lec.Wv
/-- A list, those without the bit ahead of those with it. -/
def part (f : Nat → Bool) (l : List Nat) : List Nat := l.filter (fun c => !f c) ++ l.filter f
def nought (f : Nat → Bool) (l : List Nat) : Nat := (l.filter (fun c => !f c)).length
def ones (f : Nat → Bool) (l : List Nat) (i : Nat) : Nat := ((l.take i).filter f).length
def down (f : Nat → Bool) (l : List Nat) (b : Bool) (i : Nat) : Nat := if b then nought f l + ones f l i else i - ones f l i
theorem filter_two (f : Nat → Bool) : ∀ l : List Nat, (l.filter (fun c => !f c)).length + (l.filter f).length = l.length
  | [] => rfl
  | c :: l => by
    have := filter_two f l
    cases h : f c <;> simp [h] <;> omega
theorem part_len (f : Nat → Bool) (l : List Nat) : (part f l).length = l.length := by unfold part; rw [List.length_append]; exact filter_two f l
theorem part_mem (f : Nat → Bool) (l : List Nat) (c : Nat) : c ∈ part f l ↔ c ∈ l := by
  unfold part
  rw [List.mem_append, List.mem_filter, List.mem_filter]
  constructor
  · rintro (h | h) <;> exact h.1
  · intro h
    cases hc : f c
    · exact .inl ⟨h, rfl⟩
    · exact .inr ⟨h, rfl⟩
theorem down_false {f : Nat → Bool} {l : List Nat} {i : Nat} (hi : i ≤ l.length) : down f l false i = ((l.take i).filter (fun c => !f c)).length := by
  unfold down ones
  have := filter_two f (l.take i)
  rw [List.length_take] at this
  simp
  omega
theorem down_true (f : Nat → Bool) (l : List Nat) (i : Nat) : down f l true i = nought f l + ((l.take i).filter f).length := rfl
theorem down_le {f : Nat → Bool} {l : List Nat} {b : Bool} {i : Nat} (hi : i ≤ l.length) : down f l b i ≤ l.length := by
  have h2 := filter_two f l
  have hsub : ∀ g : Nat → Bool, ((l.take i).filter g).length ≤ (l.filter g).length := fun g => ((List.take_sublist i l).filter g).length_le
  cases b
  · rw [down_false hi]; have := hsub (fun c => !f c); omega
  · rw [down_true]; have := hsub f; unfold nought; omega
theorem down_mono {f : Nat → Bool} {l : List Nat} {b : Bool} {i j : Nat} (h : i ≤ j) (hj : j ≤ l.length) : down f l b i ≤ down f l b j := by
  have hsub : ∀ g : Nat → Bool, ((l.take i).filter g).length ≤ ((l.take j).filter g).length := fun g => by
    have : l.take i = (l.take j).take i := by rw [List.take_take, Nat.min_eq_left h]
    rw [this]; exact ((List.take_sublist i _).filter g).length_le
  cases b
  · rw [down_false (Nat.le_trans h hj), down_false hj]; exact hsub _
  · rw [down_true, down_true]; exact Nat.add_le_add_left (hsub f) _
/-- The first i, sifted, are the first of the sifted. -/
theorem take_filter (g : Nat → Bool) (l : List Nat) (i : Nat) : (l.filter g).take ((l.take i).filter g).length = (l.take i).filter g := by
  have h : l.filter g = (l.take i).filter g ++ (l.drop i).filter g := by rw [← List.filter_append, List.take_append_drop]
  rw [h, List.take_left']
  rfl
theorem drop_filter (g : Nat → Bool) (l : List Nat) (i : Nat) : (l.filter g).drop ((l.take i).filter g).length = (l.drop i).filter g := by
  have h : l.filter g = (l.take i).filter g ++ (l.drop i).filter g := by rw [← List.filter_append, List.take_append_drop]
  rw [h, List.drop_left']
  rfl
/-- The first ones with this bit, one level below: up to where a place goes, behind where 0 goes. -/
theorem down_zero (f : Nat → Bool) (l : List Nat) (b : Bool) : down f l b 0 = if b then nought f l else 0 := by cases b <;> simp [down, ones]
/-- What lies between two places goes to what lies between where they go. -/
theorem down_seg {f : Nat → Bool} {l : List Nat} {b : Bool} {lo hi : Nat} (h : lo ≤ hi) (hh : hi ≤ l.length) :
    ((part f l).take (down f l b hi)).drop (down f l b lo) = ((l.take hi).drop lo).filter (fun c => f c == b) := by
  have key : ∀ g : Nat → Bool, ((l.filter g).take ((l.take hi).filter g).length).drop ((l.take lo).filter g).length = ((l.take hi).drop lo).filter g := fun g => by
    rw [take_filter]
    have : l.take lo = (l.take hi).take lo := by rw [List.take_take, Nat.min_eq_left h]
    rw [this, drop_filter]
  cases b
  · rw [down_false (Nat.le_trans h hh), down_false hh]
    unfold part
    rw [List.take_append_of_le_length (by exact ((List.take_sublist hi l).filter _).length_le)]
    rw [key (fun c => !f c)]
    congr 1
    funext c
    cases f c <;> rfl
  · rw [down_true, down_true]
    unfold part nought
    rw [List.take_length_add_append, List.drop_length_add_append, key f]
    congr 1
    funext c
    cases f c <;> rfl
/-- A symbol goes where its bit sends its place. -/
theorem down_at {f : Nat → Bool} {l : List Nat} {i c : Nat} (h : l[i]? = some c) : (part f l)[down f l (f c) i]? = some c := by
  have hi : i < l.length := (List.getElem?_eq_some_iff.1 h).1
  have key : ∀ g : Nat → Bool, g c = true → (l.filter g)[((l.take i).filter g).length]? = some c := fun g hg => by
    have hs : l.filter g = (l.take i).filter g ++ (l.drop i).filter g := by rw [← List.filter_append, List.take_append_drop]
    have hd : l.drop i = c :: l.drop (i + 1) := by
      rw [List.drop_eq_getElem_cons hi]
      have := (List.getElem?_eq_some_iff.1 h).2
      rw [this]
    rw [hs, List.getElem?_append_right (Nat.le_refl _), Nat.sub_self, hd, List.filter_cons, if_pos hg]
    rfl
  cases hb : f c
  · rw [down_false (Nat.le_of_lt hi)]
    unfold part
    have := key (fun c => !f c) (by simp [hb])
    rw [List.getElem?_append_left (List.getElem?_eq_some_iff.1 this).1]
    exact this
  · rw [down_true]
    unfold part nought
    rw [List.getElem?_append_right (by omega), Nat.add_sub_cancel_left]
    exact key f hb
/-- The levels of a list, by these bits, the first one first. -/
def lv (fs : Nat → Nat → Bool) (L : List Nat) : Nat → List Nat
  | 0 => L
  | d + 1 => part (fs d) (lv fs L d)
theorem lv_len (fs : Nat → Nat → Bool) (L : List Nat) : ∀ d, (lv fs L d).length = L.length
  | 0 => rfl
  | d + 1 => by rw [lv, part_len, lv_len fs L d]
theorem lv_mem (fs : Nat → Nat → Bool) (L : List Nat) (c : Nat) : ∀ d, c ∈ lv fs L d ↔ c ∈ L
  | 0 => Iff.rfl
  | d + 1 => by rw [lv, part_mem, lv_mem fs L c d]
/-- Where a place goes, d levels below, on a symbol's way. -/
def pos (fs : Nat → Nat → Bool) (L : List Nat) (c : Nat) : Nat → Nat → Nat
  | 0, i => i
  | d + 1, i => down (fs d) (lv fs L d) (fs d c) (pos fs L c d i)
theorem pos_le {fs : Nat → Nat → Bool} {L : List Nat} {c i : Nat} (hi : i ≤ L.length) : ∀ d, pos fs L c d i ≤ L.length
  | 0 => hi
  | d + 1 => by rw [pos]; have := down_le (f := fs d) (l := lv fs L d) (b := fs d c) (i := pos fs L c d i) (by rw [lv_len]; exact pos_le hi d); rwa [lv_len] at this
theorem pos_mono {fs : Nat → Nat → Bool} {L : List Nat} {c i j : Nat} (h : i ≤ j) (hj : j ≤ L.length) : ∀ d, pos fs L c d i ≤ pos fs L c d j
  | 0 => h
  | d + 1 => by rw [pos, pos]; exact down_mono (pos_mono h hj d) (by rw [lv_len]; exact pos_le hj d)
/-- Do two symbols agree in the first d bits? -/
def agree (fs : Nat → Nat → Bool) (c : Nat) : Nat → Nat → Bool
  | 0, _ => true
  | d + 1, x => agree fs c d x && (fs d x == fs d c)
theorem pos_seg {fs : Nat → Nat → Bool} {L : List Nat} {c i : Nat} (hi : i ≤ L.length) : ∀ d, ((lv fs L d).take (pos fs L c d i)).drop (pos fs L c d 0) = (L.take i).filter (agree fs c d)
  | 0 => by simp [pos, lv, agree]; exact (List.filter_eq_self.2 (by simp)).symm
  | d + 1 => by
    rw [lv, pos, pos, down_seg (pos_mono (Nat.zero_le i) hi d) (by rw [lv_len]; exact pos_le hi d), pos_seg hi d, List.filter_filter]
    congr 1
    funext x
    show _ = agree fs c (d + 1) x
    rw [agree, Bool.and_comm]
/-- Rank. -/
theorem pos_rank {fs : Nat → Nat → Bool} {L : List Nat} {c i D : Nat} (hi : i ≤ L.length) (hag : ∀ x ∈ L, agree fs c D x = (x == c)) : pos fs L c D i - pos fs L c D 0 = ((L.take i).filter (· == c)).length := by
  have h := congrArg List.length (pos_seg (fs := fs) (c := c) hi D)
  rw [List.length_drop, List.length_take, lv_len, Nat.min_eq_left (pos_le hi D)] at h
  rw [h]
  congr 1
  exact List.filter_congr (fun x hx => hag x (List.mem_of_mem_take hx))
/-- A symbol's place stays the symbol's. -/
theorem pos_at {fs : Nat → Nat → Bool} {L : List Nat} {c i : Nat} (h : L[i]? = some c) : ∀ d, (lv fs L d)[pos fs L c d i]? = some c
  | 0 => h
  | d + 1 => by rw [lv, pos]; exact down_at (pos_at h d)
/-- The bits of a symbol below 2^D, the highest first. -/
def bitD (D d c : Nat) : Bool := c / 2 ^ (D - 1 - d) % 2 == 1
/-- A symbol's first d bits, as a number. -/
theorem bit_step {D d c : Nat} (h : d < D) : c / 2 ^ (D - (d + 1)) = 2 * (c / 2 ^ (D - d)) + (if bitD D d c then 1 else 0) := by
  have e : D - d = (D - (d + 1)) + 1 := by omega
  have e2 : D - 1 - d = D - (d + 1) := by omega
  unfold bitD
  rw [e2, e, Nat.pow_succ, ← Nat.div_div_eq_div_mul]
  generalize c / 2 ^ (D - (d + 1)) = x
  by_cases h1 : x % 2 = 1
  · simp [h1]; omega
  · have : x % 2 = 0 := by omega
    simp [this]; omega
theorem agree_iff {D c x : Nat} (hc : c < 2 ^ D) (hx : x < 2 ^ D) : ∀ d, d ≤ D → (agree (bitD D) c d x = true ↔ x / 2 ^ (D - d) = c / 2 ^ (D - d))
  | 0, _ => by simp [agree, Nat.div_eq_of_lt hc, Nat.div_eq_of_lt hx]
  | d + 1, h => by
    rw [agree, Bool.and_eq_true, agree_iff hc hx d (by omega), bit_step (c := x) (by omega), bit_step (c := c) (by omega), beq_iff_eq]
    constructor
    · rintro ⟨h1, h2⟩; rw [h1, h2]
    · intro h1
      cases hb : bitD D d x <;> cases hb2 : bitD D d c <;> simp [hb, hb2] at h1 ⊢ <;> omega
theorem agree_all {D c x : Nat} (hc : c < 2 ^ D) (hx : x < 2 ^ D) : agree (bitD D) c D x = (x == c) := by
  have h := agree_iff hc hx D (Nat.le_refl _)
  simp at h
  cases ha : agree (bitD D) c D x
  · rw [ha] at h
    simp at h
    exact (beq_eq_false_iff_ne.2 h).symm
  · exact (beq_iff_eq.2 (h.1 ha)).symm
/-- Rank, of symbols below 2^D. -/
theorem rank_bits {L : List Nat} {c i D : Nat} (hi : i ≤ L.length) (hc : c < 2 ^ D) (hL : ∀ x ∈ L, x < 2 ^ D) : pos (bitD D) L c D i - pos (bitD D) L c D 0 = ((L.take i).filter (· == c)).length :=
  pos_rank hi (fun x hx => agree_all hc (hL x hx))
/-- The i-th symbol's bits, read on its way down, are the symbol's. -/
def walkC (D : Nat) (L : List Nat) : Nat → Nat → Nat × Nat
  | 0, i => (i, 0)
  | d + 1, i => let r := walkC D L d i
    let b := bitD D d (((lv (bitD D) L d)[r.1]?).getD 0)
    (down (bitD D d) (lv (bitD D) L d) b r.1, 2 * r.2 + (if b then 1 else 0))
theorem walkC_eq {D : Nat} {L : List Nat} {i c : Nat} (h : L[i]? = some c) (hc : c < 2 ^ D) : ∀ d, d ≤ D → walkC D L d i = (pos (bitD D) L c d i, c / 2 ^ (D - d))
  | 0, _ => by simp [walkC, pos, Nat.div_eq_of_lt hc]
  | d + 1, hd => by
    have ih := walkC_eq h hc d (by omega)
    unfold walkC
    rw [ih]
    dsimp only
    rw [pos_at h d]
    dsimp only [Option.getD]
    rw [pos, bit_step (by omega)]
/-- The place of the one that a bit's place came from. -/
theorem count_step {g : Nat → Bool} {l : List Nat} {i c : Nat} (h : l[i]? = some c) (hg : g c = true) : ((l.take (i + 1)).filter g).length = ((l.take i).filter g).length + 1 := by
  have hi : i < l.length := (List.getElem?_eq_some_iff.1 h).1
  rw [List.take_succ_eq_append_getElem hi, List.filter_append, List.length_append]
  have := (List.getElem?_eq_some_iff.1 h).2
  rw [this, List.filter_cons, if_pos hg]
  rfl
end Lec.Wv
