/- Endings of a list and their kinds: plain. No program stands here. -/
set_option linter.unusedVariables false
set_option linter.unusedSimpArgs false
namespace Lec.Sa

/-- The symbol at i (0 beyond). -/
def sy (s : List Nat) (i : Nat) : Nat := s.getD i 0
/-- Is the ending at i below the one behind it? -/
def sm (s : List Nat) (i : Nat) : Bool := decide (s.drop i < s.drop (i + 1))

theorem drop_eq (s : List Nat) (i : Nat) (h : i < s.length) : s.drop i = sy s i :: s.drop (i + 1) := by
  rw [List.drop_eq_getElem_cons h]
  simp [sy, List.getD_eq_getElem?_getD, h]

theorem lt_step (s : List Nat) (i j : Nat) (hi : i < s.length) (hj : j < s.length) :
    s.drop i < s.drop j ↔ sy s i < sy s j ∨ sy s i = sy s j ∧ s.drop (i + 1) < s.drop (j + 1) := by
  rw [drop_eq s i hi, drop_eq s j hj, List.cons_lt_cons_iff]

theorem lt_nil (l : List Nat) : ¬ l < [] := List.not_lt_nil l

theorem drop_end (s : List Nat) (i : Nat) (h : s.length ≤ i) : s.drop i = [] := List.drop_eq_nil_of_le h

theorem end_lt (s : List Nat) (i j : Nat) (hi : s.length ≤ i) (hj : j < s.length) : s.drop i < s.drop j := by
  rw [drop_end s i hi, drop_eq s j hj]; exact List.nil_lt_cons _ _

theorem sm_last (s : List Nat) (i : Nat) (h : s.length ≤ i + 1) : sm s i = false := by
  unfold sm
  rw [drop_end s (i + 1) h, decide_eq_false_iff_not]
  exact lt_nil _

theorem sm_step (s : List Nat) (i : Nat) (h : i + 1 < s.length) : sm s i = (decide (sy s i < sy s (i + 1)) || (sy s i == sy s (i + 1) && sm s (i + 1))) := by
  unfold sm
  rw [Bool.eq_iff_iff]
  simp only [decide_eq_true_eq, Bool.or_eq_true, Bool.and_eq_true, beq_iff_eq]
  exact lt_step s i (i + 1) (by omega) h

theorem sm_lt (s : List Nat) (i : Nat) (h : i + 1 < s.length) (hs : sm s i = true) : sy s i < sy s (i + 1) ∨ sy s i = sy s (i + 1) ∧ sm s (i + 1) = true := by
  rw [sm_step s i h] at hs
  simpa using hs

theorem la_ge (s : List Nat) (i : Nat) (h : i + 1 < s.length) (hs : sm s i = false) : sy s (i + 1) < sy s i ∨ sy s i = sy s (i + 1) ∧ sm s (i + 1) = false := by
  rw [sm_step s i h] at hs
  simp only [Bool.or_eq_false_iff, decide_eq_false_iff_not, Bool.and_eq_false_iff, beq_eq_false_iff_ne] at hs
  rcases Nat.lt_trichotomy (sy s i) (sy s (i + 1)) with h1 | h1 | h1
  · exact absurd h1 hs.1
  · rcases hs.2 with h2 | h2
    · exact absurd h1 h2
    · exact .inr ⟨h1, h2⟩
  · exact .inl h1

theorem kinds_lt (c : Nat) : ∀ (A B : List Nat), ¬ (c :: A < A) → c :: B < B → A < B
  | A, [], _, hB => absurd hB (lt_nil _)
  | [], b :: B, _, _ => List.nil_lt_cons _ _
  | a :: A, b :: B, hA, hB => by
    rw [List.cons_lt_cons_iff] at hA hB ⊢
    rw [not_or, Classical.not_and_iff_not_or_not] at hA
    rcases hB with hB | ⟨rfl, hB⟩
    · omega
    · by_cases h : a = c
      · subst h
        rcases hA.2 with h1 | h1
        · exact absurd rfl h1
        · exact .inr ⟨rfl, kinds_lt a A B h1 hB⟩
      · left; omega

/-- Of two endings with one symbol the larger kind comes first. -/
theorem kinds (s : List Nat) (i j : Nat) (hi : i < s.length) (hj : j < s.length) (he : sy s i = sy s j) (h1 : sm s i = false) (h2 : sm s j = true) : s.drop i < s.drop j := by
  rw [lt_step s i j hi hj]
  refine .inr ⟨he, ?_⟩
  unfold sm at h1 h2
  rw [decide_eq_false_iff_not] at h1
  rw [decide_eq_true_eq] at h2
  rw [drop_eq s i hi] at h1
  rw [drop_eq s j hj, ← he] at h2
  exact kinds_lt (sy s i) _ _ h1 h2

theorem ne_drop (s : List Nat) (i j : Nat) (hi : i < s.length) (h : i < j) : s.drop i ≠ s.drop j := by
  intro e
  have := congrArg List.length e
  simp at this; omega

theorem lt_or (s : List Nat) (i j : Nat) (hi : i < s.length) (hj : j < s.length) (h : i ≠ j) : s.drop i < s.drop j ∨ s.drop j < s.drop i := by
  rcases Nat.lt_trichotomy i j with h1 | h1 | h1
  · have := ne_drop s i j hi h1
    rcases Decidable.em (s.drop i < s.drop j) with h | h
    · exact .inl h
    · rcases Decidable.em (s.drop j < s.drop i) with h' | h'
      · exact .inr h'
      · exact absurd (List.le_antisymm (List.not_lt.1 h') (List.not_lt.1 h)) this
  · exact absurd h1 h
  · have := ne_drop s j i hj h1
    rcases Decidable.em (s.drop i < s.drop j) with h | h
    · exact .inl h
    · rcases Decidable.em (s.drop j < s.drop i) with h' | h'
      · exact .inr h'
      · exact absurd (List.le_antisymm (List.not_lt.1 h) (List.not_lt.1 h')) this

/-! Counting. -/
theorem nodup_len {l m : List Nat} (hn : l.Nodup) (hs : ∀ x ∈ l, x ∈ m) : l.length ≤ m.length := by
  induction l generalizing m with
  | nil => simp
  | cons x l ih =>
    rw [List.nodup_cons] at hn
    have hx : x ∈ m := hs x (by simp)
    have h := ih (m := m.erase x) hn.2 (fun y hy => (List.mem_erase_of_ne (fun e => hn.1 (by rw [← e]; exact hy))).2 (hs y (by simp [hy])))
    rw [List.length_erase_of_mem hx] at h
    have := List.length_pos_of_mem hx
    simp; omega

theorem nodup_all {l m : List Nat} (hn : l.Nodup) (hs : ∀ x ∈ l, x ∈ m) (hl : m.length ≤ l.length) : ∀ x ∈ m, x ∈ l := by
  intro x hx
  by_cases h : x ∈ l
  · exact h
  · have := nodup_len (l := x :: l) (m := m) (List.nodup_cons.2 ⟨h, hn⟩) (fun y hy => by
      rcases List.mem_cons.1 hy with rfl | hy
      · exact hx
      · exact hs y hy)
    rw [List.length_cons] at this; omega

/-- How many of the first n there are. -/
def cnt (n : Nat) (p : Nat → Bool) : Nat := ((List.range n).filter p).length

theorem cnt_succ (n : Nat) (p : Nat → Bool) : cnt (n + 1) p = cnt n p + (p n).toNat := by
  unfold cnt
  rw [List.range_succ, List.filter_append, List.length_append]
  cases h : p n <;> simp [List.filter_cons, h]

theorem cnt_zero (p : Nat → Bool) : cnt 0 p = 0 := rfl
theorem cnt_le (n : Nat) (p : Nat → Bool) : cnt n p ≤ n := by
  induction n with
  | zero => simp [cnt]
  | succ n ih => rw [cnt_succ]; have : (p n).toNat ≤ 1 := Bool.toNat_le _; omega
theorem cnt_add (n : Nat) (p q r : Nat → Bool) (h : ∀ i, i < n → (r i).toNat = (p i).toNat + (q i).toNat) : cnt n r = cnt n p + cnt n q := by
  induction n with
  | zero => rfl
  | succ n ih => rw [cnt_succ, cnt_succ, cnt_succ, ih (fun i hi => h i (by omega)), h n (by omega)]; omega
theorem cnt_congr (n : Nat) (p q : Nat → Bool) (h : ∀ i, i < n → p i = q i) : cnt n p = cnt n q := by
  induction n with
  | zero => rfl
  | succ n ih => rw [cnt_succ, cnt_succ, ih (fun i hi => h i (by omega)), h n (by omega)]
theorem cnt_all (n : Nat) (p : Nat → Bool) (h : ∀ i, i < n → p i = true) : cnt n p = n := by
  induction n with
  | zero => rfl
  | succ n ih => rw [cnt_succ, ih (fun i hi => h i (by omega)), h n (by omega)]; rfl
theorem cnt_none (n : Nat) (p : Nat → Bool) (h : ∀ i, i < n → p i = false) : cnt n p = 0 := by
  induction n with
  | zero => rfl
  | succ n ih => rw [cnt_succ, ih (fun i hi => h i (by omega)), h n (by omega)]; rfl

/-- Different ones that are so are no more than there are. -/
theorem cnt_room {n : Nat} {p : Nat → Bool} {l : List Nat} (hn : l.Nodup) (h : ∀ x ∈ l, x < n ∧ p x = true) : l.length ≤ cnt n p :=
  nodup_len hn (fun x hx => List.mem_filter.2 ⟨List.mem_range.2 (h x hx).1, (h x hx).2⟩)
/-- As many different ones as there are are all. -/
theorem cnt_full {n : Nat} {p : Nat → Bool} {l : List Nat} (hn : l.Nodup) (h : ∀ x ∈ l, x < n ∧ p x = true) (hl : cnt n p ≤ l.length) : ∀ x, x < n → p x = true → x ∈ l :=
  fun x hx hp => nodup_all hn (fun x hx => List.mem_filter.2 ⟨List.mem_range.2 (h x hx).1, (h x hx).2⟩) hl x (List.mem_filter.2 ⟨List.mem_range.2 hx, hp⟩)
/-- A list that has all is no shorter. -/
theorem cnt_cover {n : Nat} {p : Nat → Bool} {l : List Nat} (h : ∀ x, x < n → p x = true → x ∈ l) : cnt n p ≤ l.length :=
  nodup_len (List.nodup_range.filter _) (fun x hx => by
    rw [List.mem_filter, List.mem_range] at hx
    exact h x hx.1 hx.2)

/-! Where symbols begin. -/
def lo (s : List Nat) (c : Nat) : Nat := cnt s.length (fun i => decide (sy s i < c))
def nl (s : List Nat) (c : Nat) : Nat := cnt s.length (fun i => sy s i == c && !sm s i)
def ns (s : List Nat) (c : Nat) : Nat := cnt s.length (fun i => sy s i == c && sm s i)
def mid (s : List Nat) (c : Nat) : Nat := lo s c + nl s c

theorem lo_zero (s : List Nat) : lo s 0 = 0 := cnt_none _ _ (fun i _ => by simp)
theorem lo_succ (s : List Nat) (c : Nat) : lo s (c + 1) = mid s c + ns s c := by
  have h1 : lo s (c + 1) = lo s c + cnt s.length (fun i => sy s i == c) := by
    refine cnt_add _ _ _ _ (fun i _ => ?_)
    rcases Nat.lt_trichotomy (sy s i) c with h | h | h
    · rw [decide_eq_true (by omega), decide_eq_true h, beq_eq_false_iff_ne.2 (by omega)]; rfl
    · rw [decide_eq_true (by omega), decide_eq_false (by omega), beq_iff_eq.2 h]; rfl
    · rw [decide_eq_false (by omega), decide_eq_false (by omega), beq_eq_false_iff_ne.2 (by omega)]; rfl
  have h2 : cnt s.length (fun i => sy s i == c) = nl s c + ns s c := by
    refine cnt_add _ _ _ _ (fun i _ => ?_)
    cases h : (sy s i == c) <;> cases h' : sm s i <;> simp [h, h']
  unfold mid; omega
theorem mid_le (s : List Nat) (c : Nat) : mid s c ≤ lo s (c + 1) := by rw [lo_succ]; omega
theorem lo_le_mid (s : List Nat) (c : Nat) : lo s c ≤ mid s c := by unfold mid; omega
theorem lo_mono (s : List Nat) {c d : Nat} (h : c ≤ d) : lo s c ≤ lo s d := by
  induction d with
  | zero => obtain rfl : c = 0 := by omega
            exact Nat.le_refl _
  | succ d ih =>
    by_cases e : c = d + 1
    · subst e; exact Nat.le_refl _
    · exact Nat.le_trans (ih (by omega)) (Nat.le_trans (lo_le_mid s d) (mid_le s d))
theorem lo_all (s : List Nat) (K : Nat) (h : ∀ i, i < s.length → sy s i < K) : lo s K = s.length := cnt_all _ _ (fun i hi => by simpa using h i hi)
theorem lo_le (s : List Nat) (c : Nat) : lo s c ≤ s.length := cnt_le _ _
/-- Each place belongs to a symbol. -/
theorem place (s : List Nat) (p : Nat) : ∀ (K : Nat), p < lo s K → ∃ c, c < K ∧ lo s c ≤ p ∧ p < lo s (c + 1)
  | 0, h => by rw [lo_zero] at h; omega
  | K + 1, h => by
    by_cases h1 : p < lo s K
    · obtain ⟨c, a, b⟩ := place s p K h1
      exact ⟨c, by omega, b⟩
    · exact ⟨K, by omega, by omega, h⟩
theorem place_one (s : List Nat) {p c d : Nat} (h1 : lo s c ≤ p) (h2 : p < lo s (c + 1)) (h3 : lo s d ≤ p) (h4 : p < lo s (d + 1)) : c = d := by
  rcases Nat.lt_trichotomy c d with h | h | h
  · have := lo_mono s (show c + 1 ≤ d by omega); omega
  · exact h
  · have := lo_mono s (show d + 1 ≤ c by omega); omega

/-- Values at places in a row. -/
theorem vals {a : List Int} (lo' : Nat) : ∀ (m : Nat) (_ : ∀ j, j < m → ∃ v : Nat, a[lo' + j]? = some (v : Int)), ∃ l : List Nat, l.length = m ∧ (∀ j, j < m → ∃ v, l[j]? = some v ∧ a[lo' + j]? = some (v : Int))
  | 0, _ => ⟨[], rfl, fun j hj => by omega⟩
  | m + 1, h => by
    obtain ⟨l, h1, h2⟩ := vals lo' m (fun j hj => h j (by omega))
    obtain ⟨v, hv⟩ := h m (by omega)
    refine ⟨l ++ [v], by simp [h1], fun j hj => ?_⟩
    by_cases e : j = m
    · subst e; exact ⟨v, by rw [List.getElem?_append_right (by omega)]; simp [h1], hv⟩
    · obtain ⟨u, hu, hu2⟩ := h2 j (by omega)
      exact ⟨u, by rw [List.getElem?_append_left (by omega)]; exact hu, hu2⟩
/-- Those of places that hold different ones. -/
theorem vals_nodup {a : List Int} {l : List Nat} {lo' m : Nat} (h1 : l.length = m) (h2 : ∀ j, j < m → ∃ v, l[j]? = some v ∧ a[lo' + j]? = some (v : Int))
    (hd : ∀ j k (v : Nat), j < m → k < m → a[lo' + j]? = some (v : Int) → a[lo' + k]? = some (v : Int) → j = k) : l.Nodup := by
  rw [List.nodup_iff_pairwise_ne, List.pairwise_iff_getElem]
  intro i j hi hj hij e
  obtain ⟨v, hv, hva⟩ := h2 i (by omega)
  obtain ⟨u, hu, hua⟩ := h2 j (by omega)
  rw [List.getElem?_eq_getElem hi] at hv
  rw [List.getElem?_eq_getElem hj] at hu
  injection hv with hv; injection hu with hu
  have : v = u := by rw [← hv, ← hu, e]
  subst this
  have := hd i j v (by omega) (by omega) hva hua
  omega
theorem vals_mem {a : List Int} {l : List Nat} {lo' m : Nat} (h1 : l.length = m) (h2 : ∀ j, j < m → ∃ v, l[j]? = some v ∧ a[lo' + j]? = some (v : Int)) {x : Nat} (hx : x ∈ l) : ∃ j, j < m ∧ a[lo' + j]? = some (x : Int) := by
  obtain ⟨j, hj, e⟩ := List.mem_iff_getElem.1 hx
  obtain ⟨v, hv, hva⟩ := h2 j (by omega)
  rw [List.getElem?_eq_getElem hj] at hv
  injection hv with hv
  exact ⟨j, by omega, by rw [hva, ← hv, e]⟩
end Lec.Sa
