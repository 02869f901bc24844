/- The order of a list's endings by induced sorting is right: plain. No program stands here. -/
/- Endings of a list and their kinds: plain. No program stands here. -/
set_option linter.unusedVariables false
set_option linter.unusedSimpArgs false
namespace Lec.Sa

/-- The symbol at i (0 beyond). -/
def sy (s : List Nat) (i : Nat) : Nat := s.getD i 0
/-- Is the ending at i below the one behind it? -/
def sm (s : List Nat) (i : Nat) : Bool := decide (s.drop i < s.drop (i + 1))

theorem drop_eq (s : List Nat) (i : Nat) (h : i < s.length) : s.drop i = sy s i :: s.drop (i + 1) := by
  rw [List.drop_eq_getElem_cons h]
  simp [sy, List.getD_eq_getElem?_getD, h]

theorem lt_step (s : List Nat) (i j : Nat) (hi : i < s.length) (hj : j < s.length) :
    s.drop i < s.drop j ↔ sy s i < sy s j ∨ sy s i = sy s j ∧ s.drop (i + 1) < s.drop (j + 1) := by
  rw [drop_eq s i hi, drop_eq s j hj, List.cons_lt_cons_iff]

theorem lt_nil (l : List Nat) : ¬ l < [] := List.not_lt_nil l

theorem drop_end (s : List Nat) (i : Nat) (h : s.length ≤ i) : s.drop i = [] := List.drop_eq_nil_of_le h

theorem end_lt (s : List Nat) (i j : Nat) (hi : s.length ≤ i) (hj : j < s.length) : s.drop i < s.drop j := by
  rw [drop_end s i hi, drop_eq s j hj]; exact List.nil_lt_cons _ _

theorem sm_last (s : List Nat) (i : Nat) (h : s.length ≤ i + 1) : sm s i = false := by
  unfold sm
  rw [drop_end s (i + 1) h, decide_eq_false_iff_not]
  exact lt_nil _

theorem sm_step (s : List Nat) (i : Nat) (h : i + 1 < s.length) : sm s i = (decide (sy s i < sy s (i + 1)) || (sy s i == sy s (i + 1) && sm s (i + 1))) := by
  unfold sm
  rw [Bool.eq_iff_iff]
  simp only [decide_eq_true_eq, Bool.or_eq_true, Bool.and_eq_true, beq_iff_eq]
  exact lt_step s i (i + 1) (by omega) h

theorem sm_lt (s : List Nat) (i : Nat) (h : i + 1 < s.length) (hs : sm s i = true) : sy s i < sy s (i + 1) ∨ sy s i = sy s (i + 1) ∧ sm s (i + 1) = true := by
  rw [sm_step s i h] at hs
  simpa using hs

theorem la_ge (s : List Nat) (i : Nat) (h : i + 1 < s.length) (hs : sm s i = false) : sy s (i + 1) < sy s i ∨ sy s i = sy s (i + 1) ∧ sm s (i + 1) = false := by
  rw [sm_step s i h] at hs
  simp only [Bool.or_eq_false_iff, decide_eq_false_iff_not, Bool.and_eq_false_iff, beq_eq_false_iff_ne] at hs
  rcases Nat.lt_trichotomy (sy s i) (sy s (i + 1)) with h1 | h1 | h1
  · exact absurd h1 hs.1
  · rcases hs.2 with h2 | h2
    · exact absurd h1 h2
    · exact .inr ⟨h1, h2⟩
  · exact .inl h1

theorem kinds_lt (c : Nat) : ∀ (A B : List Nat), ¬ (c :: A < A) → c :: B < B → A < B
  | A, [], _, hB => absurd hB (lt_nil _)
  | [], b :: B, _, _ => List.nil_lt_cons _ _
  | a :: A, b :: B, hA, hB => by
    rw [List.cons_lt_cons_iff] at hA hB ⊢
    rw [not_or, Classical.not_and_iff_not_or_not] at hA
    rcases hB with hB | ⟨rfl, hB⟩
    · omega
    · by_cases h : a = c
      · subst h
        rcases hA.2 with h1 | h1
        · exact absurd rfl h1
        · exact .inr ⟨rfl, kinds_lt a A B h1 hB⟩
      · left; omega

/-- Of two endings with one symbol the larger kind comes first. -/
theorem kinds (s : List Nat) (i j : Nat) (hi : i < s.length) (hj : j < s.length) (he : sy s i = sy s j) (h1 : sm s i = false) (h2 : sm s j = true) : s.drop i < s.drop j := by
  rw [lt_step s i j hi hj]
  refine .inr ⟨he, ?_⟩
  unfold sm at h1 h2
  rw [decide_eq_false_iff_not] at h1
  rw [decide_eq_true_eq] at h2
  rw [drop_eq s i hi] at h1
  rw [drop_eq s j hj, ← he] at h2
  exact kinds_lt (sy s i) _ _ h1 h2

theorem ne_drop (s : List Nat) (i j : Nat) (hi : i < s.length) (h : i < j) : s.drop i ≠ s.drop j := by
  intro e
  have := congrArg List.length e
  simp at this; omega

theorem lt_or (s : List Nat) (i j : Nat) (hi : i < s.length) (hj : j < s.length) (h : i ≠ j) : s.drop i < s.drop j ∨ s.drop j < s.drop i := by
  rcases Nat.lt_trichotomy i j with h1 | h1 | h1
  · have := ne_drop s i j hi h1
    rcases Decidable.em (s.drop i < s.drop j) with h | h
    · exact .inl h
    · rcases Decidable.em (s.drop j < s.drop i) with h' | h'
      · exact .inr h'
      · exact absurd (List.le_antisymm (List.not_lt.1 h') (List.not_lt.1 h)) this
  · exact absurd h1 h
  · have := ne_drop s j i hj h1
    rcases Decidable.em (s.drop i < s.drop j) with h | h
    · exact .inl h
    · rcases Decidable.em (s.drop j < s.drop i) with h' | h'
      · exact .inr h'
      · exact absurd (List.le_antisymm (List.not_lt.1 h) (List.not_lt.1 h')) this

/-! Counting. -/
theorem nodup_len {l m : List Nat} (hn : l.Nodup) (hs : ∀ x ∈ l, x ∈ m) : l.length ≤ m.length := by
  induction l generalizing m with
  | nil => simp
  | cons x l ih =>
    rw [List.nodup_cons] at hn
    have hx : x ∈ m := hs x (by simp)
    have h := ih (m := m.erase x) hn.2 (fun y hy => (List.mem_erase_of_ne (fun e => hn.1 (by rw [← e]; exact hy))).2 (hs y (by simp [hy])))
    rw [List.length_erase_of_mem hx] at h
    have := List.length_pos_of_mem hx
    simp; omega

theorem nodup_all {l m : List Nat} (hn : l.Nodup) (hs : ∀ x ∈ l, x ∈ m) (hl : m.length ≤ l.length) : ∀ x ∈ m, x ∈ l := by
  intro x hx
  by_cases h : x ∈ l
  · exact h
  · have := nodup_len (l := x :: l) (m := m) (List.nodup_cons.2 ⟨h, hn⟩) (fun y hy => by
      rcases List.mem_cons.1 hy with rfl | hy
      · exact hx
      · exact hs y hy)
    rw [List.length_cons] at this; omega

/-- How many of the first n there are. -/
def cnt (n : Nat) (p : Nat → Bool) : Nat := ((List.range n).filter p).length

theorem cnt_succ (n : Nat) (p : Nat → Bool) : cnt (n + 1) p = cnt n p + (p n).toNat := by
  unfold cnt
  rw [List.range_succ, List.filter_append, List.length_append]
  cases h : p n <;> simp [List.filter_cons, h]

theorem cnt_zero (p : Nat → Bool) : cnt 0 p = 0 := rfl
theorem cnt_le (n : Nat) (p : Nat → Bool) : cnt n p ≤ n := by
  induction n with
  | zero => simp [cnt]
  | succ n ih => rw [cnt_succ]; have : (p n).toNat ≤ 1 := Bool.toNat_le _; omega
theorem cnt_add (n : Nat) (p q r : Nat → Bool) (h : ∀ i, i < n → (r i).toNat = (p i).toNat + (q i).toNat) : cnt n r = cnt n p + cnt n q := by
  induction n with
  | zero => rfl
  | succ n ih => rw [cnt_succ, cnt_succ, cnt_succ, ih (fun i hi => h i (by omega)), h n (by omega)]; omega
theorem cnt_congr (n : Nat) (p q : Nat → Bool) (h : ∀ i, i < n → p i = q i) : cnt n p = cnt n q := by
  induction n with
  | zero => rfl
  | succ n ih => rw [cnt_succ, cnt_succ, ih (fun i hi => h i (by omega)), h n (by omega)]
theorem cnt_all (n : Nat) (p : Nat → Bool) (h : ∀ i, i < n → p i = true) : cnt n p = n := by
  induction n with
  | zero => rfl
  | succ n ih => rw [cnt_succ, ih (fun i hi => h i (by omega)), h n (by omega)]; rfl
theorem cnt_none (n : Nat) (p : Nat → Bool) (h : ∀ i, i < n → p i = false) : cnt n p = 0 := by
  induction n with
  | zero => rfl
  | succ n ih => rw [cnt_succ, ih (fun i hi => h i (by omega)), h n (by omega)]; rfl

/-- Different ones that are so are no more than there are. -/
theorem cnt_room {n : Nat} {p : Nat → Bool} {l : List Nat} (hn : l.Nodup) (h : ∀ x ∈ l, x < n ∧ p x = true) : l.length ≤ cnt n p :=
  nodup_len hn (fun x hx => List.mem_filter.2 ⟨List.mem_range.2 (h x hx).1, (h x hx).2⟩)
/-- As many different ones as there are are all. -/
theorem cnt_full {n : Nat} {p : Nat → Bool} {l : List Nat} (hn : l.Nodup) (h : ∀ x ∈ l, x < n ∧ p x = true) (hl : cnt n p ≤ l.length) : ∀ x, x < n → p x = true → x ∈ l :=
  fun x hx hp => nodup_all hn (fun x hx => List.mem_filter.2 ⟨List.mem_range.2 (h x hx).1, (h x hx).2⟩) hl x (List.mem_filter.2 ⟨List.mem_range.2 hx, hp⟩)
/-- A list that has all is no shorter. -/
theorem cnt_cover {n : Nat} {p : Nat → Bool} {l : List Nat} (h : ∀ x, x < n → p x = true → x ∈ l) : cnt n p ≤ l.length :=
  nodup_len (List.nodup_range.filter _) (fun x hx => by
    rw [List.mem_filter, List.mem_range] at hx
    exact h x hx.1 hx.2)

/-! Where symbols begin. -/
def lo (s : List Nat) (c : Nat) : Nat := cnt s.length (fun i => decide (sy s i < c))
def nl (s : List Nat) (c : Nat) : Nat := cnt s.length (fun i => sy s i == c && !sm s i)
def ns (s : List Nat) (c : Nat) : Nat := cnt s.length (fun i => sy s i == c && sm s i)
def mid (s : List Nat) (c : Nat) : Nat := lo s c + nl s c

theorem lo_zero (s : List Nat) : lo s 0 = 0 := cnt_none _ _ (fun i _ => by simp)
theorem lo_succ (s : List Nat) (c : Nat) : lo s (c + 1) = mid s c + ns s c := by
  have h1 : lo s (c + 1) = lo s c + cnt s.length (fun i => sy s i == c) := by
    refine cnt_add _ _ _ _ (fun i _ => ?_)
    rcases Nat.lt_trichotomy (sy s i) c with h | h | h
    · rw [decide_eq_true (by omega), decide_eq_true h, beq_eq_false_iff_ne.2 (by omega)]; rfl
    · rw [decide_eq_true (by omega), decide_eq_false (by omega), beq_iff_eq.2 h]; rfl
    · rw [decide_eq_false (by omega), decide_eq_false (by omega), beq_eq_false_iff_ne.2 (by omega)]; rfl
  have h2 : cnt s.length (fun i => sy s i == c) = nl s c + ns s c := by
    refine cnt_add _ _ _ _ (fun i _ => ?_)
    cases h : (sy s i == c) <;> cases h' : sm s i <;> simp [h, h']
  unfold mid; omega
theorem mid_le (s : List Nat) (c : Nat) : mid s c ≤ lo s (c + 1) := by rw [lo_succ]; omega
theorem lo_le_mid (s : List Nat) (c : Nat) : lo s c ≤ mid s c := by unfold mid; omega
theorem lo_mono (s : List Nat) {c d : Nat} (h : c ≤ d) : lo s c ≤ lo s d := by
  induction d with
  | zero => obtain rfl : c = 0 := by omega
            exact Nat.le_refl _
  | succ d ih =>
    by_cases e : c = d + 1
    · subst e; exact Nat.le_refl _
    · exact Nat.le_trans (ih (by omega)) (Nat.le_trans (lo_le_mid s d) (mid_le s d))
theorem lo_all (s : List Nat) (K : Nat) (h : ∀ i, i < s.length → sy s i < K) : lo s K = s.length := cnt_all _ _ (fun i hi => by simpa using h i hi)
theorem lo_le (s : List Nat) (c : Nat) : lo s c ≤ s.length := cnt_le _ _
/-- Each place belongs to a symbol. -/
theorem place (s : List Nat) (p : Nat) : ∀ (K : Nat), p < lo s K → ∃ c, c < K ∧ lo s c ≤ p ∧ p < lo s (c + 1)
  | 0, h => by rw [lo_zero] at h; omega
  | K + 1, h => by
    by_cases h1 : p < lo s K
    · obtain ⟨c, a, b⟩ := place s p K h1
      exact ⟨c, by omega, b⟩
    · exact ⟨K, by omega, by omega, h⟩
theorem place_one (s : List Nat) {p c d : Nat} (h1 : lo s c ≤ p) (h2 : p < lo s (c + 1)) (h3 : lo s d ≤ p) (h4 : p < lo s (d + 1)) : c = d := by
  rcases Nat.lt_trichotomy c d with h | h | h
  · have := lo_mono s (show c + 1 ≤ d by omega); omega
  · exact h
  · have := lo_mono s (show d + 1 ≤ c by omega); omega

/-- Values at places in a row. -/
theorem vals {a : List Int} (lo' : Nat) : ∀ (m : Nat) (_ : ∀ j, j < m → ∃ v : Nat, a[lo' + j]? = some (v : Int)), ∃ l : List Nat, l.length = m ∧ (∀ j, j < m → ∃ v, l[j]? = some v ∧ a[lo' + j]? = some (v : Int))
  | 0, _ => ⟨[], rfl, fun j hj => by omega⟩
  | m + 1, h => by
    obtain ⟨l, h1, h2⟩ := vals lo' m (fun j hj => h j (by omega))
    obtain ⟨v, hv⟩ := h m (by omega)
    refine ⟨l ++ [v], by simp [h1], fun j hj => ?_⟩
    by_cases e : j = m
    · subst e; exact ⟨v, by rw [List.getElem?_append_right (by omega)]; simp [h1], hv⟩
    · obtain ⟨u, hu, hu2⟩ := h2 j (by omega)
      exact ⟨u, by rw [List.getElem?_append_left (by omega)]; exact hu, hu2⟩
/-- Those of places that hold different ones. -/
theorem vals_nodup {a : List Int} {l : List Nat} {lo' m : Nat} (h1 : l.length = m) (h2 : ∀ j, j < m → ∃ v, l[j]? = some v ∧ a[lo' + j]? = some (v : Int))
    (hd : ∀ j k (v : Nat), j < m → k < m → a[lo' + j]? = some (v : Int) → a[lo' + k]? = some (v : Int) → j = k) : l.Nodup := by
  rw [List.nodup_iff_pairwise_ne, List.pairwise_iff_getElem]
  intro i j hi hj hij e
  obtain ⟨v, hv, hva⟩ := h2 i (by omega)
  obtain ⟨u, hu, hua⟩ := h2 j (by omega)
  rw [List.getElem?_eq_getElem hi] at hv
  rw [List.getElem?_eq_getElem hj] at hu
  injection hv with hv; injection hu with hu
  have : v = u := by rw [← hv, ← hu, e]
  subst this
  have := hd i j v (by omega) (by omega) hva hua
  omega
theorem vals_mem {a : List Int} {l : List Nat} {lo' m : Nat} (h1 : l.length = m) (h2 : ∀ j, j < m → ∃ v, l[j]? = some v ∧ a[lo' + j]? = some (v : Int)) {x : Nat} (hx : x ∈ l) : ∃ j, j < m ∧ a[lo' + j]? = some (x : Int) := by
  obtain ⟨j, hj, e⟩ := List.mem_iff_getElem.1 hx
  obtain ⟨v, hv, hva⟩ := h2 j (by omega)
  rw [List.getElem?_eq_getElem hj] at hv
  injection hv with hv
  exact ⟨j, by omega, by rw [hva, ← hv, e]⟩
end Lec.Sa

/- Sorting by what is laid first: the larger kinds. Plain; no program stands here. -/
set_option linter.unusedVariables false
set_option linter.unusedSimpArgs false
namespace Lec.Sa

/-- The row as the laid ones stand in it: d, in order, by their symbols, from where the smaller kinds begin. -/
structure A0 (s d : List Nat) (K : Nat) (a : List Int) : Prop where
  len : a.length = s.length
  pos : 0 < s.length
  sym : ∀ i, i < s.length → sy s i < K
  nod : d.Nodup
  lms : ∀ v, v ∈ d → v < s.length ∧ 0 < v ∧ sm s v = true ∧ sm s (v - 1) = false
  all : ∀ v, v < s.length → 0 < v → sm s v = true → sm s (v - 1) = false → v ∈ d
  free : ∀ c, c < K → ∀ p, lo s c ≤ p → p < mid s c → a[p]? = some (-1)
  low : ∀ c, c < K → ∀ p, mid s c ≤ p → p < lo s (c + 1) → a[p]? = some (-1) ∨ ∃ v : Nat, a[p]? = some (v : Int) ∧ v ∈ d ∧ sy s v = c
  ord : ∀ c, c < K → ∀ p q, mid s c ≤ p → p < q → q < lo s (c + 1) → ∀ v w : Nat, a[p]? = some (v : Int) → a[q]? = some (w : Int) → ∃ i j : Nat, i < j ∧ d[i]? = some v ∧ d[j]? = some w
  has : ∀ v, v ∈ d → ∃ p, mid s (sy s v) ≤ p ∧ p < lo s (sy s v + 1) ∧ a[p]? = some (v : Int)

theorem A0.same {s d : List Nat} {K : Nat} {a : List Int} (h : A0 s d K a) {c : Nat} (hc : c < K) {p q v : Nat} (hp : mid s c ≤ p) (hp' : p < lo s (c + 1)) (hq : mid s c ≤ q) (hq' : q < lo s (c + 1)) (h1 : a[p]? = some (v : Int)) (h2 : a[q]? = some (v : Int)) : p = q := by
  have key : ∀ p q, mid s c ≤ p → p < q → q < lo s (c + 1) → a[p]? = some (v : Int) → a[q]? = some (v : Int) → False := by
    intro p q hp hpq hq h1 h2
    obtain ⟨i, j, hij, e1, e2⟩ := h.ord c hc p q hp hpq hq v v h1 h2
    have hn := h.nod
    rw [List.nodup_iff_pairwise_ne, List.pairwise_iff_getElem] at hn
    obtain ⟨a1, b1⟩ := List.getElem?_eq_some_iff.1 e1
    obtain ⟨a2, b2⟩ := List.getElem?_eq_some_iff.1 e2
    exact hn i j a1 a2 hij (b1.trans b2.symm)
  rcases Nat.lt_trichotomy p q with e | e | e
  · exact (key p q hp e hq' h1 h2).elim
  · exact e
  · exact (key q p hq e hp' h2 h1).elim

/-- The row while larger kinds are put: i places are seen; nx: where the next of a symbol goes; src: of a place, one more than where what stands behind it stood. -/
structure LInv (s d : List Nat) (K : Nat) (a0 : List Int) (i : Nat) (a : List Int) (nx src : Nat → Nat) : Prop where
  len : a.length = s.length
  lo_nx : ∀ c, c < K → lo s c ≤ nx c
  nx_mid : ∀ c, c < K → nx c ≤ mid s c
  fill : ∀ c, c < K → ∀ p, lo s c ≤ p → p < nx c → ∃ v : Nat, a[p]? = some (v : Int) ∧ v < s.length ∧ sy s v = c ∧ sm s v = false ∧ src p ≤ i ∧ src p ≤ p ∧ (src p = 0 ∧ v + 1 = s.length ∨ 0 < src p ∧ v + 1 < s.length ∧ a[src p - 1]? = some ((v + 1 : Nat) : Int))
  mono : ∀ c, c < K → ∀ p q, lo s c ≤ p → p < q → q < nx c → src p < src q
  free : ∀ c, c < K → ∀ p, nx c ≤ p → p < mid s c → a[p]? = some (-1)
  keep : ∀ c, c < K → ∀ p, mid s c ≤ p → p < lo s (c + 1) → a[p]? = a0[p]?
  done : ∀ v, v < s.length → sm s v = false → (v + 1 = s.length ∨ ∃ q, q < i ∧ a[q]? = some ((v + 1 : Nat) : Int)) → ∃ p, lo s (sy s v) ≤ p ∧ p < nx (sy s v) ∧ a[p]? = some (v : Int)

theorem not_nat_m1 (v : Nat) : (some (-1 : Int)) ≠ some (v : Int) := by
  intro h; injection h with h; omega

section
variable {s d : List Nat} {K : Nat} {a0 : List Int} {i : Nat} {a : List Int} {nx src : Nat → Nat}

/-- What a place that holds a number is. -/
theorem LInv.at (h : LInv s d K a0 i a nx src) (z : A0 s d K a0) {p v : Nat} (hp : a[p]? = some (v : Int)) :
    v < s.length ∧ sy s v < K ∧ lo s (sy s v) ≤ p ∧ p < lo s (sy s v + 1) ∧ (sm s v = false ∧ p < nx (sy s v) ∨ sm s v = true ∧ mid s (sy s v) ≤ p ∧ v ∈ d) := by
  have hpl : p < s.length := by rw [← h.len]; exact (List.getElem?_eq_some_iff.1 hp).1
  obtain ⟨c, hc, h1, h2⟩ := place s p K (by rw [lo_all s K z.sym]; exact hpl)
  by_cases hm : p < mid s c
  · by_cases hx : p < nx c
    · obtain ⟨u, hu, hu1, hu2, hu3, _⟩ := h.fill c hc p h1 hx
      have e : u = v := by rw [hp] at hu; injection hu with hu; omega
      subst e; subst hu2
      exact ⟨hu1, hc, h1, h2, .inl ⟨hu3, hx⟩⟩
    · have := h.free c hc p (by omega) hm
      rw [hp] at this
      exact absurd this.symm (not_nat_m1 v)
  · have h3 := h.keep c hc p (by omega) h2
    rw [hp] at h3
    rcases z.low c hc p (by omega) h2 with h4 | ⟨u, h4, h5, h6⟩
    · rw [h4] at h3; exact absurd h3.symm (not_nat_m1 v)
    · have e : u = v := by rw [← h3] at h4; injection h4 with h4; omega
      subst e; subst h6
      exact ⟨(z.lms u h5).1, hc, h1, h2, .inr ⟨(z.lms u h5).2.2.1, by omega, h5⟩⟩

/-- No number stands at two places. -/
theorem LInv.one (h : LInv s d K a0 i a nx src) (z : A0 s d K a0) : ∀ (m v : Nat), s.length - v ≤ m → ∀ p q : Nat, a[p]? = some (v : Int) → a[q]? = some (v : Int) → p = q
  | 0, v, hm, p, q, hp, _ => by have := (h.at z hp).1; omega
  | m + 1, v, hm, p, q, hp, hq => by
    obtain ⟨hv, hc, hp1, hp2, hp3⟩ := h.at z hp
    obtain ⟨_, _, hq1, hq2, hq3⟩ := h.at z hq
    rcases hp3 with ⟨hs, hpn⟩ | ⟨hs, hpm, _⟩
    · rcases hq3 with ⟨_, hqn⟩ | ⟨hs', _⟩
      · obtain ⟨u, hu, _, _, _, _, _, hu1⟩ := h.fill _ hc p hp1 hpn
        obtain ⟨t, ht, _, _, _, _, _, ht1⟩ := h.fill _ hc q hq1 hqn
        have e1 : u = v := by rw [hp] at hu; injection hu with hu; omega
        have e2 : t = v := by rw [hq] at ht; injection ht with ht; omega
        subst e1; subst e2
        have key : src p = src q := by
          rcases hu1 with ⟨x1, x2⟩ | ⟨x1, x2, x3⟩
          · rcases ht1 with ⟨y1, y2⟩ | ⟨y1, y2, y3⟩
            · omega
            · omega
          · rcases ht1 with ⟨y1, y2⟩ | ⟨y1, y2, y3⟩
            · omega
            · have := LInv.one h z m (t + 1) (by omega) _ _ x3 y3
              omega
        rcases Nat.lt_trichotomy p q with e | e | e
        · have := h.mono _ hc p q hp1 e hqn; omega
        · exact e
        · have := h.mono _ hc q p hq1 e hpn; omega
      · rw [hs] at hs'; cases hs'
    · rcases hq3 with ⟨hs', _⟩ | ⟨_, hqm, _⟩
      · rw [hs] at hs'; cases hs'
      · rw [h.keep _ hc p hpm hp2] at hp
        rw [h.keep _ hc q hqm hq2] at hq
        exact z.same hc hpm hp2 hqm hq2 hp hq

theorem LInv.uniq (h : LInv s d K a0 i a nx src) (z : A0 s d K a0) {p q v : Nat} (hp : a[p]? = some (v : Int)) (hq : a[q]? = some (v : Int)) : p = q := h.one z _ v (Nat.le_refl _) p q hp hq

/-- The place seen holds none whose predecessor is of the larger kind. -/
theorem LInv.skip (h : LInv s d K a0 i a nx src) (hno : ∀ v : Nat, a[i]? = some ((v + 1 : Nat) : Int) → sm s v = true) : LInv s d K a0 (i + 1) a nx src := by
  refine ⟨h.len, h.lo_nx, h.nx_mid, fun c hc p h1 h2 => ?_, h.mono, h.free, h.keep, fun v hv hs hd => ?_⟩
  · obtain ⟨v, e1, e2, e3, e4, e5, e6, e7⟩ := h.fill c hc p h1 h2
    exact ⟨v, e1, e2, e3, e4, by omega, e6, e7⟩
  · refine h.done v hv hs ?_
    rcases hd with hd | ⟨q, hq, hq2⟩
    · exact .inl hd
    · by_cases e : q = i
      · subst e
        have := hno v hq2
        rw [hs] at this; cases this
      · exact .inr ⟨q, by omega, hq2⟩

/-- The place seen holds v + 1, and v is of the larger kind: where v goes. -/
theorem LInv.room (h : LInv s d K a0 i a nx src) (z : A0 s d K a0) {v : Nat} (hv : a[i]? = some ((v + 1 : Nat) : Int)) (hs : sm s v = false) :
    v < s.length ∧ sy s v < K ∧ i < nx (sy s v) ∧ nx (sy s v) < mid s (sy s v) := by
  obtain ⟨hv1, hc1, hi1, hi2, hi3⟩ := h.at z hv
  have hvl : v < s.length := by omega
  have hcv := z.sym v hvl
  have hin : i < nx (sy s v) := by
    rcases la_ge s v hv1 hs with e | ⟨e, e2⟩
    · have := lo_mono s (show sy s (v + 1) + 1 ≤ sy s v by omega)
      have := h.lo_nx _ hcv
      omega
    · rcases hi3 with ⟨_, hi3⟩ | ⟨hi3, _⟩
      · rw [e]; exact hi3
      · rw [e2] at hi3; cases hi3
  refine ⟨hvl, hcv, hin, ?_⟩
  obtain ⟨l, hl1, hl2⟩ := vals (a := a) (lo s (sy s v)) (nx (sy s v) - lo s (sy s v)) (fun j hj => by
    obtain ⟨u, hu, _⟩ := h.fill _ hcv (lo s (sy s v) + j) (by omega) (by omega)
    exact ⟨u, hu⟩)
  have hnd : l.Nodup := vals_nodup hl1 hl2 (fun j k u hj hk e1 e2 => by have := h.uniq z e1 e2; omega)
  have hmem : ∀ x ∈ l, x < s.length ∧ sy s x = sy s v ∧ sm s x = false ∧ x ≠ v := by
    intro x hx
    obtain ⟨j, hj, hx2⟩ := vals_mem hl1 hl2 hx
    obtain ⟨u, e1, e2, e3, e4, e5, e6, e7⟩ := h.fill _ hcv (lo s (sy s v) + j) (by omega) (by omega)
    have e : u = x := by rw [hx2] at e1; injection e1 with e1; omega
    subst e
    refine ⟨e2, e3, e4, fun e => ?_⟩
    subst e
    rcases e7 with ⟨_, e8⟩ | ⟨e8, _, e9⟩
    · omega
    · have := h.uniq z e9 hv
      omega
  have hr := cnt_room (n := s.length) (p := fun i => sy s i == sy s v && !sm s i) (l := v :: l) (List.nodup_cons.2 ⟨fun hx => (hmem v hx).2.2.2 rfl, hnd⟩) (fun x hx => by
    rcases List.mem_cons.1 hx with rfl | hx
    · exact ⟨hvl, by simp [hs]⟩
    · obtain ⟨e1, e2, e3, _⟩ := hmem x hx
      exact ⟨e1, by simp [e2, e3]⟩)
  rw [List.length_cons, hl1] at hr
  have hn : nl s (sy s v) = cnt s.length (fun i => sy s i == sy s v && !sm s i) := rfl
  have := h.lo_nx _ hcv
  unfold mid
  omega

theorem getElem?_set_ne' {α : Type} (l : List α) (i j : Nat) (x : α) (h : j ≠ i) : (l.set i x)[j]? = l[j]? := by
  rw [List.getElem?_set]; simp [Ne.symm h]
theorem getElem?_set_self' {α : Type} (l : List α) (i : Nat) (x : α) (h : i < l.length) : (l.set i x)[i]? = some x := by
  rw [List.getElem?_set]; simp [h]

/-- v is put. -/
theorem LInv.put (h : LInv s d K a0 i a nx src) (z : A0 s d K a0) {v : Nat} (hv : a[i]? = some ((v + 1 : Nat) : Int)) (hs : sm s v = false) :
    LInv s d K a0 (i + 1) (a.set (nx (sy s v)) (v : Int)) (fun c => if c = sy s v then nx c + 1 else nx c) (fun p => if p = nx (sy s v) then i + 1 else src p) := by
  obtain ⟨hvl, hcv, hin, hnm⟩ := h.room z hv hs
  obtain ⟨hv1, _⟩ := h.at z hv
  have hlo := h.lo_nx _ hcv
  have hup := mid_le s (sy s v)
  have hle := lo_le s (sy s v + 1)
  have hpl : nx (sy s v) < a.length := by rw [h.len]; omega
  have far : ∀ p, p ≠ nx (sy s v) → (a.set (nx (sy s v)) (v : Int))[p]? = a[p]? := fun p hp => getElem?_set_ne' _ _ _ _ hp
  have self : (a.set (nx (sy s v)) (v : Int))[nx (sy s v)]? = some (v : Int) := getElem?_set_self' _ _ _ hpl
  refine ⟨by rw [List.length_set]; exact h.len, fun c hc => ?_, fun c hc => ?_, fun c hc p h1 h2 => ?_, fun c hc p q h1 h2 h3 => ?_, fun c hc p h1 h2 => ?_, fun c hc p h1 h2 => ?_, fun u hu hus hd => ?_⟩
  · have := h.lo_nx c hc
    split <;> omega
  · have := h.nx_mid c hc
    split
    · rename_i e; subst e; omega
    · omega
  · have old : p < nx c → p ≠ nx (sy s v) → ∃ u : Nat, (a.set (nx (sy s v)) (v : Int))[p]? = some (u : Int) ∧ u < s.length ∧ sy s u = c ∧ sm s u = false ∧ (if p = nx (sy s v) then i + 1 else src p) ≤ i + 1 ∧ (if p = nx (sy s v) then i + 1 else src p) ≤ p ∧ ((if p = nx (sy s v) then i + 1 else src p) = 0 ∧ u + 1 = s.length ∨ 0 < (if p = nx (sy s v) then i + 1 else src p) ∧ u + 1 < s.length ∧ (a.set (nx (sy s v)) (v : Int))[(if p = nx (sy s v) then i + 1 else src p) - 1]? = some ((u + 1 : Nat) : Int)) := by
      intro h3 h4
      obtain ⟨u, e1, e2, e3, e4, e5, e6, e7⟩ := h.fill c hc p h1 h3
      rw [far p h4, if_neg h4]
      refine ⟨u, e1, e2, e3, e4, by omega, e6, ?_⟩
      rcases e7 with e7 | ⟨e7, e8, e9⟩
      · exact .inl e7
      · exact .inr ⟨e7, e8, by rw [far _ (by omega)]; exact e9⟩
    by_cases e : c = sy s v
    · rw [if_pos e] at h2
      by_cases e2 : p = nx (sy s v)
      · subst e2
        rw [self, if_pos rfl]
        refine ⟨v, rfl, hvl, e.symm, hs, Nat.le_refl _, hin, .inr ⟨by omega, hv1, ?_⟩⟩
        rw [far _ (by omega)]
        exact hv
      · exact old (by subst e; omega) e2
    · rw [if_neg e] at h2
      refine old h2 (fun e2 => ?_)
      have := h.nx_mid c hc
      have := mid_le s c
      exact e (place_one s (c := c) (d := sy s v) h1 (by omega) (by omega) (by omega))
  · have hq : q ≤ nx (sy s v) ∧ c = sy s v ∨ q < nx c ∧ q ≠ nx (sy s v) := by
      by_cases e : c = sy s v
      · rw [if_pos e] at h3; subst e; exact .inl ⟨by omega, rfl⟩
      · rw [if_neg e] at h3
        refine .inr ⟨h3, fun e2 => ?_⟩
        have := h.nx_mid c hc
        have := mid_le s c
        exact e (place_one s (p := q) (c := c) (d := sy s v) (by omega) (by omega) (by omega) (by omega))
    have hpq : p < nx c := by
      rcases hq with ⟨hq, rfl⟩ | ⟨hq, _⟩ <;> omega
    have hpn : p ≠ nx (sy s v) := by
      rcases hq with ⟨hq, rfl⟩ | ⟨hq, hq2⟩
      · omega
      · intro e
        have := h.nx_mid c hc
        have := mid_le s c
        have := place_one s (p := p) (c := c) (d := sy s v) h1 (by omega) (show lo s (sy s v) ≤ p by omega) (by omega)
        subst this
        omega
    rw [if_neg hpn]
    by_cases e : q = nx (sy s v)
    · rw [if_pos e]
      obtain ⟨u, _, _, _, _, e5, _⟩ := h.fill c hc p h1 hpq
      omega
    · rw [if_neg e]
      rcases hq with ⟨hq, rfl⟩ | ⟨hq, _⟩
      · exact h.mono _ hc p q h1 h2 (by omega)
      · exact h.mono c hc p q h1 h2 hq
  · have h4 : nx c ≤ p := by revert h1; split <;> omega
    rw [far p, h.free c hc p h4 h2]
    intro e
    have h5 := h.lo_nx c hc
    have h6 := mid_le s c
    have := place_one s (p := p) (c := c) (d := sy s v) (by omega) (by omega) (show lo s (sy s v) ≤ p by omega) (by omega)
    rw [if_pos this] at h1
    subst this
    omega
  · rw [far p, h.keep c hc p h1 h2]
    intro e
    have h5 := lo_le_mid s c
    have := place_one s (p := p) (c := c) (d := sy s v) (by omega) h2 (show lo s (sy s v) ≤ p by omega) (by omega)
    subst this
    omega
  · by_cases e : u = v
    · subst e
      exact ⟨nx (sy s u), hlo, by rw [if_pos rfl]; omega, self⟩
    · have hold : ∃ p, lo s (sy s u) ≤ p ∧ p < nx (sy s u) ∧ a[p]? = some (u : Int) := by
        refine h.done u hu hus ?_
        rcases hd with hd | ⟨q, hq, hq2⟩
        · exact .inl hd
        · rw [far q (by omega)] at hq2
          refine .inr ⟨q, ?_, hq2⟩
          by_cases eq : q = i
          · subst eq
            rw [hv] at hq2; injection hq2 with hq2; omega
          · omega
      obtain ⟨p, h1, h2, h3⟩ := hold
      refine ⟨p, h1, by split <;> omega, ?_⟩
      rw [far p, h3]
      intro e2
      subst e2
      have h5 := h.free _ hcv _ (Nat.le_refl _) hnm
      rw [h5] at h3
      exact absurd h3 (not_nat_m1 u)
end

/-- The last ending is put first. -/
theorem LInv.init {s d : List Nat} {K : Nat} {a0 : List Int} (z : A0 s d K a0) :
    LInv s d K a0 0 (a0.set (lo s (sy s (s.length - 1))) ((s.length - 1 : Nat) : Int)) (fun c => if c = sy s (s.length - 1) then lo s c + 1 else lo s c) (fun _ => 0) := by
  have hn := z.pos
  generalize hv : s.length - 1 = v
  have hvl : v < s.length := by omega
  have hvs := sm_last s v (by omega)
  have hcv := z.sym v hvl
  have hnl : 0 < nl s (sy s v) := by
    have := cnt_room (n := s.length) (p := fun i => sy s i == sy s v && !sm s i) (l := [v]) (by simp) (fun x hx => by
      simp at hx; subst hx; exact ⟨hvl, by simp [hvs]⟩)
    exact Nat.lt_of_lt_of_le (by simp) this
  have hmid : lo s (sy s v) < mid s (sy s v) := by unfold mid; omega
  have hup := mid_le s (sy s v)
  have hle := lo_le s (sy s v + 1)
  have hpl : lo s (sy s v) < a0.length := by rw [z.len]; omega
  have far : ∀ p, p ≠ lo s (sy s v) → (a0.set (lo s (sy s v)) (v : Int))[p]? = a0[p]? := fun p hp => getElem?_set_ne' _ _ _ _ hp
  have self : (a0.set (lo s (sy s v)) (v : Int))[lo s (sy s v)]? = some (v : Int) := getElem?_set_self' _ _ _ hpl
  refine ⟨by rw [List.length_set]; exact z.len, fun c hc => ?_, fun c hc => ?_, fun c hc p h1 h2 => ?_, fun c hc p q h1 h2 h3 => ?_, fun c hc p h1 h2 => ?_, fun c hc p h1 h2 => ?_, fun u hu hus hd => ?_⟩
  · split <;> omega
  · have := lo_le_mid s c
    split
    · rename_i e; subst e; omega
    · omega
  · by_cases e : c = sy s v
    · rw [if_pos e] at h2
      have : p = lo s (sy s v) := by subst e; omega
      subst this
      exact ⟨v, self, hvl, e.symm, hvs, Nat.le_refl _, Nat.zero_le _, .inl ⟨rfl, by omega⟩⟩
    · rw [if_neg e] at h2; omega
  · by_cases e : c = sy s v
    · rw [if_pos e] at h3; omega
    · rw [if_neg e] at h3; omega
  · have h4 : lo s c ≤ p := by revert h1; split <;> omega
    rw [far p, z.free c hc p h4 h2]
    intro e
    have h6 := mid_le s c
    have := place_one s (p := p) (c := c) (d := sy s v) h4 (by omega) (show lo s (sy s v) ≤ p by omega) (by omega)
    rw [if_pos this] at h1
    subst this
    omega
  · rw [far p]
    intro e
    have h5 := lo_le_mid s c
    have := place_one s (p := p) (c := c) (d := sy s v) (by omega) h2 (show lo s (sy s v) ≤ p by omega) (by omega)
    subst this
    omega
  · rcases hd with hd | ⟨q, hq, _⟩
    · have : u = v := by omega
      subst this
      exact ⟨_, Nat.le_refl _, by rw [if_pos rfl]; omega, self⟩
    · omega

section
variable {s d : List Nat} {K : Nat} {a0 : List Int} {a : List Int} {nx src : Nat → Nat}
/-- All are put. -/
theorem LInv.has (h : LInv s d K a0 s.length a nx src) (z : A0 s d K a0) : ∀ (m v : Nat), s.length - v ≤ m → v < s.length → (sm s v = false ∨ v ∈ d) → ∃ p, p < s.length ∧ a[p]? = some (v : Int)
  | 0, v, hm, hv, _ => by omega
  | m + 1, v, hm, hv, hk => by
    have fin : ∀ p, a[p]? = some (v : Int) → ∃ p, p < s.length ∧ a[p]? = some (v : Int) := fun p hp => ⟨p, by rw [← h.len]; exact (List.getElem?_eq_some_iff.1 hp).1, hp⟩
    rcases hk with hs | hd
    · have : v + 1 = s.length ∨ ∃ q, q < s.length ∧ a[q]? = some ((v + 1 : Nat) : Int) := by
        by_cases e : v + 1 = s.length
        · exact .inl e
        · refine .inr (LInv.has h z m (v + 1) (by omega) (by omega) ?_)
          cases e2 : sm s (v + 1) with
          | false => exact .inl rfl
          | true => exact .inr (z.all (v + 1) (by omega) (by omega) e2 (by simpa using hs))
      obtain ⟨p, _, _, hp⟩ := h.done v hv hs this
      exact fin p hp
    · obtain ⟨p, h1, h2, hp⟩ := z.has v hd
      exact fin p (by rw [h.keep _ (z.sym v hv) p h1 h2]; exact hp)

theorem LInv.full (h : LInv s d K a0 s.length a nx src) (z : A0 s d K a0) {c : Nat} (hc : c < K) : nx c = mid s c := by
  have h1 := h.lo_nx c hc
  have h2 := h.nx_mid c hc
  obtain ⟨l, hl1, hl2⟩ := vals (a := a) (lo s c) (nx c - lo s c) (fun j hj => by
    obtain ⟨u, hu, _⟩ := h.fill c hc (lo s c + j) (by omega) (by omega)
    exact ⟨u, hu⟩)
  have := cnt_cover (n := s.length) (p := fun i => sy s i == c && !sm s i) (l := l) (fun x hx hp => by
    simp at hp
    obtain ⟨p, hp1, hp2⟩ := h.has z _ x (Nat.le_refl _) hx (.inl hp.2)
    obtain ⟨_, _, e1, e2, e3⟩ := h.at z hp2
    rw [hp.1] at e1 e2 e3
    rcases e3 with ⟨_, e3⟩ | ⟨e3, _⟩
    · obtain ⟨u, hu, hu2⟩ := hl2 (p - lo s c) (by omega)
      rw [show lo s c + (p - lo s c) = p by omega, hp2] at hu2
      have : u = x := by injection hu2 with hu2; omega
      subst this
      exact List.mem_iff_getElem?.2 ⟨_, hu⟩
    · rw [hp.2] at e3; cases e3)
  have hn : nl s c = cnt s.length (fun i => sy s i == c && !sm s i) := rfl
  unfold mid at h2 ⊢
  omega
end
end Lec.Sa

/- Sorting by what is laid first: the smaller kinds. Plain; no program stands here. -/
set_option linter.unusedVariables false
set_option linter.unusedSimpArgs false
namespace Lec.Sa

/-- What the larger kinds' row is when all are put. -/
structure LEnd (s : List Nat) (K : Nat) (aL : List Int) : Prop where
  len : aL.length = s.length
  sym : ∀ i, i < s.length → sy s i < K
  fill : ∀ c, c < K → ∀ p, lo s c ≤ p → p < mid s c → ∃ v : Nat, aL[p]? = some (v : Int) ∧ v < s.length ∧ sy s v = c ∧ sm s v = false
  one : ∀ (p q v : Nat), aL[p]? = some (v : Int) → aL[q]? = some (v : Int) → p = q
  has : ∀ v, v < s.length → sm s v = false → ∃ p, lo s (sy s v) ≤ p ∧ p < mid s (sy s v) ∧ aL[p]? = some (v : Int)

theorem LInv.toEnd {s d : List Nat} {K : Nat} {a0 a : List Int} {nx src : Nat → Nat} (h : LInv s d K a0 s.length a nx src) (z : A0 s d K a0) : LEnd s K a := by
  refine ⟨h.len, z.sym, fun c hc p h1 h2 => ?_, fun p q v => h.uniq z, fun v hv hs => ?_⟩
  · obtain ⟨v, e1, e2, e3, e4, _⟩ := h.fill c hc p h1 (by rw [h.full z hc]; exact h2)
    exact ⟨v, e1, e2, e3, e4⟩
  · obtain ⟨p, _, hp⟩ := h.has z _ v (Nat.le_refl _) hv (.inl hs)
    obtain ⟨_, hc, e1, _, e3⟩ := h.at z hp
    rcases e3 with ⟨_, e3⟩ | ⟨e3, _⟩
    · exact ⟨p, e1, by rw [← h.full z hc]; exact e3, hp⟩
    · rw [hs] at e3; cases e3

/-- The row while smaller kinds are put from behind: the places from i on are seen; e: where a symbol's put ones begin; src: where what stands behind one stood. -/
structure SInv (s : List Nat) (K : Nat) (aL : List Int) (i : Nat) (a : List Int) (e src : Nat → Nat) : Prop where
  len : a.length = s.length
  mid_e : ∀ c, c < K → mid s c ≤ e c
  e_lo : ∀ c, c < K → e c ≤ lo s (c + 1)
  keep : ∀ c, c < K → ∀ p, lo s c ≤ p → p < mid s c → a[p]? = aL[p]?
  fill : ∀ c, c < K → ∀ p, e c ≤ p → p < lo s (c + 1) → ∃ v : Nat, a[p]? = some (v : Int) ∧ v + 1 < s.length ∧ sy s v = c ∧ sm s v = true ∧ i ≤ src p ∧ p < src p ∧ src p < s.length ∧ a[src p]? = some ((v + 1 : Nat) : Int)
  mono : ∀ c, c < K → ∀ p q, e c ≤ p → p < q → q < lo s (c + 1) → src p < src q
  done : ∀ v, v + 1 < s.length → sm s v = true → (∃ q, i ≤ q ∧ a[q]? = some ((v + 1 : Nat) : Int)) → ∃ p, e (sy s v) ≤ p ∧ p < lo s (sy s v + 1) ∧ a[p]? = some (v : Int)
  seen : ∀ c, c < K → ∀ p, mid s c ≤ p → p < lo s (c + 1) → i ≤ p → e c ≤ p

section
variable {s : List Nat} {K : Nat} {aL : List Int} {i : Nat} {a : List Int} {e src : Nat → Nat}

/-- A place that is in force. -/
def Good (s : List Nat) (e : Nat → Nat) (K p : Nat) : Prop := ∃ c, c < K ∧ (lo s c ≤ p ∧ p < mid s c ∨ e c ≤ p ∧ p < lo s (c + 1))

theorem SInv.at (h : SInv s K aL i a e src) (z : LEnd s K aL) {p : Nat} (hg : Good s e K p) :
    ∃ v : Nat, a[p]? = some (v : Int) ∧ v < s.length ∧ sy s v < K ∧ (sm s v = false ∧ lo s (sy s v) ≤ p ∧ p < mid s (sy s v) ∧ aL[p]? = some (v : Int) ∨ sm s v = true ∧ e (sy s v) ≤ p ∧ p < lo s (sy s v + 1)) := by
  obtain ⟨c, hc, ⟨h1, h2⟩ | ⟨h1, h2⟩⟩ := hg
  · obtain ⟨v, e1, e2, e3, e4⟩ := z.fill c hc p h1 h2
    subst e3
    exact ⟨v, by rw [h.keep _ hc p h1 h2]; exact e1, e2, hc, .inl ⟨e4, h1, h2, e1⟩⟩
  · obtain ⟨v, e1, e2, e3, e4, _⟩ := h.fill c hc p h1 h2
    subst e3
    exact ⟨v, e1, by omega, hc, .inr ⟨e4, h1, h2⟩⟩

theorem SInv.good (h : SInv s K aL i a e src) (z : LEnd s K aL) {p : Nat} (hp : p < s.length) (hi : i ≤ p) : Good s e K p := by
  obtain ⟨c, hc, h1, h2⟩ := place s p K (by rw [lo_all s K z.sym]; exact hp)
  by_cases hm : p < mid s c
  · exact ⟨c, hc, .inl ⟨h1, hm⟩⟩
  · exact ⟨c, hc, .inr ⟨h.seen c hc p (by omega) h2 hi, h2⟩⟩

theorem SInv.one (h : SInv s K aL i a e src) (z : LEnd s K aL) : ∀ (m v : Nat), s.length - v ≤ m → ∀ p q : Nat, Good s e K p → Good s e K q → a[p]? = some (v : Int) → a[q]? = some (v : Int) → p = q
  | 0, v, hm, p, q, gp, _, hp, _ => by
    obtain ⟨u, e1, e2, _⟩ := h.at z gp
    rw [hp] at e1; injection e1 with e1; omega
  | m + 1, v, hm, p, q, gp, gq, hp, hq => by
    obtain ⟨u, e1, e2, hc, e3⟩ := h.at z gp
    obtain ⟨t, f1, f2, _, f3⟩ := h.at z gq
    obtain rfl : v = u := by rw [hp] at e1; injection e1 with e1; omega
    obtain rfl : v = t := by rw [hq] at f1; injection f1 with f1; omega
    rcases e3 with ⟨es, _, _, e3⟩ | ⟨es, e4, e5⟩
    · rcases f3 with ⟨_, _, _, f3⟩ | ⟨fs, _⟩
      · exact z.one p q v e3 f3
      · rw [es] at fs; cases fs
    · rcases f3 with ⟨fs, _⟩ | ⟨_, f4, f5⟩
      · rw [es] at fs; cases fs
      · obtain ⟨u, g1, g2, g3, g4, g5, g6, g7, g8⟩ := h.fill _ hc p e4 e5
        obtain ⟨t, k1, k2, k3, k4, k5, k6, k7, k8⟩ := h.fill _ hc q f4 f5
        obtain rfl : v = u := by rw [hp] at g1; injection g1 with g1; omega
        obtain rfl : v = t := by rw [hq] at k1; injection k1 with k1; omega
        have key := SInv.one h z m (v + 1) (by omega) _ _ (h.good z g7 g5) (h.good z k7 k5) g8 k8
        rcases Nat.lt_trichotomy p q with e | e | e
        · have := h.mono _ hc p q e4 e f5; omega
        · exact e
        · have := h.mono _ hc q p f4 e e5; omega

theorem SInv.uniq (h : SInv s K aL i a e src) (z : LEnd s K aL) {p q v : Nat} (gp : Good s e K p) (gq : Good s e K q) (hp : a[p]? = some (v : Int)) (hq : a[q]? = some (v : Int)) : p = q := h.one z _ v (Nat.le_refl _) p q gp gq hp hq

/-- The put ones of a symbol, as a list. -/
theorem SInv.list (h : SInv s K aL i a e src) (z : LEnd s K aL) {c : Nat} (hc : c < K) : ∃ l : List Nat, l.length = lo s (c + 1) - e c ∧ l.Nodup ∧ (∀ x ∈ l, x + 1 < s.length ∧ sy s x = c ∧ sm s x = true ∧ ∃ p, e c ≤ p ∧ p < lo s (c + 1) ∧ a[p]? = some (x : Int)) ∧
    (∀ p (x : Nat), e c ≤ p → p < lo s (c + 1) → a[p]? = some (x : Int) → x ∈ l) := by
  have h1 := h.e_lo c hc
  obtain ⟨l, hl1, hl2⟩ := vals (a := a) (e c) (lo s (c + 1) - e c) (fun j hj => by
    obtain ⟨u, hu, _⟩ := h.fill c hc (e c + j) (by omega) (by omega)
    exact ⟨u, hu⟩)
  refine ⟨l, hl1, vals_nodup hl1 hl2 (fun j k u hj hk e1 e2 => ?_), fun x hx => ?_, fun p x p1 p2 hp => ?_⟩
  · have := h.uniq z ⟨c, hc, .inr ⟨by omega, by omega⟩⟩ ⟨c, hc, .inr ⟨by omega, by omega⟩⟩ e1 e2
    omega
  · obtain ⟨j, hj, hx2⟩ := vals_mem hl1 hl2 hx
    obtain ⟨u, g1, g2, g3, g4, _⟩ := h.fill c hc (e c + j) (by omega) (by omega)
    obtain rfl : x = u := by rw [hx2] at g1; injection g1 with g1; omega
    exact ⟨g2, g3, g4, _, by omega, by omega, hx2⟩
  · obtain ⟨u, hu, hu2⟩ := hl2 (p - e c) (by omega)
    rw [show e c + (p - e c) = p by omega, hp] at hu2
    obtain rfl : x = u := by injection hu2 with hu2; omega
    exact List.mem_iff_getElem?.2 ⟨_, hu⟩

/-- If the places of a symbol are all put, each of its smaller ones is there. -/
theorem SInv.all (h : SInv s K aL i a e src) (z : LEnd s K aL) {c : Nat} (hc : c < K) (hf : e c ≤ mid s c) {v : Nat} (hv : v < s.length) (hvc : sy s v = c) (hs : sm s v = true) : ∃ p, e c ≤ p ∧ p < lo s (c + 1) ∧ a[p]? = some (v : Int) := by
  obtain ⟨l, l1, l2, l3, l4⟩ := h.list z hc
  have hn : ns s c = cnt s.length (fun i => sy s i == c && sm s i) := rfl
  have hu := lo_succ s c
  have := cnt_full (n := s.length) (p := fun i => sy s i == c && sm s i) l2 (fun x hx => by
    obtain ⟨e1, e2, e3, _⟩ := l3 x hx
    exact ⟨by omega, by simp [e2, e3]⟩) (by omega) v hv (by simp [hvc, hs])
  exact (l3 v this).2.2.2

/-- The place that is seen next is in force. -/
theorem SInv.next (h : SInv s K aL (i + 1) a e src) (z : LEnd s K aL) {c : Nat} (hc : c < K) (h1 : mid s c ≤ i) (h2 : i < lo s (c + 1)) : e c ≤ i := by
  by_cases hlt : e c ≤ i
  · exact hlt
  exfalso
  have key : ∀ (m v : Nat), s.length - v ≤ m → v < s.length → sy s v = c → sm s v = true → ∃ p, e c ≤ p ∧ p < lo s (c + 1) ∧ a[p]? = some (v : Int) := by
    intro m
    induction m with
    | zero => intro v hm hv; omega
    | succ m ih =>
      intro v hm hv hvc hs
      have hv1 : v + 1 < s.length := by
        by_cases e : v + 1 < s.length
        · exact e
        · rw [sm_last s v (by omega)] at hs; cases hs
      have hd : ∃ q, i + 1 ≤ q ∧ a[q]? = some ((v + 1 : Nat) : Int) := by
        rcases sm_lt s v hv1 hs with g | ⟨g, g2⟩
        · have hc' := z.sym (v + 1) hv1
          have hmo := lo_mono s (show c + 1 ≤ sy s (v + 1) by omega)
          cases g3 : sm s (v + 1) with
          | false =>
            obtain ⟨p, p1, p2, p3⟩ := z.has (v + 1) hv1 g3
            exact ⟨p, by omega, by rw [h.keep _ hc' p p1 p2]; exact p3⟩
          | true =>
            have hm1 := lo_le_mid s (sy s (v + 1))
            have he : e (sy s (v + 1)) ≤ mid s (sy s (v + 1)) := by
              by_cases hh : mid s (sy s (v + 1)) < lo s (sy s (v + 1) + 1)
              · exact h.seen _ hc' (mid s (sy s (v + 1))) (Nat.le_refl _) hh (by omega)
              · have := h.e_lo _ hc'; omega
            obtain ⟨p, p1, p2, p3⟩ := h.all z hc' he hv1 rfl g3
            have := h.mid_e _ hc'
            exact ⟨p, by omega, p3⟩
        · obtain ⟨p, p1, p2, p3⟩ := ih (v + 1) (by omega) hv1 (by omega) g2
          exact ⟨p, by omega, p3⟩
      obtain ⟨p, p1, p2, p3⟩ := h.done v hv1 hs hd
      exact ⟨p, by rw [← hvc]; exact p1, by rw [← hvc]; exact p2, p3⟩
  have hcl := h.e_lo c hc
  obtain ⟨l, l1, l2, l3, l4⟩ := h.list z hc
  have hcov := cnt_cover (n := s.length) (p := fun i => sy s i == c && sm s i) (l := l) (fun x hx hp => by
    simp at hp
    obtain ⟨p, p1, p2, p3⟩ := key _ x (Nat.le_refl _) hx hp.1 hp.2
    exact l4 p x p1 p2 p3)
  have hn : ns s c = cnt s.length (fun i => sy s i == c && sm s i) := rfl
  have hu := lo_succ s c
  omega

/-- The row before any is put. -/
theorem SInv.init (z : LEnd s K aL) (src : Nat → Nat) : SInv s K aL s.length aL (fun c => lo s (c + 1)) src := by
  refine ⟨z.len, fun c _ => mid_le s c, fun c _ => Nat.le_refl _, fun c _ p _ _ => rfl, fun c _ p h1 h2 => by omega, fun c _ p q h1 h2 h3 => by omega, fun v hv hs hd => ?_, fun c hc p h1 h2 h3 => ?_⟩
  · obtain ⟨q, hq, hq2⟩ := hd
    have := (List.getElem?_eq_some_iff.1 hq2).1
    rw [z.len] at this; omega
  · have := lo_le s (c + 1); omega

/-- The place seen holds none whose predecessor is of the smaller kind. -/
theorem SInv.skip (h : SInv s K aL (i + 1) a e src) (z : LEnd s K aL) (hno : ∀ v : Nat, a[i]? = some ((v + 1 : Nat) : Int) → sm s v = false) : SInv s K aL i a e src := by
  refine ⟨h.len, h.mid_e, h.e_lo, h.keep, fun c hc p h1 h2 => ?_, h.mono, fun v hv hs hd => ?_, fun c hc p h1 h2 h3 => ?_⟩
  · obtain ⟨v, e1, e2, e3, e4, e5, e6⟩ := h.fill c hc p h1 h2
    exact ⟨v, e1, e2, e3, e4, by omega, e6⟩
  · refine h.done v hv hs ?_
    obtain ⟨q, hq, hq2⟩ := hd
    by_cases e : q = i
    · subst e
      have := hno v hq2
      rw [hs] at this; cases this
    · exact ⟨q, by omega, hq2⟩
  · by_cases e : p = i
    · subst e; exact h.next z hc h1 h2
    · exact h.seen c hc p h1 h2 (by omega)

theorem SInv.seen' (h : SInv s K aL (i + 1) a e src) (z : LEnd s K aL) (hi : i < s.length) : Good s e K i := by
  obtain ⟨c, hc, h1, h2⟩ := place s i K (by rw [lo_all s K z.sym]; exact hi)
  by_cases hm : i < mid s c
  · exact ⟨c, hc, .inl ⟨h1, hm⟩⟩
  · exact ⟨c, hc, .inr ⟨h.next z hc (by omega) h2, h2⟩⟩

/-- The place seen holds v + 1, and v is of the smaller kind: where v goes. -/
theorem SInv.room (h : SInv s K aL (i + 1) a e src) (z : LEnd s K aL) {v : Nat} (hi : i < s.length) (hv : a[i]? = some ((v + 1 : Nat) : Int)) (hs : sm s v = true) :
    v + 1 < s.length ∧ sy s v < K ∧ mid s (sy s v) < e (sy s v) ∧ e (sy s v) - 1 < i := by
  have gi := h.seen' z hi
  obtain ⟨u, g1, g2, g3, g4⟩ := h.at z gi
  obtain rfl : v + 1 = u := by rw [hv] at g1; injection g1 with g1; omega
  have hcv := z.sym v (by omega)
  have hme := h.mid_e _ hcv
  have hel := h.e_lo _ hcv
  obtain ⟨l, l1, l2, l3, l4⟩ := h.list z hcv
  have hnot : v ∉ l := fun hx => by
    obtain ⟨_, _, _, p, p1, p2, p3⟩ := l3 v hx
    obtain ⟨u, k1, k2, k3, k4, k5, k6, k7, k8⟩ := h.fill _ hcv p p1 p2
    obtain rfl : v = u := by rw [p3] at k1; injection k1 with k1; omega
    have := h.uniq z (h.good z k7 k5) gi k8 hv
    omega
  have hr := cnt_room (n := s.length) (p := fun i => sy s i == sy s v && sm s i) (l := v :: l) (List.nodup_cons.2 ⟨hnot, l2⟩) (fun y hy => by
    rcases List.mem_cons.1 hy with rfl | hy
    · exact ⟨by omega, by simp [hs]⟩
    · obtain ⟨e1, e2, e3, _⟩ := l3 y hy
      exact ⟨by omega, by simp [e2, e3]⟩)
  rw [List.length_cons, l1] at hr
  have hn : ns s (sy s v) = cnt s.length (fun i => sy s i == sy s v && sm s i) := rfl
  have hu := lo_succ s (sy s v)
  refine ⟨g2, hcv, by omega, ?_⟩
  rcases sm_lt s v g2 hs with k | ⟨k, k2⟩
  · have := lo_mono s (show sy s v + 1 ≤ sy s (v + 1) by omega)
    have h0 := lo_le_mid s (sy s (v + 1))
    have h5 := h.mid_e _ g3
    have : lo s (sy s (v + 1)) ≤ i := by
      rcases g4 with ⟨_, g4, _⟩ | ⟨_, g4, _⟩ <;> omega
    omega
  · rcases g4 with ⟨g4, _⟩ | ⟨_, g4, _⟩
    · rw [k2] at g4; cases g4
    · rw [k] at hme hn hr hel ⊢; rw [k] at hu; omega

/-- v is put. -/
theorem SInv.put (h : SInv s K aL (i + 1) a e src) (z : LEnd s K aL) {v : Nat} (hi : i < s.length) (hv : a[i]? = some ((v + 1 : Nat) : Int)) (hs : sm s v = true) :
    SInv s K aL i (a.set (e (sy s v) - 1) (v : Int)) (fun c => if c = sy s v then e c - 1 else e c) (fun p => if p = e (sy s v) - 1 then i else src p) := by
  obtain ⟨hv1, hcv, hme, hei⟩ := h.room z hi hv hs
  have hel := h.e_lo _ hcv
  have hle := lo_le s (sy s v + 1)
  have hlm := lo_le_mid s (sy s v)
  generalize hp0 : e (sy s v) - 1 = p0 at *
  have hpl : p0 < a.length := by rw [h.len]; omega
  have far : ∀ p, p ≠ p0 → (a.set p0 (v : Int))[p]? = a[p]? := fun p hp => getElem?_set_ne' _ _ _ _ hp
  have self : (a.set p0 (v : Int))[p0]? = some (v : Int) := getElem?_set_self' _ _ _ hpl
  have inb : ∀ c, c < K → lo s c ≤ p0 → p0 < lo s (c + 1) → c = sy s v := fun c _ h1 h2 => place_one s h1 h2 (by omega) (by omega)
  refine ⟨by rw [List.length_set]; exact h.len, fun c hc => ?_, fun c hc => ?_, fun c hc p h1 h2 => ?_, fun c hc p h1 h2 => ?_, fun c hc p q h1 h2 h3 => ?_, fun u hu hus hd => ?_, fun c hc p h1 h2 h3 => ?_⟩
  · have := h.mid_e c hc
    split
    · rename_i k; subst k; omega
    · exact this
  · have := h.e_lo c hc
    split <;> omega
  · rw [far p, h.keep c hc p h1 h2]
    intro k
    subst k
    have h5 := mid_le s c
    have := inb c hc h1 (by omega)
    subst this; omega
  · have old : e c ≤ p → p ≠ p0 → ∃ u : Nat, (a.set p0 (v : Int))[p]? = some (u : Int) ∧ u + 1 < s.length ∧ sy s u = c ∧ sm s u = true ∧ i ≤ (if p = p0 then i else src p) ∧ p < (if p = p0 then i else src p) ∧ (if p = p0 then i else src p) < s.length ∧ (a.set p0 (v : Int))[if p = p0 then i else src p]? = some ((u + 1 : Nat) : Int) := by
      intro h3 h4
      obtain ⟨u, e1, e2, e3, e4, e5, e6, e7, e8⟩ := h.fill c hc p h3 h2
      rw [far p h4, if_neg h4, far _ (by omega)]
      exact ⟨u, e1, e2, e3, e4, by omega, e6, e7, e8⟩
    by_cases k : c = sy s v
    · rw [if_pos k] at h1
      by_cases k2 : p = p0
      · rw [k2, self, if_pos rfl, far _ (by omega)]
        exact ⟨v, rfl, hv1, k.symm, hs, Nat.le_refl _, hei, hi, hv⟩
      · exact old (by subst k; omega) k2
    · rw [if_neg k] at h1
      refine old h1 (fun k2 => ?_)
      subst k2
      have := h.mid_e c hc
      have := lo_le_mid s c
      exact k (inb c hc (by omega) h2)
  · have hp : e c ≤ q := by revert h1; split <;> omega
    have hq0 : q ≠ p0 := by
      intro k
      subst k
      have := h.mid_e c hc
      have := lo_le_mid s c
      have := inb c hc (by omega) h3
      rw [if_pos this] at h1
      subst this; omega
    rw [if_neg hq0]
    by_cases k : p = p0
    · rw [if_pos k]
      obtain ⟨u, _, _, _, _, e5, _⟩ := h.fill c hc q hp h3
      omega
    · rw [if_neg k]
      refine h.mono c hc p q ?_ h2 h3
      by_cases k2 : c = sy s v
      · rw [if_pos k2] at h1; subst k2; omega
      · rw [if_neg k2] at h1; exact h1
  · by_cases k : u = v
    · subst k
      exact ⟨p0, by rw [if_pos rfl]; omega, by omega, self⟩
    · obtain ⟨q, hq, hq2⟩ := hd
      rw [far q (by omega)] at hq2
      obtain ⟨p, p1, p2, p3⟩ := h.done u hu hus (by
        refine ⟨q, ?_, hq2⟩
        by_cases k2 : q = i
        · subst k2
          rw [hv] at hq2; injection hq2 with hq2; omega
        · omega)
      refine ⟨p, by split <;> omega, p2, ?_⟩
      rw [far p, p3]
      intro k2
      subst k2
      have := h.mid_e _ (z.sym u (by omega))
      have := lo_le_mid s (sy s u)
      have := inb _ (z.sym u (by omega)) (by omega) p2
      rw [this] at p1; omega
  · have h4 : e c ≤ p := by
      by_cases k : p = i
      · subst k; exact h.next z hc h1 h2
      · exact h.seen c hc p h1 h2 (by omega)
    split <;> omega
end
end Lec.Sa

/- Sorted endings by sorted beginnings: plain. No program stands here. -/
set_option linter.unusedVariables false
set_option linter.unusedSimpArgs false
namespace Lec.Sa

/-- What inducing answers of a row of places: all endings, in an order that goes by symbols, kinds, and what stands behind. -/
def Induced (s d : List Nat) (K : Nat) (a : List Int) : Prop :=
  ∃ a0 aL nx srcL e srcS, A0 s d K a0 ∧ LInv s d K a0 s.length aL nx srcL ∧ SInv s K aL 0 a e srcS

theorem ind_L {s d : List Nat} {K : Nat} {a0 aL : List Int} {nx src : Nat → Nat} (h : LInv s d K a0 s.length aL nx src) (z : A0 s d K a0) (R : Nat → Nat → Prop)
    (h1 : ∀ v w, v < s.length → w < s.length → sy s v < sy s w → R v w)
    (h2 : ∀ v w, v < s.length → w < s.length → sy s v = sy s w → sm s v = false → sm s w = true → R v w)
    (h3 : ∀ v w, v ∈ d → w ∈ d → sy s v = sy s w → (∃ i j : Nat, i < j ∧ d[i]? = some v ∧ d[j]? = some w) → R v w)
    (h4 : ∀ v w, v + 1 = s.length → w + 1 < s.length → sy s v = sy s w → R v w)
    (h5 : ∀ v w, v + 1 < s.length → w + 1 < s.length → sy s v = sy s w → sm s v = false → sm s w = false → R (v + 1) (w + 1) → R v w) :
    ∀ (m v w p q : Nat), s.length - v ≤ m → p < q → aL[p]? = some (v : Int) → aL[q]? = some (w : Int) → R v w
  | 0, v, w, p, q, hm, hpq, hp, hq => by have := (h.at z hp).1; omega
  | m + 1, v, w, p, q, hm, hpq, hp, hq => by
    obtain ⟨hv, hcv, p1, p2, p3⟩ := h.at z hp
    obtain ⟨hw, hcw, q1, q2, q3⟩ := h.at z hq
    rcases Nat.lt_trichotomy (sy s v) (sy s w) with e | e | e
    · exact h1 v w hv hw e
    · rcases p3 with ⟨ps, p4⟩ | ⟨ps, p4, p5⟩
      · rcases q3 with ⟨qs, q4⟩ | ⟨qs, _⟩
        · have hmo := h.mono _ hcw p q (by rw [← e]; exact p1) hpq q4
          obtain ⟨u, a1, _, _, _, _, _, a2⟩ := h.fill _ hcv p p1 p4
          obtain ⟨t, b1, _, _, _, _, _, b2⟩ := h.fill _ hcw q q1 q4
          obtain rfl : v = u := by rw [hp] at a1; injection a1 with a1; omega
          obtain rfl : w = t := by rw [hq] at b1; injection b1 with b1; omega
          rcases b2 with ⟨b2, _⟩ | ⟨b2, b3, b4⟩
          · omega
          · rcases a2 with ⟨_, a3⟩ | ⟨a2, a3, a4⟩
            · exact h4 v w a3 b3 e
            · exact h5 v w a3 b3 e ps qs (ind_L h z R h1 h2 h3 h4 h5 m (v + 1) (w + 1) _ _ (by omega) (by omega) a4 b4)
        · exact h2 v w hv hw e ps qs
      · rcases q3 with ⟨qs, q4⟩ | ⟨qs, q4, q5⟩
        · have := h.nx_mid _ hcw
          rw [e] at p4; omega
        · rw [h.keep _ hcv p p4 p2] at hp
          rw [h.keep _ hcw q q4 q2] at hq
          exact h3 v w p5 q5 e (z.ord _ hcv p q p4 hpq (by rw [e]; exact q2) v w hp hq)
    · have := lo_mono s (show sy s w + 1 ≤ sy s v by omega)
      omega

theorem SInv.all0 {s : List Nat} {K : Nat} {aL a : List Int} {e src : Nat → Nat} (h : SInv s K aL 0 a e src) (z : LEnd s K aL) {p : Nat} (hp : p < s.length) : Good s e K p := h.good z hp (Nat.zero_le _)

theorem ind_S {s : List Nat} {K : Nat} {aL a : List Int} {e src : Nat → Nat} (h : SInv s K aL 0 a e src) (z : LEnd s K aL) (R : Nat → Nat → Prop)
    (h0 : ∀ v w p q : Nat, p < q → sm s v = false → sm s w = false → aL[p]? = some (v : Int) → aL[q]? = some (w : Int) → R v w)
    (h1 : ∀ v w, v < s.length → w < s.length → sy s v < sy s w → R v w)
    (h2 : ∀ v w, v < s.length → w < s.length → sy s v = sy s w → sm s v = false → sm s w = true → R v w)
    (h5 : ∀ v w, v + 1 < s.length → w + 1 < s.length → sy s v = sy s w → sm s v = true → sm s w = true → R (v + 1) (w + 1) → R v w) :
    ∀ (m v w p q : Nat), s.length - v ≤ m → p < q → q < s.length → a[p]? = some (v : Int) → a[q]? = some (w : Int) → R v w
  | 0, v, w, p, q, hm, hpq, hql, hp, hq => by
    obtain ⟨u, a1, a2, _⟩ := h.at z (h.all0 z (show p < s.length by omega))
    rw [hp] at a1; injection a1 with a1; omega
  | m + 1, v, w, p, q, hm, hpq, hql, hp, hq => by
    obtain ⟨u, a1, hv, hcv, p3⟩ := h.at z (h.all0 z (show p < s.length by omega))
    obtain ⟨t, b1, hw, hcw, q3⟩ := h.at z (h.all0 z hql)
    obtain rfl : v = u := by rw [hp] at a1; injection a1 with a1; omega
    obtain rfl : w = t := by rw [hq] at b1; injection b1 with b1; omega
    have lp : lo s (sy s v) ≤ p ∧ p < lo s (sy s v + 1) := by
      have := mid_le s (sy s v); have := lo_le_mid s (sy s v); have := h.mid_e _ hcv
      rcases p3 with ⟨_, x, y, _⟩ | ⟨_, x, y⟩ <;> omega
    have lq : lo s (sy s w) ≤ q ∧ q < lo s (sy s w + 1) := by
      have := mid_le s (sy s w); have := lo_le_mid s (sy s w); have := h.mid_e _ hcw
      rcases q3 with ⟨_, x, y, _⟩ | ⟨_, x, y⟩ <;> omega
    rcases Nat.lt_trichotomy (sy s v) (sy s w) with k | k | k
    · exact h1 v w hv hw k
    · rcases p3 with ⟨ps, p4, p5, p6⟩ | ⟨ps, p4, p5⟩
      · rcases q3 with ⟨qs, q4, q5, q6⟩ | ⟨qs, q4, q5⟩
        · exact h0 v w p q hpq ps qs p6 q6
        · exact h2 v w hv hw k ps qs
      · rcases q3 with ⟨qs, q4, q5, q6⟩ | ⟨qs, q4, q5⟩
        · have := h.mid_e _ hcv
          rw [k] at p4 this; omega
        · have hmo := h.mono _ hcv p q p4 hpq (by rw [k]; exact q5)
          obtain ⟨u, a1, av, _, _, _, _, al, a2⟩ := h.fill _ hcv p p4 p5
          obtain ⟨t, b1, bv, _, _, _, _, bl, b2⟩ := h.fill _ hcw q q4 q5
          obtain rfl : v = u := by rw [hp] at a1; injection a1 with a1; omega
          obtain rfl : w = t := by rw [hq] at b1; injection b1 with b1; omega
          exact h5 v w av bv k ps qs (ind_S h z R h0 h1 h2 h5 m (v + 1) (w + 1) _ _ (by omega) hmo bl a2 b2)
    · have := lo_mono s (show sy s w + 1 ≤ sy s v by omega)
      omega

/-- The ending of a list that has sorted endings. -/
structure IsSA (s a : List Nat) : Prop where
  len : a.length = s.length
  lt : ∀ v, v ∈ a → v < s.length
  ord : a.Pairwise (fun v w => s.drop v < s.drop w)

theorem sorted_eq {R : Nat → Nat → Prop} (hir : ∀ x, ¬ R x x) (has : ∀ x y, R x y → ¬ R y x) : ∀ {a b : List Nat}, a.Pairwise R → b.Pairwise R → (∀ x, x ∈ a ↔ x ∈ b) → a = b
  | [], [], _, _, _ => rfl
  | [], y :: ys, _, _, h => by have := (h y).2 (by simp); simp at this
  | x :: xs, [], _, _, h => by have := (h x).1 (by simp); simp at this
  | x :: xs, y :: ys, ha, hb, h => by
    rw [List.pairwise_cons] at ha hb
    have e : x = y := by
      rcases List.mem_cons.1 ((h x).1 (by simp)) with k | k
      · exact k
      · rcases List.mem_cons.1 ((h y).2 (by simp)) with k' | k'
        · exact k'.symm
        · exact absurd (ha.1 y k') (has _ _ (hb.1 x k))
    subst e
    congr 1
    refine sorted_eq hir has ha.2 hb.2 (fun z => ?_)
    constructor
    · intro hz
      rcases List.mem_cons.1 ((h z).1 (by simp [hz])) with k | k
      · subst k; exact absurd (ha.1 z hz) (hir z)
      · exact k
    · intro hz
      rcases List.mem_cons.1 ((h z).2 (by simp [hz])) with k | k
      · subst k; exact absurd (hb.1 z hz) (hir z)
      · exact k

theorem IsSA.nodup {s a : List Nat} (h : IsSA s a) : a.Nodup := by
  rw [List.nodup_iff_pairwise_ne]
  refine h.ord.imp ?_
  intro x y hxy e
  subst e
  exact List.lt_irrefl _ hxy

theorem IsSA.mem {s a : List Nat} (h : IsSA s a) (v : Nat) : v ∈ a ↔ v < s.length := by
  constructor
  · exact h.lt v
  · intro hv
    exact nodup_all h.nodup (m := List.range s.length) (fun x hx => List.mem_range.2 (h.lt x hx)) (by simp [h.len]) v (List.mem_range.2 hv)

theorem IsSA.eq {s a b : List Nat} (h : IsSA s a) (k : IsSA s b) : a = b :=
  sorted_eq (R := fun v w => s.drop v < s.drop w) (fun x => List.lt_irrefl _) (fun x y h1 h2 => List.lt_asymm h1 h2) h.ord k.ord (fun x => by rw [h.mem, k.mem])

/-- A row of integers that are all numbers. -/
theorem Induced.nat {s d : List Nat} {K : Nat} {a : List Int} (h : Induced s d K a) : ∃ b : List Nat, a = b.map (fun v => ((v : Nat) : Int)) ∧ b.length = s.length ∧ b.Nodup ∧ ∀ v, v ∈ b → v < s.length := by
  obtain ⟨a0, aL, nx, srcL, e, srcS, z, hL, hS⟩ := h
  have zE := hL.toEnd z
  obtain ⟨l, l1, l2⟩ := vals (a := a) 0 s.length (fun j hj => by
    obtain ⟨u, hu, _⟩ := hS.at zE (hS.all0 zE (show 0 + j < s.length by omega))
    exact ⟨u, hu⟩)
  refine ⟨l, ?_, l1, vals_nodup l1 l2 (fun j k v hj hk e1 e2 => ?_), fun v hv => ?_⟩
  · apply List.ext_getElem?
    intro j
    by_cases hj : j < s.length
    · obtain ⟨v, v1, v2⟩ := l2 j hj
      rw [Nat.zero_add] at v2
      rw [v2, List.getElem?_map, v1]; rfl
    · rw [List.getElem?_eq_none (by rw [hS.len]; omega), List.getElem?_eq_none (by rw [List.length_map]; omega)]
  · have := hS.uniq zE (hS.all0 zE (show 0 + j < s.length by omega)) (hS.all0 zE (show 0 + k < s.length by omega)) e1 e2
    omega
  · obtain ⟨j, hj, hj2⟩ := vals_mem l1 l2 hv
    obtain ⟨u, u1, u2, _⟩ := hS.at zE (hS.all0 zE (show 0 + j < s.length by omega))
    rw [hj2] at u1; injection u1 with u1; omega

/-- Laid in order they make all endings ordered. -/
theorem Induced.sorted {s d : List Nat} {K : Nat} {b : List Nat} (h : Induced s d K (b.map (fun v => ((v : Nat) : Int)))) (hd : d.Pairwise (fun v w => s.drop v < s.drop w)) : IsSA s b := by
  obtain ⟨b', e1, e2, e3, e4⟩ := h.nat
  have : b' = b := by
    have := List.map_inj_right (f := fun v : Nat => (v : Int)) (fun x y h => by have h' : (x : Int) = (y : Int) := h; omega) |>.1 e1
    exact this.symm
  subst this
  refine ⟨e2, e4, ?_⟩
  rw [List.pairwise_iff_getElem]
  intro p q hp hq hpq
  obtain ⟨a0, aL, nx, srcL, e, srcS, z, hL, hS⟩ := h
  have zE := hL.toEnd z
  have hLL := ind_L hL z (fun v w => s.drop v < s.drop w) (fun v w hv hw k => (lt_step s v w hv hw).2 (.inl k)) (fun v w hv hw k k1 k2 => kinds s v w hv hw k k1 k2)
    (fun v w _ _ _ ⟨i, j, hij, i1, j1⟩ => by
      rw [List.pairwise_iff_getElem] at hd
      obtain ⟨a1, b1⟩ := List.getElem?_eq_some_iff.1 i1
      obtain ⟨a2, b2⟩ := List.getElem?_eq_some_iff.1 j1
      have := hd i j a1 a2 hij
      rw [b1, b2] at this; exact this)
    (fun v w hv hw k => (lt_step s v w (by omega) (by omega)).2 (.inr ⟨k, end_lt s _ _ (by omega) hw⟩))
    (fun v w hv hw k _ _ hr => (lt_step s v w (by omega) (by omega)).2 (.inr ⟨k, hr⟩))
  refine ind_S hS zE (fun v w => s.drop v < s.drop w) (fun v w p q hpq _ _ i j => hLL _ v w p q (Nat.le_refl _) hpq i j) (fun v w hv hw k => (lt_step s v w hv hw).2 (.inl k)) (fun v w hv hw k k1 k2 => kinds s v w hv hw k k1 k2)
    (fun v w hv hw k _ _ hr => (lt_step s v w (by omega) (by omega)).2 (.inr ⟨k, hr⟩)) _ _ _ p q (Nat.le_refl _) hpq (by omega) ?_ ?_
  · simp [hp]
  · simp [hq]

/-! Pieces. -/
def Lms (s : List Nat) (v : Nat) : Prop := 0 < v ∧ v < s.length ∧ sm s v = true ∧ sm s (v - 1) = false

/-- Two pieces are the same. -/
inductive Eq' (s : List Nat) : Nat → Nat → Prop
  | last {v w : Nat} : sy s v = sy s w → sm s v = sm s w → Lms s (v + 1) → Lms s (w + 1) → sy s (v + 1) = sy s (w + 1) → Eq' s v w
  | next {v w : Nat} : sy s v = sy s w → sm s v = sm s w → ¬ Lms s (v + 1) → ¬ Lms s (w + 1) → v + 1 < s.length → w + 1 < s.length → Eq' s (v + 1) (w + 1) → Eq' s v w

theorem Eq'.symm {s : List Nat} {v w : Nat} (h : Eq' s v w) : Eq' s w v := by
  induction h with
  | last a b c d e => exact .last a.symm b.symm d c e.symm
  | next a b c d e f _ ih => exact .next a.symm b.symm d c f e ih

theorem Eq'.trans {s : List Nat} {u v w : Nat} (h : Eq' s u v) (k : Eq' s v w) : Eq' s u w := by
  induction h generalizing w with
  | last a b c d e =>
    cases k with
    | last a' b' c' d' e' => exact .last (a.trans a') (b.trans b') c d' (e.trans e')
    | next a' b' c' d' _ _ _ => exact absurd d c'
  | next a b c d e f _ ih =>
    cases k with
    | last a' b' c' d' e' => exact absurd c' d
    | next a' b' c' d' e' f' k => exact .next (a.trans a') (b.trans b') c d' e f' (ih k)

theorem Eq'.esy {s : List Nat} {v w : Nat} (h : Eq' s v w) : sy s v = sy s w := by cases h <;> assumption
theorem Eq'.esm {s : List Nat} {v w : Nat} (h : Eq' s v w) : sm s v = sm s w := by cases h <;> assumption

/-- What stands between two same pieces' endings is the same, too. -/
theorem Eq'.mid {s : List Nat} {v w : Nat} (h : Eq' s v w) : ∀ {m : Nat}, v < s.length → w < s.length → m < s.length → s.drop v < s.drop m → s.drop m < s.drop w → Eq' s v m := by
  have base : ∀ {v w m : Nat}, sy s v = sy s w → sm s v = sm s w → v < s.length → w < s.length → m < s.length → s.drop v < s.drop m → s.drop m < s.drop w →
      sy s v = sy s m ∧ sm s v = sm s m ∧ s.drop (v + 1) < s.drop (m + 1) ∧ s.drop (m + 1) < s.drop (w + 1) ∧ m + 1 < s.length := by
    intro v w m e1 e2 hv hw hm h1 h2
    have hk : sm s v = sm s m := by
      cases hs : sm s v with
      | false =>
        cases hs2 : sm s m with
        | false => rfl
        | true =>
          have h3 := (lt_step s v m hv hm).1 h1
          have h4 := (lt_step s m w hm hw).1 h2
          have : sy s w = sy s m := by omega
          exact absurd h2 (List.lt_asymm (kinds s w m hw hm this (by rw [← e2]; exact hs) hs2))
      | true =>
        cases hs2 : sm s m with
        | true => rfl
        | false =>
          have h3 := (lt_step s v m hv hm).1 h1
          have h4 := (lt_step s m w hm hw).1 h2
          have : sy s m = sy s v := by omega
          exact absurd h1 (List.lt_asymm (kinds s m v hm hv this hs2 hs))
    rw [lt_step s v m hv hm] at h1
    rw [lt_step s m w hm hw] at h2
    have e3 : sy s v = sy s m := by omega
    have h3 : s.drop (v + 1) < s.drop (m + 1) := by
      rcases h1 with h1 | h1
      · omega
      · exact h1.2
    refine ⟨e3, hk, h3, ?_, ?_⟩
    · rcases h2 with h2 | h2
      · omega
      · exact h2.2
    · by_cases hl : m + 1 < s.length
      · exact hl
      · rw [drop_end s (m + 1) (by omega)] at h3
        exact absurd h3 (lt_nil _)
  induction h with
  | @last v w a b c d e =>
    intro m hv hw hm h1 h2
    obtain ⟨k1, k2, k3, k4, k5⟩ := base a b hv hw hm h1 h2
    have hv1 := c.2.1
    have hw1 := d.2.1
    have k3' := (lt_step s (v + 1) (m + 1) hv1 k5).1 k3
    have k4' := (lt_step s (m + 1) (w + 1) k5 hw1).1 k4
    have e1 : sy s (v + 1) = sy s (m + 1) := by omega
    have e2 : sm s (m + 1) = true := by
      cases hs : sm s (m + 1) with
      | true => rfl
      | false => exact absurd k3 (List.lt_asymm (kinds s (m + 1) (v + 1) k5 hv1 e1.symm hs c.2.2.1))
    refine .last k1 k2 c ⟨by omega, k5, e2, ?_⟩ e1
    have := c.2.2.2
    rw [Nat.add_sub_cancel] at this ⊢
    rw [← k2]; exact this
  | @next v w a b c d e f _ ih =>
    intro m hv hw hm h1 h2
    obtain ⟨k1, k2, k3, k4, k5⟩ := base a b hv hw hm h1 h2
    have ie := ih e f k5 k3 k4
    refine .next k1 k2 c (fun hl => c ⟨by omega, e, ?_, ?_⟩) e k5 ie
    · rw [ie.esm]; exact hl.2.2.1
    · have := hl.2.2.2
      rw [Nat.add_sub_cancel] at this ⊢
      rw [k2]; exact this

/-- Laid in any order they make all endings ordered up to pieces. -/
theorem Induced.pieces {s d : List Nat} {K : Nat} {b : List Nat} (h : Induced s d K (b.map (fun v => ((v : Nat) : Int)))) {p q v w : Nat} (hpq : p < q) (hp : b[p]? = some v) (hq : b[q]? = some w) (hne : ¬ Eq' s v w) : s.drop v < s.drop w := by
  obtain ⟨b', e1, e2, e3, e4⟩ := h.nat
  have : b' = b := by
    have := List.map_inj_right (f := fun v : Nat => (v : Int)) (fun x y h => by have h' : (x : Int) = (y : Int) := h; omega) |>.1 e1
    exact this.symm
  subst this
  obtain ⟨a0, aL, nx, srcL, e, srcS, z, hL, hS⟩ := h
  have zE := hL.toEnd z
  have nl : ∀ v, sm s v = false → ¬ Lms s v := fun v hv hl => by rw [hl.2.2.1] at hv; cases hv
  have hLL := ind_L hL z (fun v w => ¬ (Lms s v ∧ Lms s w ∧ sy s v = sy s w ∨ ¬ Lms s v ∧ ¬ Lms s w ∧ v < s.length ∧ w < s.length ∧ Eq' s v w) → s.drop v < s.drop w)
    (fun v w hv hw k _ => (lt_step s v w hv hw).2 (.inl k)) (fun v w hv hw k k1 k2 _ => kinds s v w hv hw k k1 k2)
    (fun v w hv hw k _ hn => absurd (.inl ⟨by have := z.lms v hv; exact ⟨this.2.1, this.1, this.2.2⟩, by have := z.lms w hw; exact ⟨this.2.1, this.1, this.2.2⟩, k⟩) hn)
    (fun v w hv hw k _ => (lt_step s v w (by omega) (by omega)).2 (.inr ⟨k, end_lt s _ _ (by omega) hw⟩))
    (fun v w hv hw k k1 k2 hr hn => by
      refine (lt_step s v w (by omega) (by omega)).2 (.inr ⟨k, hr (fun hx => hn (.inr ⟨nl v k1, nl w k2, by omega, by omega, ?_⟩))⟩)
      rcases hx with ⟨x1, x2, x3⟩ | ⟨x1, x2, x3, x4, x5⟩
      · exact .last k (k1.trans k2.symm) x1 x2 x3
      · exact .next k (k1.trans k2.symm) x1 x2 x3 x4 x5)
  have hql := (List.getElem?_eq_some_iff.1 hq).1
  refine ind_S hS zE (fun v w => ¬ Eq' s v w → s.drop v < s.drop w)
    (fun v w p q hpq k1 k2 i j hn => hLL _ v w p q (Nat.le_refl _) hpq i j (fun hx => by
      rcases hx with ⟨x1, _⟩ | ⟨_, _, _, _, x5⟩
      · exact nl v k1 x1
      · exact hn x5))
    (fun v w hv hw k _ => (lt_step s v w hv hw).2 (.inl k)) (fun v w hv hw k k1 k2 _ => kinds s v w hv hw k k1 k2)
    (fun v w hv hw k k1 k2 hr hn => (lt_step s v w (by omega) (by omega)).2 (.inr ⟨k, hr (fun hx => hn (.next k (k1.trans k2.symm) (fun hl => ?_) (fun hl => ?_) hv hw hx))⟩))
    _ v w p q (Nat.le_refl _) hpq (by omega) (by simp [hp]) (by simp [hq]) hne
  · have := hl.2.2.2; rw [Nat.add_sub_cancel, k1] at this; cases this
  · have := hl.2.2.2; rw [Nat.add_sub_cancel, k2] at this; cases this
end Lec.Sa

/- Laying places; pieces' names; the shorter list: plain. No program stands here. -/
set_option linter.unusedVariables false
set_option linter.unusedSimpArgs false
namespace Lec.Sa

/-- Does a smaller ending with a larger one ahead begin at i? -/
def lmsB (s : List Nat) (i : Nat) : Bool := decide (0 < i) && (decide (i < s.length) && (sm s i && !sm s (i - 1)))
theorem lmsB_iff (s : List Nat) (i : Nat) : lmsB s i = true ↔ Lms s i := by unfold lmsB Lms; simp
/-- Where they begin, rising. -/
def lmsL (s : List Nat) : List Nat := (List.range s.length).filter (lmsB s)
theorem lmsL_mem (s : List Nat) (v : Nat) : v ∈ lmsL s ↔ Lms s v := by
  unfold lmsL; rw [List.mem_filter, List.mem_range, lmsB_iff]
  exact ⟨fun h => h.2, fun h => ⟨h.2.1, h⟩⟩
theorem lmsL_nodup (s : List Nat) : (lmsL s).Nodup := List.nodup_range.filter _
theorem lmsL_rise (s : List Nat) : (lmsL s).Pairwise (· < ·) := List.pairwise_lt_range.filter _
theorem lmsL_len (s : List Nat) : (lmsL s).length = cnt s.length (lmsB s) := rfl

theorem cnt_mono (p : Nat → Bool) {m n : Nat} (h : m ≤ n) : cnt m p ≤ cnt n p := by
  induction n with
  | zero => obtain rfl : m = 0 := by omega
            exact Nat.le_refl _
  | succ n ih =>
    by_cases e : m = n + 1
    · subst e; exact Nat.le_refl _
    · rw [cnt_succ]; have := ih (by omega); omega

theorem filter_at (p : Nat → Bool) : ∀ (n i : Nat), i < n → p i = true → ((List.range n).filter p)[cnt i p]? = some i
  | 0, i, h, _ => by omega
  | n + 1, i, h, hp => by
    rw [List.range_succ, List.filter_append]
    by_cases e : i = n
    · subst e
      rw [List.getElem?_append_right (by exact Nat.le_refl _)]
      simp [cnt, hp]
    · rw [List.getElem?_append_left ?_]
      · exact filter_at p n i (by omega) hp
      · have := cnt_mono p (show i + 1 ≤ n by omega)
        rw [cnt_succ, hp] at this
        exact Nat.lt_of_lt_of_le (Nat.lt_succ_self _) this

/-- The number of one. -/
def idx (s : List Nat) (v : Nat) : Nat := cnt v (lmsB s)
theorem idx_at {s : List Nat} {v : Nat} (h : Lms s v) : (lmsL s)[idx s v]? = some v := filter_at _ _ _ h.2.1 ((lmsB_iff s v).2 h)
theorem idx_lt {s : List Nat} {v : Nat} (h : Lms s v) : idx s v < (lmsL s).length := (List.getElem?_eq_some_iff.1 (idx_at h)).1
theorem idx_get {s : List Nat} {j v : Nat} (h : (lmsL s)[j]? = some v) : idx s v = j := by
  have hv : Lms s v := (lmsL_mem s v).1 (List.mem_iff_getElem?.2 ⟨j, h⟩)
  have hn := lmsL_nodup s
  have e := idx_at hv
  obtain ⟨a1, b1⟩ := List.getElem?_eq_some_iff.1 e
  obtain ⟨a2, b2⟩ := List.getElem?_eq_some_iff.1 h
  rw [List.nodup_iff_pairwise_ne, List.pairwise_iff_getElem] at hn
  rcases Nat.lt_trichotomy (idx s v) j with k | k | k
  · exact absurd (b1.trans b2.symm) (hn _ _ a1 a2 k)
  · exact k
  · exact absurd (b2.trans b1.symm) (hn _ _ a2 a1 k)
/-- There are at most half as many. -/
theorem lms_half (s : List Nat) : ∀ n, 2 * cnt n (lmsB s) ≤ n ∧ (lmsB s n = true → 2 * cnt n (lmsB s) + 1 ≤ n)
  | 0 => ⟨by simp [cnt], fun h => by simp [lmsB] at h⟩
  | n + 1 => by
    obtain ⟨h1, h2⟩ := lms_half s n
    rw [cnt_succ]
    cases h : lmsB s n with
    | false =>
      simp only [Bool.toNat_false]
      exact ⟨by omega, fun _ => by omega⟩
    | true =>
      have := h2 h
      simp only [Bool.toNat_true]
      refine ⟨by omega, fun h3 => ?_⟩
      exfalso
      rw [lmsB_iff] at h h3
      have := h3.2.2.2
      rw [Nat.add_sub_cancel, h.2.2.1] at this; cases this
theorem lmsL_half (s : List Nat) : 2 * (lmsL s).length ≤ s.length := (lms_half s s.length).1

/-- The row while places are laid: m of them are. -/
structure P0 (s d : List Nat) (K m : Nat) (a : List Int) (nx src : Nat → Nat) : Prop where
  len : a.length = s.length
  mid_nx : ∀ c, c < K → mid s c ≤ nx c
  nx_lo : ∀ c, c < K → nx c ≤ lo s (c + 1)
  fill : ∀ c, c < K → ∀ p, mid s c ≤ p → p < nx c → ∃ v : Nat, a[p]? = some (v : Int) ∧ src p < m ∧ d[src p]? = some v ∧ sy s v = c
  mono : ∀ c, c < K → ∀ p q, mid s c ≤ p → p < q → q < nx c → src p < src q
  low : ∀ c, c < K → ∀ p, lo s c ≤ p → p < mid s c → a[p]? = some (-1)
  free : ∀ c, c < K → ∀ p, nx c ≤ p → p < lo s (c + 1) → a[p]? = some (-1)
  done : ∀ j, j < m → ∀ v, d[j]? = some v → ∃ p, mid s (sy s v) ≤ p ∧ p < nx (sy s v) ∧ a[p]? = some (v : Int)

/-- What places may be laid. -/
structure Lay (s d : List Nat) (K : Nat) : Prop where
  pos : 0 < s.length
  sym : ∀ i, i < s.length → sy s i < K
  nod : d.Nodup
  mem : ∀ v, v ∈ d ↔ Lms s v

theorem Lay.lms {s d : List Nat} {K : Nat} (h : Lay s d K) {j v : Nat} (hj : d[j]? = some v) : Lms s v := (h.mem v).1 (List.mem_iff_getElem?.2 ⟨j, hj⟩)

theorem P0.init {s d : List Nat} {K : Nat} (h : Lay s d K) : P0 s d K 0 (List.replicate s.length (-1)) (mid s) (fun _ => 0) := by
  have hr : ∀ p, p < s.length → (List.replicate s.length (-1 : Int))[p]? = some (-1) := fun p hp => by rw [List.getElem?_replicate, if_pos hp]
  refine ⟨by simp, fun c _ => Nat.le_refl _, fun c _ => mid_le s c, fun c _ p h1 h2 => by omega, fun c _ p q h1 h2 h3 => by omega, fun c _ p h1 h2 => hr p ?_, fun c _ p h1 h2 => hr p ?_, fun j hj => by omega⟩
  · have := mid_le s c; have := lo_le s (c + 1); omega
  · have := lo_le s (c + 1); omega

section
variable {s d : List Nat} {K m : Nat} {a : List Int} {nx src : Nat → Nat}
theorem P0.room (h : P0 s d K m a nx src) (z : Lay s d K) {v : Nat} (hv : d[m]? = some v) : sy s v < K ∧ v < s.length ∧ nx (sy s v) < lo s (sy s v + 1) := by
  have hl := z.lms hv
  have hc := z.sym v hl.2.1
  refine ⟨hc, hl.2.1, ?_⟩
  have hm := h.mid_nx _ hc
  obtain ⟨l, l1, l2⟩ := vals (a := a) (mid s (sy s v)) (nx (sy s v) - mid s (sy s v)) (fun j hj => by
    obtain ⟨u, hu, _⟩ := h.fill _ hc (mid s (sy s v) + j) (by omega) (by omega)
    exact ⟨u, hu⟩)
  have hnd := z.nod
  rw [List.nodup_iff_pairwise_ne, List.pairwise_iff_getElem] at hnd
  have dd : ∀ i j (u : Nat), d[i]? = some u → d[j]? = some u → i = j := fun i j u e1 e2 => by
    obtain ⟨a1, b1⟩ := List.getElem?_eq_some_iff.1 e1
    obtain ⟨a2, b2⟩ := List.getElem?_eq_some_iff.1 e2
    rcases Nat.lt_trichotomy i j with k | k | k
    · exact absurd (b1.trans b2.symm) (hnd _ _ a1 a2 k)
    · exact k
    · exact absurd (b2.trans b1.symm) (hnd _ _ a2 a1 k)
  have l3 : l.Nodup := vals_nodup l1 l2 (fun j k u hj hk e1 e2 => by
    obtain ⟨u1, x1, x2, x3, x4⟩ := h.fill _ hc (mid s (sy s v) + j) (by omega) (by omega)
    obtain ⟨u2, y1, y2, y3, y4⟩ := h.fill _ hc (mid s (sy s v) + k) (by omega) (by omega)
    obtain rfl : u = u1 := by rw [e1] at x1; injection x1 with x1; omega
    obtain rfl : u = u2 := by rw [e2] at y1; injection y1 with y1; omega
    have e := dd _ _ u x3 y3
    rcases Nat.lt_trichotomy j k with k' | k' | k'
    · have := h.mono _ hc (mid s (sy s v) + j) (mid s (sy s v) + k) (by omega) (by omega) (by omega); omega
    · exact k'
    · have := h.mono _ hc (mid s (sy s v) + k) (mid s (sy s v) + j) (by omega) (by omega) (by omega); omega)
  have hr := cnt_room (n := s.length) (p := fun i => sy s i == sy s v && sm s i) (l := v :: l) (List.nodup_cons.2 ⟨fun hx => by
      obtain ⟨j, hj, hx2⟩ := vals_mem l1 l2 hx
      obtain ⟨u1, x1, x2, x3, x4⟩ := h.fill _ hc (mid s (sy s v) + j) (by omega) (by omega)
      obtain rfl : v = u1 := by rw [hx2] at x1; injection x1 with x1; omega
      have := dd _ _ v x3 hv
      omega, l3⟩) (fun y hy => by
    rcases List.mem_cons.1 hy with rfl | hy
    · exact ⟨hl.2.1, by simp [hl.2.2.1]⟩
    · obtain ⟨j, hj, hx2⟩ := vals_mem l1 l2 hy
      obtain ⟨u1, x1, x2, x3, x4⟩ := h.fill _ hc (mid s (sy s v) + j) (by omega) (by omega)
      obtain rfl : y = u1 := by rw [hx2] at x1; injection x1 with x1; omega
      have := z.lms x3
      exact ⟨this.2.1, by simp [x4, this.2.2.1]⟩)
  rw [List.length_cons, l1] at hr
  have hn : ns s (sy s v) = cnt s.length (fun i => sy s i == sy s v && sm s i) := rfl
  have hu := lo_succ s (sy s v)
  omega

theorem P0.put (h : P0 s d K m a nx src) (z : Lay s d K) {v : Nat} (hv : d[m]? = some v) :
    P0 s d K (m + 1) (a.set (nx (sy s v)) (v : Int)) (fun c => if c = sy s v then nx c + 1 else nx c) (fun p => if p = nx (sy s v) then m else src p) := by
  obtain ⟨hc, hvl, hr⟩ := h.room z hv
  have hm := h.mid_nx _ hc
  have hle := lo_le s (sy s v + 1)
  have hlm := lo_le_mid s (sy s v)
  generalize hp0 : nx (sy s v) = p0 at *
  have hpl : p0 < a.length := by rw [h.len]; omega
  have far : ∀ p, p ≠ p0 → (a.set p0 (v : Int))[p]? = a[p]? := fun p hp => getElem?_set_ne' _ _ _ _ hp
  have self : (a.set p0 (v : Int))[p0]? = some (v : Int) := getElem?_set_self' _ _ _ hpl
  have inb : ∀ c, c < K → lo s c ≤ p0 → p0 < lo s (c + 1) → c = sy s v := fun c _ h1 h2 => place_one s h1 h2 (by omega) (by omega)
  refine ⟨by rw [List.length_set]; exact h.len, fun c hc => ?_, fun c hc => ?_, fun c hc p h1 h2 => ?_, fun c hc p q h1 h2 h3 => ?_, fun c hc p h1 h2 => ?_, fun c hc p h1 h2 => ?_, fun j hj u hu => ?_⟩
  · have := h.mid_nx c hc
    split <;> omega
  · have := h.nx_lo c hc
    split
    · rename_i k; subst k; omega
    · exact this
  · have old : p < nx c → p ≠ p0 → ∃ u : Nat, (a.set p0 (v : Int))[p]? = some (u : Int) ∧ (if p = p0 then m else src p) < m + 1 ∧ d[if p = p0 then m else src p]? = some u ∧ sy s u = c := by
      intro h3 h4
      obtain ⟨u, e1, e2, e3, e4⟩ := h.fill c hc p h1 h3
      rw [far p h4, if_neg h4]
      exact ⟨u, e1, by omega, e3, e4⟩
    by_cases k : c = sy s v
    · rw [if_pos k] at h2
      by_cases k2 : p = p0
      · rw [k2, self, if_pos rfl]
        exact ⟨v, rfl, by omega, hv, k.symm⟩
      · exact old (by subst k; omega) k2
    · rw [if_neg k] at h2
      refine old h2 (fun k2 => ?_)
      subst k2
      have := h.nx_lo c hc
      have := lo_le_mid s c
      exact k (inb c hc (by omega) (by omega))
  · have hpx : p < nx c := by
      by_cases k : c = sy s v
      · rw [if_pos k] at h3; subst k; omega
      · rw [if_neg k] at h3; omega
    have hpn : p ≠ p0 := by
      intro k
      subst k
      have := h.nx_lo c hc
      have := lo_le_mid s c
      have := inb c hc (by omega) (by omega)
      subst this; omega
    rw [if_neg hpn]
    by_cases k : q = p0
    · rw [if_pos k]
      obtain ⟨u, _, e2, _⟩ := h.fill c hc p h1 hpx
      exact e2
    · rw [if_neg k]
      refine h.mono c hc p q h1 h2 ?_
      by_cases k2 : c = sy s v
      · rw [if_pos k2] at h3; subst k2; omega
      · rw [if_neg k2] at h3; exact h3
  · rw [far p, h.low c hc p h1 h2]
    intro k
    subst k
    have := mid_le s c
    have := inb c hc h1 (by omega)
    subst this; omega
  · have h4 : nx c ≤ p := by revert h1; split <;> omega
    rw [far p, h.free c hc p h4 h2]
    intro k
    subst k
    have := h.mid_nx c hc
    have := lo_le_mid s c
    have := inb c hc (by omega) h2
    rw [if_pos this] at h1
    subst this; omega
  · by_cases k : j = m
    · subst k
      obtain rfl : v = u := by rw [hv] at hu; injection hu
      exact ⟨p0, by omega, by rw [if_pos rfl]; omega, self⟩
    · obtain ⟨p, p1, p2, p3⟩ := h.done j (by omega) u hu
      refine ⟨p, p1, by split <;> omega, ?_⟩
      rw [far p, p3]
      intro k2
      subst k2
      have hcu := z.sym u (z.lms hu).2.1
      have := h.nx_lo _ hcu
      have := lo_le_mid s (sy s u)
      have := inb _ hcu (by omega) (by omega)
      rw [this] at p2; omega

theorem P0.toA0 (h : P0 s d K d.length a nx src) (z : Lay s d K) : A0 s d K a := by
  refine ⟨h.len, z.pos, z.sym, z.nod, fun v hv => ?_, fun v h1 h2 h3 h4 => (z.mem v).2 ⟨h2, h1, h3, h4⟩, h.low, fun c hc p h1 h2 => ?_, fun c hc p q h1 h2 h3 v w hv hw => ?_, fun v hv => ?_⟩
  · have := (z.mem v).1 hv
    exact ⟨this.2.1, this.1, this.2.2⟩
  · by_cases k : p < nx c
    · obtain ⟨v, e1, e2, e3, e4⟩ := h.fill c hc p h1 k
      exact .inr ⟨v, e1, List.mem_iff_getElem?.2 ⟨_, e3⟩, e4⟩
    · exact .inl (h.free c hc p (by omega) h2)
  · have hq : q < nx c := by
      by_cases k : q < nx c
      · exact k
      · have := h.free c hc q (by omega) h3
        rw [hw] at this
        exact absurd this.symm (not_nat_m1 w)
    obtain ⟨u1, x1, x2, x3, x4⟩ := h.fill c hc p h1 (by omega)
    obtain ⟨u2, y1, y2, y3, y4⟩ := h.fill c hc q (by omega) hq
    obtain rfl : v = u1 := by rw [hv] at x1; injection x1 with x1; omega
    obtain rfl : w = u2 := by rw [hw] at y1; injection y1 with y1; omega
    exact ⟨_, _, h.mono c hc p q h1 h2 hq, x3, y3⟩
  · obtain ⟨j, hj⟩ := List.mem_iff_getElem?.1 hv
    have hjl := (List.getElem?_eq_some_iff.1 hj).1
    obtain ⟨p, p1, p2, p3⟩ := h.done j hjl v hj
    have := h.nx_lo _ (z.sym v (z.lms hj).2.1)
    exact ⟨p, p1, by omega, p3⟩
end

/-! Same pieces, by their symbols. -/
theorem Eq'.walk {s : List Nat} {v w : Nat} (h : Eq' s v w) : v < s.length → w < s.length → ∃ t, 0 < t ∧ Lms s (v + t) ∧ Lms s (w + t) ∧ (∀ j, 0 < j → j < t → ¬ Lms s (v + j) ∧ ¬ Lms s (w + j)) ∧ (∀ j, j ≤ t → sy s (v + j) = sy s (w + j)) ∧ (s.drop (v + t) < s.drop (w + t) → s.drop v < s.drop w) := by
  induction h with
  | @last v w a b c d e =>
    intro hv hw
    refine ⟨1, by omega, c, d, fun j h1 h2 => by omega, fun j hj => ?_, fun hlt => (lt_step s v w hv hw).2 (.inr ⟨a, hlt⟩)⟩
    rcases (show j = 0 ∨ j = 1 by omega) with rfl | rfl
    · exact a
    · exact e
  | @next v w a b c d e f _ ih =>
    intro hv hw
    obtain ⟨t, t1, t2, t3, t4, t5, t6⟩ := ih e f
    refine ⟨t + 1, by omega, by rw [show v + (t + 1) = v + 1 + t by omega]; exact t2, by rw [show w + (t + 1) = w + 1 + t by omega]; exact t3, fun j h1 h2 => ?_, fun j hj => ?_, fun hlt => (lt_step s v w hv hw).2 (.inr ⟨a, t6 (by rw [show v + 1 + t = v + (t + 1) by omega, show w + 1 + t = w + (t + 1) by omega]; exact hlt)⟩)⟩
    · by_cases k : j = 1
      · subst k; exact ⟨c, d⟩
      · have := t4 (j - 1) (by omega) (by omega)
        rw [show v + 1 + (j - 1) = v + j by omega, show w + 1 + (j - 1) = w + j by omega] at this
        exact this
    · by_cases k : j = 0
      · subst k; exact a
      · have := t5 (j - 1) (by omega)
        rw [show v + 1 + (j - 1) = v + j by omega, show w + 1 + (j - 1) = w + j by omega] at this
        exact this

theorem Eq'.of_same {s : List Nat} : ∀ (t v w : Nat), 0 < t → Lms s (v + t) → Lms s (w + t) → (∀ j, 0 < j → j < t → ¬ Lms s (v + j) ∧ ¬ Lms s (w + j)) → (∀ j, j ≤ t → Sa.sy s (v + j) = Sa.sy s (w + j)) → Eq' s v w ∧ Sa.sm s v = Sa.sm s w
  | 0, v, w, h, _, _, _, _ => by omega
  | t + 1, v, w, _, hv, hw, hn, he => by
    have hvl := hv.2.1
    have hwl := hw.2.1
    have e0 := he 0 (by omega)
    have e1 := he 1 (by omega)
    rw [Nat.add_zero, Nat.add_zero] at e0
    have step : Sa.sm s (v + 1) = Sa.sm s (w + 1) → Sa.sm s v = Sa.sm s w := fun k => by
      rw [sm_step s v (by omega), sm_step s w (by omega), e0, e1, k]
    by_cases ht : t = 0
    · subst ht
      rw [Nat.zero_add] at hv hw
      have k := step (hv.2.2.1.trans hw.2.2.1.symm)
      exact ⟨.last e0 k hv hw e1, k⟩
    · obtain ⟨ih, k⟩ := Eq'.of_same t (v + 1) (w + 1) (by omega) (by rw [show v + 1 + t = v + (t + 1) by omega]; exact hv) (by rw [show w + 1 + t = w + (t + 1) by omega]; exact hw)
        (fun j h1 h2 => by have := hn (j + 1) (by omega) (by omega); rw [show v + 1 + j = v + (j + 1) by omega, show w + 1 + j = w + (j + 1) by omega]; exact this)
        (fun j hj => by have := he (j + 1) (by omega); rw [show v + 1 + j = v + (j + 1) by omega, show w + 1 + j = w + (j + 1) by omega]; exact this)
      have k' := step k
      have := hn 1 (by omega) (by omega)
      exact ⟨.next e0 k' this.1 this.2 (by omega) (by omega) ih, k'⟩

/-- Where the piece that begins at a place ends. -/
def endP (s : List Nat) (v : Nat) : Nat := ((lmsL s)[idx s v + 1]?).getD s.length

theorem lmsL_next {s : List Nat} {j v w : Nat} (hv : (lmsL s)[j]? = some v) (hw : (lmsL s)[j + 1]? = some w) : v < w ∧ Lms s w ∧ ∀ x, v < x → x < w → ¬ Lms s x := by
  have hr := lmsL_rise s
  rw [List.pairwise_iff_getElem] at hr
  obtain ⟨a1, b1⟩ := List.getElem?_eq_some_iff.1 hv
  obtain ⟨a2, b2⟩ := List.getElem?_eq_some_iff.1 hw
  refine ⟨by have := hr j (j + 1) a1 a2 (by omega); omega, (lmsL_mem s w).1 (List.mem_iff_getElem?.2 ⟨_, hw⟩), fun x h1 h2 hx => ?_⟩
  have e := idx_at hx
  obtain ⟨a3, b3⟩ := List.getElem?_eq_some_iff.1 e
  rcases Nat.lt_trichotomy (idx s x) j with k | k | k
  · have := hr _ _ a3 a1 k; omega
  · subst k; omega
  · rcases Nat.lt_trichotomy (idx s x) (j + 1) with k' | k' | k'
    · omega
    · have : (lmsL s)[idx s x] = (lmsL s)[j + 1] := by congr 1
      omega
    · have := hr _ _ a2 a3 k'; omega

theorem next_lms {s : List Nat} {j v t : Nat} (hv : (lmsL s)[j]? = some v) (ht : 0 < t) (hl : Lms s (v + t)) (hn : ∀ i, 0 < i → i < t → ¬ Lms s (v + i)) : (lmsL s)[j + 1]? = some (v + t) := by
  have hr := lmsL_rise s
  rw [List.pairwise_iff_getElem] at hr
  obtain ⟨a1, b1⟩ := List.getElem?_eq_some_iff.1 hv
  have e := idx_at hl
  obtain ⟨a3, b3⟩ := List.getElem?_eq_some_iff.1 e
  have hj : j < idx s (v + t) := by
    rcases Nat.lt_trichotomy (idx s (v + t)) j with k | k | k
    · have := hr _ _ a3 a1 k; omega
    · have : (lmsL s)[idx s (v + t)] = (lmsL s)[j] := by congr 1
      omega
    · exact k
  by_cases k : idx s (v + t) = j + 1
  · rw [← k]; exact e
  · have a2 : j + 1 < (lmsL s).length := by omega
    have h1 := hr j (j + 1) a1 a2 (by omega)
    have h2 := hr (j + 1) _ a2 a3 (by omega)
    have hm : Lms s (lmsL s)[j + 1] := (lmsL_mem s _).1 (List.getElem_mem a2)
    have := hn ((lmsL s)[j + 1] - v) (by omega) (by omega)
    rw [show v + ((lmsL s)[j + 1] - v) = (lmsL s)[j + 1] by omega] at this
    exact absurd hm this

theorem endP_le (s : List Nat) (v : Nat) (hv : Lms s v) : v < endP s v ∧ endP s v ≤ s.length := by
  unfold endP
  have iv := idx_at hv
  have hvl := hv.2.1
  cases e : (lmsL s)[idx s v + 1]? with
  | none => exact ⟨hvl, Nat.le_refl _⟩
  | some x =>
    obtain ⟨m1, m2, _⟩ := lmsL_next iv e
    have := m2.2.1
    show v < x ∧ x ≤ s.length
    omega

/-- Two pieces are the same if, and only if, they have the same symbols, that behind them, too; none ends with the list. -/
theorem same_iff {s : List Nat} {v w : Nat} (hv : Lms s v) (hw : Lms s w) : Eq' s v w ↔ endP s v - v = endP s w - w ∧ endP s v ≠ s.length ∧ endP s w ≠ s.length ∧ ∀ j, j ≤ endP s v - v → sy s (v + j) = sy s (w + j) := by
  have iv := idx_at hv
  have iw := idx_at hw
  constructor
  · intro h
    obtain ⟨t, t1, t2, t3, t4, t5, _⟩ := h.walk hv.2.1 hw.2.1
    have n1 := next_lms iv t1 t2 (fun i h1 h2 => (t4 i h1 h2).1)
    have n2 := next_lms iw t1 t3 (fun i h1 h2 => (t4 i h1 h2).2)
    have e1 : endP s v = v + t := by unfold endP; rw [n1]; rfl
    have e2 : endP s w = w + t := by unfold endP; rw [n2]; rfl
    have := t2.2.1
    have := t3.2.1
    rw [e1, e2]
    exact ⟨by omega, by omega, by omega, fun j hj => t5 j (by omega)⟩
  · rintro ⟨h1, h2, h3, h4⟩
    obtain ⟨x, hx⟩ : ∃ x, (lmsL s)[idx s v + 1]? = some x := by
      cases e : (lmsL s)[idx s v + 1]? with
      | none => unfold endP at h2; rw [e] at h2; exact absurd rfl h2
      | some x => exact ⟨x, rfl⟩
    obtain ⟨y, hy⟩ : ∃ y, (lmsL s)[idx s w + 1]? = some y := by
      cases e : (lmsL s)[idx s w + 1]? with
      | none => unfold endP at h3; rw [e] at h3; exact absurd rfl h3
      | some x => exact ⟨x, rfl⟩
    have e1 : endP s v = x := by unfold endP; rw [hx]; rfl
    have e2 : endP s w = y := by unfold endP; rw [hy]; rfl
    rw [e1] at h1 h4
    rw [e2] at h1
    obtain ⟨m1, m2, m3⟩ := lmsL_next iv hx
    obtain ⟨k1, k2, k3⟩ := lmsL_next iw hy
    refine (Eq'.of_same (x - v) v w (by omega) (by rw [show v + (x - v) = x by omega]; exact m2) (by rw [show w + (x - v) = y by omega]; exact k2) (fun j a1 a2 => ⟨m3 _ (by omega) (by omega), k3 _ (by omega) (by omega)⟩) (fun j hj => h4 j hj)).1
end Lec.Sa

/- Pieces' names and the shorter list: plain. No program stands here. -/
set_option linter.unusedVariables false
set_option linter.unusedSimpArgs false
namespace Lec.Sa
open Classical

/-- Are two pieces the same? -/
noncomputable def sameB (s : List Nat) (v w : Nat) : Bool := decide (Eq' s v w)
theorem sameB_iff (s : List Nat) (v w : Nat) : sameB s v w = true ↔ Eq' s v w := by unfold sameB; exact decide_eq_true_iff

/-- The name of the i-th of a row of places. -/
noncomputable def nm (s o : List Nat) : Nat → Nat
  | 0 => 0
  | i + 1 => nm s o i + (if sameB s (o.getD i 0) (o.getD (i + 1) 0) then 0 else 1)

theorem nm_le (s o : List Nat) : ∀ i, nm s o i ≤ i
  | 0 => Nat.le_refl _
  | i + 1 => by have := nm_le s o i; unfold nm; split <;> omega
theorem nm_mono (s o : List Nat) {i j : Nat} (h : i ≤ j) : nm s o i ≤ nm s o j := by
  induction j with
  | zero => obtain rfl : i = 0 := by omega
            exact Nat.le_refl _
  | succ j ih =>
    by_cases e : i = j + 1
    · subst e; exact Nat.le_refl _
    · have := ih (by omega)
      have h2 : nm s o j ≤ nm s o (j + 1) := by rw [nm]; omega
      omega

/-- The places in the order that inducing makes. -/
structure Ord (s o : List Nat) : Prop where
  nod : o.Nodup
  mem : ∀ v, v ∈ o ↔ Lms s v
  ord : ∀ i j v w : Nat, i < j → o[i]? = some v → o[j]? = some w → ¬ Eq' s v w → s.drop v < s.drop w

theorem Ord.len {s o : List Nat} (h : Ord s o) : o.length = (lmsL s).length :=
  Nat.le_antisymm (nodup_len h.nod (fun x hx => (lmsL_mem s x).2 ((h.mem x).1 hx))) (nodup_len (lmsL_nodup s) (fun x hx => (h.mem x).2 ((lmsL_mem s x).1 hx)))

theorem getD_of {o : List Nat} {i v : Nat} (h : o[i]? = some v) : o.getD i 0 = v := by rw [List.getD_eq_getElem?_getD, h]; rfl

/-- One name: one piece. -/
theorem Ord.name {s o : List Nat} (h : Ord s o) : ∀ {i j v w : Nat}, i < j → o[i]? = some v → o[j]? = some w → (nm s o i = nm s o j ↔ Eq' s v w) := by
  intro i j
  induction j with
  | zero => intro v w hij; omega
  | succ j ih =>
    intro v w hij hv hw
    have hjl := (List.getElem?_eq_some_iff.1 hw).1
    obtain ⟨u, hu⟩ : ∃ u, o[j]? = some u := ⟨o[j], List.getElem?_eq_getElem (by omega)⟩
    have hL : ∀ {k x}, o[k]? = some x → x < s.length := fun {k x} hx => ((h.mem x).1 (List.mem_iff_getElem?.2 ⟨k, hx⟩)).2.1
    have hs : nm s o (j + 1) = nm s o j + (if sameB s u w then 0 else 1) := by rw [nm, getD_of hu, getD_of hw]
    by_cases e : i = j
    · subst e
      obtain rfl : v = u := by rw [hv] at hu; injection hu
      rw [hs, ← sameB_iff]
      by_cases k : sameB s v w = true
      · simp [k]
      · simp [k]
    · have hij' : i < j := by omega
      have ih' := ih hij' hv hu
      have hmo := nm_mono s o (show i ≤ j by omega)
      constructor
      · intro heq
        rw [hs] at heq
        by_cases k : sameB s u w = true
        · rw [if_pos k] at heq
          exact (ih'.1 (by omega)).trans ((sameB_iff s u w).1 k)
        · rw [if_neg k] at heq; omega
      · intro hE
        have huw : Eq' s v u := by
          refine Classical.byContradiction fun hno => ?_
          have a1 := h.ord i j v u hij' hv hu hno
          have a2 := h.ord j (j + 1) u w (by omega) hu hw (fun k => hno (hE.trans k.symm))
          exact hno (hE.mid (hL hv) (hL hw) (hL hu) a1 a2)
        have : sameB s u w = true := (sameB_iff s u w).2 (huw.symm.trans hE)
        rw [hs, if_pos this, ih'.2 huw]; rfl

/-- A list of names. -/
structure Named (s l : List Nat) : Prop where
  len : l.length = (lmsL s).length
  one : ∀ p q v w x y : Nat, p ≠ q → (lmsL s)[p]? = some v → (lmsL s)[q]? = some w → l[p]? = some x → l[q]? = some y → x = y → Eq' s v w
  lt : ∀ p q v w x y : Nat, (lmsL s)[p]? = some v → (lmsL s)[q]? = some w → l[p]? = some x → l[q]? = some y → x < y → s.drop v < s.drop w

theorem Ord.named {s o l : List Nat} (h : Ord s o) (hl : l.length = (lmsL s).length) (hn : ∀ i v : Nat, o[i]? = some v → l[idx s v]? = some (nm s o i)) : Named s l := by
  have find : ∀ {p v}, (lmsL s)[p]? = some v → ∃ i, o[i]? = some v ∧ idx s v = p := fun {p v} hp => by
    have hv := (h.mem v).2 ((lmsL_mem s v).1 (List.mem_iff_getElem?.2 ⟨p, hp⟩))
    obtain ⟨i, hi⟩ := List.mem_iff_getElem?.1 hv
    exact ⟨i, hi, idx_get hp⟩
  refine ⟨hl, fun p q v w x y hpq hv hw hx hy hxy => ?_, fun p q v w x y hv hw hx hy hxy => ?_⟩
  · obtain ⟨i, hi, e1⟩ := find hv
    obtain ⟨j, hj, e2⟩ := find hw
    have n1 := hn i v hi
    have n2 := hn j w hj
    rw [e1, hx] at n1
    rw [e2, hy] at n2
    injection n1 with n1; injection n2 with n2
    rcases Nat.lt_trichotomy i j with k | k | k
    · exact (h.name k hi hj).1 (by omega)
    · subst k
      rw [hi] at hj; injection hj with hj
      subst hj; omega
    · exact ((h.name k hj hi).1 (by omega)).symm
  · obtain ⟨i, hi, e1⟩ := find hv
    obtain ⟨j, hj, e2⟩ := find hw
    have n1 := hn i v hi
    have n2 := hn j w hj
    rw [e1, hx] at n1
    rw [e2, hy] at n2
    injection n1 with n1; injection n2 with n2
    have hij : i < j := by
      by_cases k : i < j
      · exact k
      · have := nm_mono s o (show j ≤ i by omega); omega
    exact h.ord i j v w hij hi hj (fun hE => by have := (h.name hij hi hj).2 hE; omega)

/-- The order of the names' endings is that of the endings. -/
theorem Named.up {s l : List Nat} (h : Named s l) : ∀ (m p q v w : Nat), l.length - p ≤ m → (lmsL s)[p]? = some v → (lmsL s)[q]? = some w → l.drop p < l.drop q → s.drop v < s.drop w
  | 0, p, q, v, w, hm, hv, hw, hlt => by have := (List.getElem?_eq_some_iff.1 hv).1; have := h.len; omega
  | m + 1, p, q, v, w, hm, hv, hw, hlt => by
    have hp : p < l.length := by rw [h.len]; exact (List.getElem?_eq_some_iff.1 hv).1
    have hq : q < l.length := by rw [h.len]; exact (List.getElem?_eq_some_iff.1 hw).1
    have hpq : p ≠ q := fun e => by subst e; exact List.lt_irrefl _ hlt
    have gl : ∀ i, i < l.length → l[i]? = some (sy l i) := fun i hi => by rw [List.getElem?_eq_getElem hi]; simp [sy, List.getD_eq_getElem?_getD, hi]
    rcases (lt_step l p q hp hq).1 hlt with k | ⟨k, k2⟩
    · exact h.lt p q v w _ _ hv hw (gl p hp) (gl q hq) k
    · have hE := h.one p q v w _ _ hpq hv hw (gl p hp) (gl q hq) k
      have lv := (lmsL_mem s v).1 (List.mem_iff_getElem?.2 ⟨p, hv⟩)
      have lw := (lmsL_mem s w).1 (List.mem_iff_getElem?.2 ⟨q, hw⟩)
      obtain ⟨t, t1, t2, t3, t4, t5, t6⟩ := hE.walk lv.2.1 lw.2.1
      exact t6 (Named.up h m (p + 1) (q + 1) _ _ (by omega) (next_lms hv t1 t2 (fun i a b => (t4 i a b).1)) (next_lms hw t1 t3 (fun i a b => (t4 i a b).2)) k2)

/-- The places by the order of the names' endings. -/
def back (s a : List Nat) : List Nat := a.map (fun j => (lmsL s).getD j 0)

theorem Named.back {s l a : List Nat} (h : Named s l) (ha : IsSA l a) : (Sa.back s a).Nodup ∧ (∀ v, v ∈ Sa.back s a ↔ Lms s v) ∧ (Sa.back s a).Pairwise (fun v w => s.drop v < s.drop w) := by
  have hg : ∀ j, j < l.length → (lmsL s)[j]? = some ((lmsL s).getD j 0) := fun j hj => by
    rw [h.len] at hj
    rw [List.getElem?_eq_getElem hj]; simp [List.getD_eq_getElem?_getD, hj]
  have hP : (Sa.back s a).Pairwise (fun v w => s.drop v < s.drop w) := by
    unfold Sa.back
    rw [List.pairwise_map]
    have := ha.ord
    rw [List.pairwise_iff_getElem] at this ⊢
    intro i j hi hj hij
    exact h.up _ _ _ _ _ (Nat.le_refl _) (hg _ (ha.lt _ (List.getElem_mem hi))) (hg _ (ha.lt _ (List.getElem_mem hj))) (this i j hi hj hij)
  refine ⟨?_, fun v => ?_, hP⟩
  · rw [List.nodup_iff_pairwise_ne]
    refine hP.imp ?_
    intro x y hxy e
    subst e
    exact List.lt_irrefl _ hxy
  · unfold Sa.back
    rw [List.mem_map]
    constructor
    · rintro ⟨j, hj, rfl⟩
      exact (lmsL_mem s _).1 (List.mem_iff_getElem?.2 ⟨j, hg j (ha.lt j hj)⟩)
    · intro hv
      refine ⟨idx s v, (ha.mem _).2 (by rw [h.len]; exact idx_lt hv), getD_of (idx_at hv)⟩

/-- If all names differ, each name is its place's. -/
theorem Ord.diff {s o : List Nat} (m : Nat) (hm : o.length = m + 1) (hk : nm s o m = m) : ∀ i, i ≤ m → nm s o i = i := by
  intro i hi
  have key : ∀ j, nm s o m ≤ nm s o (m - j) + j := by
    intro j
    induction j with
    | zero => simp
    | succ j ih =>
      by_cases e : j < m
      · have : nm s o (m - j) ≤ nm s o (m - (j + 1)) + 1 := by
          rw [show m - j = (m - (j + 1)) + 1 by omega, nm]
          split <;> omega
        omega
      · have h1 : m - (j + 1) = 0 := by omega
        have h2 : m - j = 0 := by omega
        rw [h1]; rw [h2] at ih; omega
  have h1 := key (m - i)
  rw [show m - (m - i) = i by omega] at h1
  have := nm_le s o i
  omega

/-- Then where each name stands are the sorted endings. -/
theorem Ord.simple {s o l a : List Nat} (h : Ord s o) (hl : l.length = (lmsL s).length) (hn : ∀ i v : Nat, o[i]? = some v → l[idx s v]? = some i) (ha : a.length = l.length) (hi : ∀ i v : Nat, o[i]? = some v → a[i]? = some (idx s v)) : IsSA l a := by
  have hol := h.len
  have find : ∀ i, i < a.length → ∃ v, o[i]? = some v ∧ a[i]? = some (idx s v) ∧ Lms s v := fun i hi2 => by
    have : i < o.length := by omega
    refine ⟨o[i], List.getElem?_eq_getElem this, hi i _ (List.getElem?_eq_getElem this), (h.mem _).1 (List.getElem_mem this)⟩
  refine ⟨ha, fun v hv => ?_, ?_⟩
  · obtain ⟨i, hi2⟩ := List.mem_iff_getElem?.1 hv
    obtain ⟨u, u1, u2, u3⟩ := find i (List.getElem?_eq_some_iff.1 hi2).1
    rw [hi2] at u2; injection u2 with u2
    rw [u2, hl]; exact idx_lt u3
  · rw [List.pairwise_iff_getElem]
    intro i j hi2 hj2 hij
    obtain ⟨u, u1, u2, u3⟩ := find i hi2
    obtain ⟨w, w1, w2, w3⟩ := find j hj2
    have e1 : a[i] = idx s u := by rw [List.getElem?_eq_getElem hi2] at u2; injection u2
    have e2 : a[j] = idx s w := by rw [List.getElem?_eq_getElem hj2] at w2; injection w2
    have n1 := hn i u u1
    have n2 := hn j w w1
    rw [e1, e2, lt_step l _ _ (by rw [hl]; exact idx_lt u3) (by rw [hl]; exact idx_lt w3)]
    left
    unfold sy
    rw [getD_of n1, getD_of n2]; exact hij
end Lec.Sa

/- The places in the order that inducing makes: plain. No program stands here. -/
set_option linter.unusedVariables false
set_option linter.unusedSimpArgs false
namespace Lec.Sa
theorem Induced.ord {s d : List Nat} {K : Nat} {b : List Nat} (h : Induced s d K (b.map (fun v => ((v : Nat) : Int)))) : Ord s (b.filter (lmsB s)) := by
  obtain ⟨b', e1, e2, e3, e4⟩ := h.nat
  have : b' = b := by
    have := List.map_inj_right (f := fun v : Nat => (v : Int)) (fun x y h => by have h' : (x : Int) = (y : Int) := h; omega) |>.1 e1
    exact this.symm
  subst this
  have hall : ∀ v, v < s.length → v ∈ b' := fun v hv => nodup_all e3 (m := List.range s.length) (fun x hx => List.mem_range.2 (e4 x hx)) (by simp [e2]) v (List.mem_range.2 hv)
  refine ⟨e3.filter _, fun v => ?_, fun i j v w hij hi hj hne => ?_⟩
  · rw [List.mem_filter, lmsB_iff]
    exact ⟨fun h => h.2, fun h => ⟨hall v h.2.1, h⟩⟩
  · have hp : b'.Pairwise (fun v w => ¬ Eq' s v w → s.drop v < s.drop w) := by
      rw [List.pairwise_iff_getElem]
      intro p q hp hq hpq hn
      exact h.pieces hpq (List.getElem?_eq_getElem hp) (List.getElem?_eq_getElem hq) hn
    have hf := hp.filter (lmsB s)
    rw [List.pairwise_iff_getElem] at hf
    obtain ⟨a1, c1⟩ := List.getElem?_eq_some_iff.1 hi
    obtain ⟨a2, c2⟩ := List.getElem?_eq_some_iff.1 hj
    have := hf i j a1 a2 hij
    rw [c1, c2] at this
    exact this hne
theorem Ord.bound {s o l : List Nat} (h : Ord s o) (hl : l.length = (lmsL s).length) (hn : ∀ i v : Nat, o[i]? = some v → l[idx s v]? = some (nm s o i)) : ∀ j, j < l.length → sy l j < nm s o ((lmsL s).length - 1) + 1 := by
  intro j hj
  have hj2 : j < (lmsL s).length := by omega
  have hv := List.getElem?_eq_getElem hj2
  have hm := (h.mem (lmsL s)[j]).2 ((lmsL_mem s _).1 (List.getElem_mem hj2))
  obtain ⟨i, hi⟩ := List.mem_iff_getElem?.1 hm
  have h1 := hn i _ hi
  rw [idx_get hv] at h1
  have h2 := nm_mono s o (show i ≤ (lmsL s).length - 1 by have := (List.getElem?_eq_some_iff.1 hi).1; have := h.len; omega)
  unfold sy
  rw [getD_of h1]; omega
/-- Frames that wait, the newest first: each one's names are the list of the next newer one. -/
def Chain : List (Nat × List Nat × Nat) → List Nat → List Nat → Prop
  | [], cur, root => cur = root
  | (_, s, K) :: st, cur, root => Named s cur ∧ 0 < s.length ∧ s.length ≤ 131072 ∧ K ≤ 200000 ∧ (∀ i, i < s.length → sy s i < K) ∧ Chain st s root
theorem Ord.inj {s o l : List Nat} (h : Ord s o) (hl : l.length = (lmsL s).length) (hn : ∀ i v : Nat, o[i]? = some v → l[idx s v]? = some i) : ∀ j m c : Nat, l[j]? = some c → l[m]? = some c → j = m := by
  have find : ∀ j c : Nat, l[j]? = some c → ∃ v, o[c]? = some v ∧ idx s v = j := fun j c hj => by
    have hj2 : j < (lmsL s).length := by have := (List.getElem?_eq_some_iff.1 hj).1; omega
    have hv := List.getElem?_eq_getElem hj2
    have hm := (h.mem (lmsL s)[j]).2 ((lmsL_mem s _).1 (List.getElem_mem hj2))
    obtain ⟨i, hi⟩ := List.mem_iff_getElem?.1 hm
    have h1 := hn i _ hi
    rw [idx_get hv, hj] at h1
    injection h1 with h1
    exact ⟨_, by rw [h1]; exact hi, idx_get hv⟩
  intro j m c h1 h2
  obtain ⟨v, v1, v2⟩ := find j c h1
  obtain ⟨u, u1, u2⟩ := find m c h2
  rw [v1] at u1; injection u1 with u1
  rw [← v2, ← u2, u1]
theorem IsSA.nil : IsSA [] [] := ⟨rfl, fun v h => by simp at h, List.Pairwise.nil⟩
theorem layB {s l a : List Nat} {K : Nat} (hp : 0 < s.length) (hs : ∀ i, i < s.length → sy s i < K) (h : Named s l) (ha : IsSA l a) : Lay s (back s a) K := ⟨hp, hs, (h.back ha).1, (h.back ha).2.1⟩
theorem layL {s : List Nat} {K : Nat} (hp : 0 < s.length) (hs : ∀ i, i < s.length → sy s i < K) : Lay s (lmsL s) K := ⟨hp, hs, lmsL_nodup s, lmsL_mem s⟩
end Lec.Sa
