/- Sorting by what is laid first: the larger kinds. Plain; no program stands here. -/
import Derived.Test.YtkjajdhempceaaaSaA
set_option linter.unusedVariables false
set_option linter.unusedSimpArgs false
namespace Lec.Sa

/-- The row as the laid ones stand in it: d, in order, by their symbols, from where the smaller kinds begin. -/
structure A0 (s d : List Nat) (K : Nat) (a : List Int) : Prop where
  len : a.length = s.length
  pos : 0 < s.length
  sym : ∀ i, i < s.length → sy s i < K
  nod : d.Nodup
  lms : ∀ v, v ∈ d → v < s.length ∧ 0 < v ∧ sm s v = true ∧ sm s (v - 1) = false
  all : ∀ v, v < s.length → 0 < v → sm s v = true → sm s (v - 1) = false → v ∈ d
  free : ∀ c, c < K → ∀ p, lo s c ≤ p → p < mid s c → a[p]? = some (-1)
  low : ∀ c, c < K → ∀ p, mid s c ≤ p → p < lo s (c + 1) → a[p]? = some (-1) ∨ ∃ v : Nat, a[p]? = some (v : Int) ∧ v ∈ d ∧ sy s v = c
  ord : ∀ c, c < K → ∀ p q, mid s c ≤ p → p < q → q < lo s (c + 1) → ∀ v w : Nat, a[p]? = some (v : Int) → a[q]? = some (w : Int) → ∃ i j : Nat, i < j ∧ d[i]? = some v ∧ d[j]? = some w
  has : ∀ v, v ∈ d → ∃ p, mid s (sy s v) ≤ p ∧ p < lo s (sy s v + 1) ∧ a[p]? = some (v : Int)

theorem A0.same {s d : List Nat} {K : Nat} {a : List Int} (h : A0 s d K a) {c : Nat} (hc : c < K) {p q v : Nat} (hp : mid s c ≤ p) (hp' : p < lo s (c + 1)) (hq : mid s c ≤ q) (hq' : q < lo s (c + 1)) (h1 : a[p]? = some (v : Int)) (h2 : a[q]? = some (v : Int)) : p = q := by
  have key : ∀ p q, mid s c ≤ p → p < q → q < lo s (c + 1) → a[p]? = some (v : Int) → a[q]? = some (v : Int) → False := by
    intro p q hp hpq hq h1 h2
    obtain ⟨i, j, hij, e1, e2⟩ := h.ord c hc p q hp hpq hq v v h1 h2
    have hn := h.nod
    rw [List.nodup_iff_pairwise_ne, List.pairwise_iff_getElem] at hn
    obtain ⟨a1, b1⟩ := List.getElem?_eq_some_iff.1 e1
    obtain ⟨a2, b2⟩ := List.getElem?_eq_some_iff.1 e2
    exact hn i j a1 a2 hij (b1.trans b2.symm)
  rcases Nat.lt_trichotomy p q with e | e | e
  · exact (key p q hp e hq' h1 h2).elim
  · exact e
  · exact (key q p hq e hp' h2 h1).elim

/-- The row while larger kinds are put: i places are seen; nx: where the next of a symbol goes; src: of a place, one more than where what stands behind it stood. -/
structure LInv (s d : List Nat) (K : Nat) (a0 : List Int) (i : Nat) (a : List Int) (nx src : Nat → Nat) : Prop where
  len : a.length = s.length
  lo_nx : ∀ c, c < K → lo s c ≤ nx c
  nx_mid : ∀ c, c < K → nx c ≤ mid s c
  fill : ∀ c, c < K → ∀ p, lo s c ≤ p → p < nx c → ∃ v : Nat, a[p]? = some (v : Int) ∧ v < s.length ∧ sy s v = c ∧ sm s v = false ∧ src p ≤ i ∧ src p ≤ p ∧ (src p = 0 ∧ v + 1 = s.length ∨ 0 < src p ∧ v + 1 < s.length ∧ a[src p - 1]? = some ((v + 1 : Nat) : Int))
  mono : ∀ c, c < K → ∀ p q, lo s c ≤ p → p < q → q < nx c → src p < src q
  free : ∀ c, c < K → ∀ p, nx c ≤ p → p < mid s c → a[p]? = some (-1)
  keep : ∀ c, c < K → ∀ p, mid s c ≤ p → p < lo s (c + 1) → a[p]? = a0[p]?
  done : ∀ v, v < s.length → sm s v = false → (v + 1 = s.length ∨ ∃ q, q < i ∧ a[q]? = some ((v + 1 : Nat) : Int)) → ∃ p, lo s (sy s v) ≤ p ∧ p < nx (sy s v) ∧ a[p]? = some (v : Int)

theorem not_nat_m1 (v : Nat) : (some (-1 : Int)) ≠ some (v : Int) := by
  intro h; injection h with h; omega

section
variable {s d : List Nat} {K : Nat} {a0 : List Int} {i : Nat} {a : List Int} {nx src : Nat → Nat}

/-- What a place that holds a number is. -/
theorem LInv.at (h : LInv s d K a0 i a nx src) (z : A0 s d K a0) {p v : Nat} (hp : a[p]? = some (v : Int)) :
    v < s.length ∧ sy s v < K ∧ lo s (sy s v) ≤ p ∧ p < lo s (sy s v + 1) ∧ (sm s v = false ∧ p < nx (sy s v) ∨ sm s v = true ∧ mid s (sy s v) ≤ p ∧ v ∈ d) := by
  have hpl : p < s.length := by rw [← h.len]; exact (List.getElem?_eq_some_iff.1 hp).1
  obtain ⟨c, hc, h1, h2⟩ := place s p K (by rw [lo_all s K z.sym]; exact hpl)
  by_cases hm : p < mid s c
  · by_cases hx : p < nx c
    · obtain ⟨u, hu, hu1, hu2, hu3, _⟩ := h.fill c hc p h1 hx
      have e : u = v := by rw [hp] at hu; injection hu with hu; omega
      subst e; subst hu2
      exact ⟨hu1, hc, h1, h2, .inl ⟨hu3, hx⟩⟩
    · have := h.free c hc p (by omega) hm
      rw [hp] at this
      exact absurd this.symm (not_nat_m1 v)
  · have h3 := h.keep c hc p (by omega) h2
    rw [hp] at h3
    rcases z.low c hc p (by omega) h2 with h4 | ⟨u, h4, h5, h6⟩
    · rw [h4] at h3; exact absurd h3.symm (not_nat_m1 v)
    · have e : u = v := by rw [← h3] at h4; injection h4 with h4; omega
      subst e; subst h6
      exact ⟨(z.lms u h5).1, hc, h1, h2, .inr ⟨(z.lms u h5).2.2.1, by omega, h5⟩⟩

/-- No number stands at two places. -/
theorem LInv.one (h : LInv s d K a0 i a nx src) (z : A0 s d K a0) : ∀ (m v : Nat), s.length - v ≤ m → ∀ p q : Nat, a[p]? = some (v : Int) → a[q]? = some (v : Int) → p = q
  | 0, v, hm, p, q, hp, _ => by have := (h.at z hp).1; omega
  | m + 1, v, hm, p, q, hp, hq => by
    obtain ⟨hv, hc, hp1, hp2, hp3⟩ := h.at z hp
    obtain ⟨_, _, hq1, hq2, hq3⟩ := h.at z hq
    rcases hp3 with ⟨hs, hpn⟩ | ⟨hs, hpm, _⟩
    · rcases hq3 with ⟨_, hqn⟩ | ⟨hs', _⟩
      · obtain ⟨u, hu, _, _, _, _, _, hu1⟩ := h.fill _ hc p hp1 hpn
        obtain ⟨t, ht, _, _, _, _, _, ht1⟩ := h.fill _ hc q hq1 hqn
        have e1 : u = v := by rw [hp] at hu; injection hu with hu; omega
        have e2 : t = v := by rw [hq] at ht; injection ht with ht; omega
        subst e1; subst e2
        have key : src p = src q := by
          rcases hu1 with ⟨x1, x2⟩ | ⟨x1, x2, x3⟩
          · rcases ht1 with ⟨y1, y2⟩ | ⟨y1, y2, y3⟩
            · omega
            · omega
          · rcases ht1 with ⟨y1, y2⟩ | ⟨y1, y2, y3⟩
            · omega
            · have := LInv.one h z m (t + 1) (by omega) _ _ x3 y3
              omega
        rcases Nat.lt_trichotomy p q with e | e | e
        · have := h.mono _ hc p q hp1 e hqn; omega
        · exact e
        · have := h.mono _ hc q p hq1 e hpn; omega
      · rw [hs] at hs'; cases hs'
    · rcases hq3 with ⟨hs', _⟩ | ⟨_, hqm, _⟩
      · rw [hs] at hs'; cases hs'
      · rw [h.keep _ hc p hpm hp2] at hp
        rw [h.keep _ hc q hqm hq2] at hq
        exact z.same hc hpm hp2 hqm hq2 hp hq

theorem LInv.uniq (h : LInv s d K a0 i a nx src) (z : A0 s d K a0) {p q v : Nat} (hp : a[p]? = some (v : Int)) (hq : a[q]? = some (v : Int)) : p = q := h.one z _ v (Nat.le_refl _) p q hp hq

/-- The place seen holds none whose predecessor is of the larger kind. -/
theorem LInv.skip (h : LInv s d K a0 i a nx src) (hno : ∀ v : Nat, a[i]? = some ((v + 1 : Nat) : Int) → sm s v = true) : LInv s d K a0 (i + 1) a nx src := by
  refine ⟨h.len, h.lo_nx, h.nx_mid, fun c hc p h1 h2 => ?_, h.mono, h.free, h.keep, fun v hv hs hd => ?_⟩
  · obtain ⟨v, e1, e2, e3, e4, e5, e6, e7⟩ := h.fill c hc p h1 h2
    exact ⟨v, e1, e2, e3, e4, by omega, e6, e7⟩
  · refine h.done v hv hs ?_
    rcases hd with hd | ⟨q, hq, hq2⟩
    · exact .inl hd
    · by_cases e : q = i
      · subst e
        have := hno v hq2
        rw [hs] at this; cases this
      · exact .inr ⟨q, by omega, hq2⟩

/-- The place seen holds v + 1, and v is of the larger kind: where v goes. -/
theorem LInv.room (h : LInv s d K a0 i a nx src) (z : A0 s d K a0) {v : Nat} (hv : a[i]? = some ((v + 1 : Nat) : Int)) (hs : sm s v = false) :
    v < s.length ∧ sy s v < K ∧ i < nx (sy s v) ∧ nx (sy s v) < mid s (sy s v) := by
  obtain ⟨hv1, hc1, hi1, hi2, hi3⟩ := h.at z hv
  have hvl : v < s.length := by omega
  have hcv := z.sym v hvl
  have hin : i < nx (sy s v) := by
    rcases la_ge s v hv1 hs with e | ⟨e, e2⟩
    · have := lo_mono s (show sy s (v + 1) + 1 ≤ sy s v by omega)
      have := h.lo_nx _ hcv
      omega
    · rcases hi3 with ⟨_, hi3⟩ | ⟨hi3, _⟩
      · rw [e]; exact hi3
      · rw [e2] at hi3; cases hi3
  refine ⟨hvl, hcv, hin, ?_⟩
  obtain ⟨l, hl1, hl2⟩ := vals (a := a) (lo s (sy s v)) (nx (sy s v) - lo s (sy s v)) (fun j hj => by
    obtain ⟨u, hu, _⟩ := h.fill _ hcv (lo s (sy s v) + j) (by omega) (by omega)
    exact ⟨u, hu⟩)
  have hnd : l.Nodup := vals_nodup hl1 hl2 (fun j k u hj hk e1 e2 => by have := h.uniq z e1 e2; omega)
  have hmem : ∀ x ∈ l, x < s.length ∧ sy s x = sy s v ∧ sm s x = false ∧ x ≠ v := by
    intro x hx
    obtain ⟨j, hj, hx2⟩ := vals_mem hl1 hl2 hx
    obtain ⟨u, e1, e2, e3, e4, e5, e6, e7⟩ := h.fill _ hcv (lo s (sy s v) + j) (by omega) (by omega)
    have e : u = x := by rw [hx2] at e1; injection e1 with e1; omega
    subst e
    refine ⟨e2, e3, e4, fun e => ?_⟩
    subst e
    rcases e7 with ⟨_, e8⟩ | ⟨e8, _, e9⟩
    · omega
    · have := h.uniq z e9 hv
      omega
  have hr := cnt_room (n := s.length) (p := fun i => sy s i == sy s v && !sm s i) (l := v :: l) (List.nodup_cons.2 ⟨fun hx => (hmem v hx).2.2.2 rfl, hnd⟩) (fun x hx => by
    rcases List.mem_cons.1 hx with rfl | hx
    · exact ⟨hvl, by simp [hs]⟩
    · obtain ⟨e1, e2, e3, _⟩ := hmem x hx
      exact ⟨e1, by simp [e2, e3]⟩)
  rw [List.length_cons, hl1] at hr
  have hn : nl s (sy s v) = cnt s.length (fun i => sy s i == sy s v && !sm s i) := rfl
  have := h.lo_nx _ hcv
  unfold mid
  omega

theorem getElem?_set_ne' {α : Type} (l : List α) (i j : Nat) (x : α) (h : j ≠ i) : (l.set i x)[j]? = l[j]? := by
  rw [List.getElem?_set]; simp [Ne.symm h]
theorem getElem?_set_self' {α : Type} (l : List α) (i : Nat) (x : α) (h : i < l.length) : (l.set i x)[i]? = some x := by
  rw [List.getElem?_set]; simp [h]

/-- v is put. -/
theorem LInv.put (h : LInv s d K a0 i a nx src) (z : A0 s d K a0) {v : Nat} (hv : a[i]? = some ((v + 1 : Nat) : Int)) (hs : sm s v = false) :
    LInv s d K a0 (i + 1) (a.set (nx (sy s v)) (v : Int)) (fun c => if c = sy s v then nx c + 1 else nx c) (fun p => if p = nx (sy s v) then i + 1 else src p) := by
  obtain ⟨hvl, hcv, hin, hnm⟩ := h.room z hv hs
  obtain ⟨hv1, _⟩ := h.at z hv
  have hlo := h.lo_nx _ hcv
  have hup := mid_le s (sy s v)
  have hle := lo_le s (sy s v + 1)
  have hpl : nx (sy s v) < a.length := by rw [h.len]; omega
  have far : ∀ p, p ≠ nx (sy s v) → (a.set (nx (sy s v)) (v : Int))[p]? = a[p]? := fun p hp => getElem?_set_ne' _ _ _ _ hp
  have self : (a.set (nx (sy s v)) (v : Int))[nx (sy s v)]? = some (v : Int) := getElem?_set_self' _ _ _ hpl
  refine ⟨by rw [List.length_set]; exact h.len, fun c hc => ?_, fun c hc => ?_, fun c hc p h1 h2 => ?_, fun c hc p q h1 h2 h3 => ?_, fun c hc p h1 h2 => ?_, fun c hc p h1 h2 => ?_, fun u hu hus hd => ?_⟩
  · have := h.lo_nx c hc
    split <;> omega
  · have := h.nx_mid c hc
    split
    · rename_i e; subst e; omega
    · omega
  · have old : p < nx c → p ≠ nx (sy s v) → ∃ u : Nat, (a.set (nx (sy s v)) (v : Int))[p]? = some (u : Int) ∧ u < s.length ∧ sy s u = c ∧ sm s u = false ∧ (if p = nx (sy s v) then i + 1 else src p) ≤ i + 1 ∧ (if p = nx (sy s v) then i + 1 else src p) ≤ p ∧ ((if p = nx (sy s v) then i + 1 else src p) = 0 ∧ u + 1 = s.length ∨ 0 < (if p = nx (sy s v) then i + 1 else src p) ∧ u + 1 < s.length ∧ (a.set (nx (sy s v)) (v : Int))[(if p = nx (sy s v) then i + 1 else src p) - 1]? = some ((u + 1 : Nat) : Int)) := by
      intro h3 h4
      obtain ⟨u, e1, e2, e3, e4, e5, e6, e7⟩ := h.fill c hc p h1 h3
      rw [far p h4, if_neg h4]
      refine ⟨u, e1, e2, e3, e4, by omega, e6, ?_⟩
      rcases e7 with e7 | ⟨e7, e8, e9⟩
      · exact .inl e7
      · exact .inr ⟨e7, e8, by rw [far _ (by omega)]; exact e9⟩
    by_cases e : c = sy s v
    · rw [if_pos e] at h2
      by_cases e2 : p = nx (sy s v)
      · subst e2
        rw [self, if_pos rfl]
        refine ⟨v, rfl, hvl, e.symm, hs, Nat.le_refl _, hin, .inr ⟨by omega, hv1, ?_⟩⟩
        rw [far _ (by omega)]
        exact hv
      · exact old (by subst e; omega) e2
    · rw [if_neg e] at h2
      refine old h2 (fun e2 => ?_)
      have := h.nx_mid c hc
      have := mid_le s c
      exact e (place_one s (c := c) (d := sy s v) h1 (by omega) (by omega) (by omega))
  · have hq : q ≤ nx (sy s v) ∧ c = sy s v ∨ q < nx c ∧ q ≠ nx (sy s v) := by
      by_cases e : c = sy s v
      · rw [if_pos e] at h3; subst e; exact .inl ⟨by omega, rfl⟩
      · rw [if_neg e] at h3
        refine .inr ⟨h3, fun e2 => ?_⟩
        have := h.nx_mid c hc
        have := mid_le s c
        exact e (place_one s (p := q) (c := c) (d := sy s v) (by omega) (by omega) (by omega) (by omega))
    have hpq : p < nx c := by
      rcases hq with ⟨hq, rfl⟩ | ⟨hq, _⟩ <;> omega
    have hpn : p ≠ nx (sy s v) := by
      rcases hq with ⟨hq, rfl⟩ | ⟨hq, hq2⟩
      · omega
      · intro e
        have := h.nx_mid c hc
        have := mid_le s c
        have := place_one s (p := p) (c := c) (d := sy s v) h1 (by omega) (show lo s (sy s v) ≤ p by omega) (by omega)
        subst this
        omega
    rw [if_neg hpn]
    by_cases e : q = nx (sy s v)
    · rw [if_pos e]
      obtain ⟨u, _, _, _, _, e5, _⟩ := h.fill c hc p h1 hpq
      omega
    · rw [if_neg e]
      rcases hq with ⟨hq, rfl⟩ | ⟨hq, _⟩
      · exact h.mono _ hc p q h1 h2 (by omega)
      · exact h.mono c hc p q h1 h2 hq
  · have h4 : nx c ≤ p := by revert h1; split <;> omega
    rw [far p, h.free c hc p h4 h2]
    intro e
    have h5 := h.lo_nx c hc
    have h6 := mid_le s c
    have := place_one s (p := p) (c := c) (d := sy s v) (by omega) (by omega) (show lo s (sy s v) ≤ p by omega) (by omega)
    rw [if_pos this] at h1
    subst this
    omega
  · rw [far p, h.keep c hc p h1 h2]
    intro e
    have h5 := lo_le_mid s c
    have := place_one s (p := p) (c := c) (d := sy s v) (by omega) h2 (show lo s (sy s v) ≤ p by omega) (by omega)
    subst this
    omega
  · by_cases e : u = v
    · subst e
      exact ⟨nx (sy s u), hlo, by rw [if_pos rfl]; omega, self⟩
    · have hold : ∃ p, lo s (sy s u) ≤ p ∧ p < nx (sy s u) ∧ a[p]? = some (u : Int) := by
        refine h.done u hu hus ?_
        rcases hd with hd | ⟨q, hq, hq2⟩
        · exact .inl hd
        · rw [far q (by omega)] at hq2
          refine .inr ⟨q, ?_, hq2⟩
          by_cases eq : q = i
          · subst eq
            rw [hv] at hq2; injection hq2 with hq2; omega
          · omega
      obtain ⟨p, h1, h2, h3⟩ := hold
      refine ⟨p, h1, by split <;> omega, ?_⟩
      rw [far p, h3]
      intro e2
      subst e2
      have h5 := h.free _ hcv _ (Nat.le_refl _) hnm
      rw [h5] at h3
      exact absurd h3 (not_nat_m1 u)
end

/-- The last ending is put first. -/
theorem LInv.init {s d : List Nat} {K : Nat} {a0 : List Int} (z : A0 s d K a0) :
    LInv s d K a0 0 (a0.set (lo s (sy s (s.length - 1))) ((s.length - 1 : Nat) : Int)) (fun c => if c = sy s (s.length - 1) then lo s c + 1 else lo s c) (fun _ => 0) := by
  have hn := z.pos
  generalize hv : s.length - 1 = v
  have hvl : v < s.length := by omega
  have hvs := sm_last s v (by omega)
  have hcv := z.sym v hvl
  have hnl : 0 < nl s (sy s v) := by
    have := cnt_room (n := s.length) (p := fun i => sy s i == sy s v && !sm s i) (l := [v]) (by simp) (fun x hx => by
      simp at hx; subst hx; exact ⟨hvl, by simp [hvs]⟩)
    exact Nat.lt_of_lt_of_le (by simp) this
  have hmid : lo s (sy s v) < mid s (sy s v) := by unfold mid; omega
  have hup := mid_le s (sy s v)
  have hle := lo_le s (sy s v + 1)
  have hpl : lo s (sy s v) < a0.length := by rw [z.len]; omega
  have far : ∀ p, p ≠ lo s (sy s v) → (a0.set (lo s (sy s v)) (v : Int))[p]? = a0[p]? := fun p hp => getElem?_set_ne' _ _ _ _ hp
  have self : (a0.set (lo s (sy s v)) (v : Int))[lo s (sy s v)]? = some (v : Int) := getElem?_set_self' _ _ _ hpl
  refine ⟨by rw [List.length_set]; exact z.len, fun c hc => ?_, fun c hc => ?_, fun c hc p h1 h2 => ?_, fun c hc p q h1 h2 h3 => ?_, fun c hc p h1 h2 => ?_, fun c hc p h1 h2 => ?_, fun u hu hus hd => ?_⟩
  · split <;> omega
  · have := lo_le_mid s c
    split
    · rename_i e; subst e; omega
    · omega
  · by_cases e : c = sy s v
    · rw [if_pos e] at h2
      have : p = lo s (sy s v) := by subst e; omega
      subst this
      exact ⟨v, self, hvl, e.symm, hvs, Nat.le_refl _, Nat.zero_le _, .inl ⟨rfl, by omega⟩⟩
    · rw [if_neg e] at h2; omega
  · by_cases e : c = sy s v
    · rw [if_pos e] at h3; omega
    · rw [if_neg e] at h3; omega
  · have h4 : lo s c ≤ p := by revert h1; split <;> omega
    rw [far p, z.free c hc p h4 h2]
    intro e
    have h6 := mid_le s c
    have := place_one s (p := p) (c := c) (d := sy s v) h4 (by omega) (show lo s (sy s v) ≤ p by omega) (by omega)
    rw [if_pos this] at h1
    subst this
    omega
  · rw [far p]
    intro e
    have h5 := lo_le_mid s c
    have := place_one s (p := p) (c := c) (d := sy s v) (by omega) h2 (show lo s (sy s v) ≤ p by omega) (by omega)
    subst this
    omega
  · rcases hd with hd | ⟨q, hq, _⟩
    · have : u = v := by omega
      subst this
      exact ⟨_, Nat.le_refl _, by rw [if_pos rfl]; omega, self⟩
    · omega

section
variable {s d : List Nat} {K : Nat} {a0 : List Int} {a : List Int} {nx src : Nat → Nat}
/-- All are put. -/
theorem LInv.has (h : LInv s d K a0 s.length a nx src) (z : A0 s d K a0) : ∀ (m v : Nat), s.length - v ≤ m → v < s.length → (sm s v = false ∨ v ∈ d) → ∃ p, p < s.length ∧ a[p]? = some (v : Int)
  | 0, v, hm, hv, _ => by omega
  | m + 1, v, hm, hv, hk => by
    have fin : ∀ p, a[p]? = some (v : Int) → ∃ p, p < s.length ∧ a[p]? = some (v : Int) := fun p hp => ⟨p, by rw [← h.len]; exact (List.getElem?_eq_some_iff.1 hp).1, hp⟩
    rcases hk with hs | hd
    · have : v + 1 = s.length ∨ ∃ q, q < s.length ∧ a[q]? = some ((v + 1 : Nat) : Int) := by
        by_cases e : v + 1 = s.length
        · exact .inl e
        · refine .inr (LInv.has h z m (v + 1) (by omega) (by omega) ?_)
          cases e2 : sm s (v + 1) with
          | false => exact .inl rfl
          | true => exact .inr (z.all (v + 1) (by omega) (by omega) e2 (by simpa using hs))
      obtain ⟨p, _, _, hp⟩ := h.done v hv hs this
      exact fin p hp
    · obtain ⟨p, h1, h2, hp⟩ := z.has v hd
      exact fin p (by rw [h.keep _ (z.sym v hv) p h1 h2]; exact hp)

theorem LInv.full (h : LInv s d K a0 s.length a nx src) (z : A0 s d K a0) {c : Nat} (hc : c < K) : nx c = mid s c := by
  have h1 := h.lo_nx c hc
  have h2 := h.nx_mid c hc
  obtain ⟨l, hl1, hl2⟩ := vals (a := a) (lo s c) (nx c - lo s c) (fun j hj => by
    obtain ⟨u, hu, _⟩ := h.fill c hc (lo s c + j) (by omega) (by omega)
    exact ⟨u, hu⟩)
  have := cnt_cover (n := s.length) (p := fun i => sy s i == c && !sm s i) (l := l) (fun x hx hp => by
    simp at hp
    obtain ⟨p, hp1, hp2⟩ := h.has z _ x (Nat.le_refl _) hx (.inl hp.2)
    obtain ⟨_, _, e1, e2, e3⟩ := h.at z hp2
    rw [hp.1] at e1 e2 e3
    rcases e3 with ⟨_, e3⟩ | ⟨e3, _⟩
    · obtain ⟨u, hu, hu2⟩ := hl2 (p - lo s c) (by omega)
      rw [show lo s c + (p - lo s c) = p by omega, hp2] at hu2
      have : u = x := by injection hu2 with hu2; omega
      subst this
      exact List.mem_iff_getElem?.2 ⟨_, hu⟩
    · rw [hp.2] at e3; cases e3)
  have hn : nl s c = cnt s.length (fun i => sy s i == c && !sm s i) := rfl
  unfold mid at h2 ⊢
  omega
end
end Lec.Sa
