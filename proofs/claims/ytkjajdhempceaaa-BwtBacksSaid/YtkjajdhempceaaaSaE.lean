/- Laying places; pieces' names; the shorter list: plain. No program stands here. -/
import Derived.Test.YtkjajdhempceaaaSaD
set_option linter.unusedVariables false
set_option linter.unusedSimpArgs false
namespace Lec.Sa

/-- Does a smaller ending with a larger one ahead begin at i? -/
def lmsB (s : List Nat) (i : Nat) : Bool := decide (0 < i) && (decide (i < s.length) && (sm s i && !sm s (i - 1)))
theorem lmsB_iff (s : List Nat) (i : Nat) : lmsB s i = true ↔ Lms s i := by unfold lmsB Lms; simp
/-- Where they begin, rising. -/
def lmsL (s : List Nat) : List Nat := (List.range s.length).filter (lmsB s)
theorem lmsL_mem (s : List Nat) (v : Nat) : v ∈ lmsL s ↔ Lms s v := by
  unfold lmsL; rw [List.mem_filter, List.mem_range, lmsB_iff]
  exact ⟨fun h => h.2, fun h => ⟨h.2.1, h⟩⟩
theorem lmsL_nodup (s : List Nat) : (lmsL s).Nodup := List.nodup_range.filter _
theorem lmsL_rise (s : List Nat) : (lmsL s).Pairwise (· < ·) := List.pairwise_lt_range.filter _
theorem lmsL_len (s : List Nat) : (lmsL s).length = cnt s.length (lmsB s) := rfl

theorem cnt_mono (p : Nat → Bool) {m n : Nat} (h : m ≤ n) : cnt m p ≤ cnt n p := by
  induction n with
  | zero => obtain rfl : m = 0 := by omega
            exact Nat.le_refl _
  | succ n ih =>
    by_cases e : m = n + 1
    · subst e; exact Nat.le_refl _
    · rw [cnt_succ]; have := ih (by omega); omega

theorem filter_at (p : Nat → Bool) : ∀ (n i : Nat), i < n → p i = true → ((List.range n).filter p)[cnt i p]? = some i
  | 0, i, h, _ => by omega
  | n + 1, i, h, hp => by
    rw [List.range_succ, List.filter_append]
    by_cases e : i = n
    · subst e
      rw [List.getElem?_append_right (by exact Nat.le_refl _)]
      simp [cnt, hp]
    · rw [List.getElem?_append_left ?_]
      · exact filter_at p n i (by omega) hp
      · have := cnt_mono p (show i + 1 ≤ n by omega)
        rw [cnt_succ, hp] at this
        exact Nat.lt_of_lt_of_le (Nat.lt_succ_self _) this

/-- The number of one. -/
def idx (s : List Nat) (v : Nat) : Nat := cnt v (lmsB s)
theorem idx_at {s : List Nat} {v : Nat} (h : Lms s v) : (lmsL s)[idx s v]? = some v := filter_at _ _ _ h.2.1 ((lmsB_iff s v).2 h)
theorem idx_lt {s : List Nat} {v : Nat} (h : Lms s v) : idx s v < (lmsL s).length := (List.getElem?_eq_some_iff.1 (idx_at h)).1
theorem idx_get {s : List Nat} {j v : Nat} (h : (lmsL s)[j]? = some v) : idx s v = j := by
  have hv : Lms s v := (lmsL_mem s v).1 (List.mem_iff_getElem?.2 ⟨j, h⟩)
  have hn := lmsL_nodup s
  have e := idx_at hv
  obtain ⟨a1, b1⟩ := List.getElem?_eq_some_iff.1 e
  obtain ⟨a2, b2⟩ := List.getElem?_eq_some_iff.1 h
  rw [List.nodup_iff_pairwise_ne, List.pairwise_iff_getElem] at hn
  rcases Nat.lt_trichotomy (idx s v) j with k | k | k
  · exact absurd (b1.trans b2.symm) (hn _ _ a1 a2 k)
  · exact k
  · exact absurd (b2.trans b1.symm) (hn _ _ a2 a1 k)
/-- There are at most half as many. -/
theorem lms_half (s : List Nat) : ∀ n, 2 * cnt n (lmsB s) ≤ n ∧ (lmsB s n = true → 2 * cnt n (lmsB s) + 1 ≤ n)
  | 0 => ⟨by simp [cnt], fun h => by simp [lmsB] at h⟩
  | n + 1 => by
    obtain ⟨h1, h2⟩ := lms_half s n
    rw [cnt_succ]
    cases h : lmsB s n with
    | false =>
      simp only [Bool.toNat_false]
      exact ⟨by omega, fun _ => by omega⟩
    | true =>
      have := h2 h
      simp only [Bool.toNat_true]
      refine ⟨by omega, fun h3 => ?_⟩
      exfalso
      rw [lmsB_iff] at h h3
      have := h3.2.2.2
      rw [Nat.add_sub_cancel, h.2.2.1] at this; cases this
theorem lmsL_half (s : List Nat) : 2 * (lmsL s).length ≤ s.length := (lms_half s s.length).1

/-- The row while places are laid: m of them are. -/
structure P0 (s d : List Nat) (K m : Nat) (a : List Int) (nx src : Nat → Nat) : Prop where
  len : a.length = s.length
  mid_nx : ∀ c, c < K → mid s c ≤ nx c
  nx_lo : ∀ c, c < K → nx c ≤ lo s (c + 1)
  fill : ∀ c, c < K → ∀ p, mid s c ≤ p → p < nx c → ∃ v : Nat, a[p]? = some (v : Int) ∧ src p < m ∧ d[src p]? = some v ∧ sy s v = c
  mono : ∀ c, c < K → ∀ p q, mid s c ≤ p → p < q → q < nx c → src p < src q
  low : ∀ c, c < K → ∀ p, lo s c ≤ p → p < mid s c → a[p]? = some (-1)
  free : ∀ c, c < K → ∀ p, nx c ≤ p → p < lo s (c + 1) → a[p]? = some (-1)
  done : ∀ j, j < m → ∀ v, d[j]? = some v → ∃ p, mid s (sy s v) ≤ p ∧ p < nx (sy s v) ∧ a[p]? = some (v : Int)

/-- What places may be laid. -/
structure Lay (s d : List Nat) (K : Nat) : Prop where
  pos : 0 < s.length
  sym : ∀ i, i < s.length → sy s i < K
  nod : d.Nodup
  mem : ∀ v, v ∈ d ↔ Lms s v

theorem Lay.lms {s d : List Nat} {K : Nat} (h : Lay s d K) {j v : Nat} (hj : d[j]? = some v) : Lms s v := (h.mem v).1 (List.mem_iff_getElem?.2 ⟨j, hj⟩)

theorem P0.init {s d : List Nat} {K : Nat} (h : Lay s d K) : P0 s d K 0 (List.replicate s.length (-1)) (mid s) (fun _ => 0) := by
  have hr : ∀ p, p < s.length → (List.replicate s.length (-1 : Int))[p]? = some (-1) := fun p hp => by rw [List.getElem?_replicate, if_pos hp]
  refine ⟨by simp, fun c _ => Nat.le_refl _, fun c _ => mid_le s c, fun c _ p h1 h2 => by omega, fun c _ p q h1 h2 h3 => by omega, fun c _ p h1 h2 => hr p ?_, fun c _ p h1 h2 => hr p ?_, fun j hj => by omega⟩
  · have := mid_le s c; have := lo_le s (c + 1); omega
  · have := lo_le s (c + 1); omega

section
variable {s d : List Nat} {K m : Nat} {a : List Int} {nx src : Nat → Nat}
theorem P0.room (h : P0 s d K m a nx src) (z : Lay s d K) {v : Nat} (hv : d[m]? = some v) : sy s v < K ∧ v < s.length ∧ nx (sy s v) < lo s (sy s v + 1) := by
  have hl := z.lms hv
  have hc := z.sym v hl.2.1
  refine ⟨hc, hl.2.1, ?_⟩
  have hm := h.mid_nx _ hc
  obtain ⟨l, l1, l2⟩ := vals (a := a) (mid s (sy s v)) (nx (sy s v) - mid s (sy s v)) (fun j hj => by
    obtain ⟨u, hu, _⟩ := h.fill _ hc (mid s (sy s v) + j) (by omega) (by omega)
    exact ⟨u, hu⟩)
  have hnd := z.nod
  rw [List.nodup_iff_pairwise_ne, List.pairwise_iff_getElem] at hnd
  have dd : ∀ i j (u : Nat), d[i]? = some u → d[j]? = some u → i = j := fun i j u e1 e2 => by
    obtain ⟨a1, b1⟩ := List.getElem?_eq_some_iff.1 e1
    obtain ⟨a2, b2⟩ := List.getElem?_eq_some_iff.1 e2
    rcases Nat.lt_trichotomy i j with k | k | k
    · exact absurd (b1.trans b2.symm) (hnd _ _ a1 a2 k)
    · exact k
    · exact absurd (b2.trans b1.symm) (hnd _ _ a2 a1 k)
  have l3 : l.Nodup := vals_nodup l1 l2 (fun j k u hj hk e1 e2 => by
    obtain ⟨u1, x1, x2, x3, x4⟩ := h.fill _ hc (mid s (sy s v) + j) (by omega) (by omega)
    obtain ⟨u2, y1, y2, y3, y4⟩ := h.fill _ hc (mid s (sy s v) + k) (by omega) (by omega)
    obtain rfl : u = u1 := by rw [e1] at x1; injection x1 with x1; omega
    obtain rfl : u = u2 := by rw [e2] at y1; injection y1 with y1; omega
    have e := dd _ _ u x3 y3
    rcases Nat.lt_trichotomy j k with k' | k' | k'
    · have := h.mono _ hc (mid s (sy s v) + j) (mid s (sy s v) + k) (by omega) (by omega) (by omega); omega
    · exact k'
    · have := h.mono _ hc (mid s (sy s v) + k) (mid s (sy s v) + j) (by omega) (by omega) (by omega); omega)
  have hr := cnt_room (n := s.length) (p := fun i => sy s i == sy s v && sm s i) (l := v :: l) (List.nodup_cons.2 ⟨fun hx => by
      obtain ⟨j, hj, hx2⟩ := vals_mem l1 l2 hx
      obtain ⟨u1, x1, x2, x3, x4⟩ := h.fill _ hc (mid s (sy s v) + j) (by omega) (by omega)
      obtain rfl : v = u1 := by rw [hx2] at x1; injection x1 with x1; omega
      have := dd _ _ v x3 hv
      omega, l3⟩) (fun y hy => by
    rcases List.mem_cons.1 hy with rfl | hy
    · exact ⟨hl.2.1, by simp [hl.2.2.1]⟩
    · obtain ⟨j, hj, hx2⟩ := vals_mem l1 l2 hy
      obtain ⟨u1, x1, x2, x3, x4⟩ := h.fill _ hc (mid s (sy s v) + j) (by omega) (by omega)
      obtain rfl : y = u1 := by rw [hx2] at x1; injection x1 with x1; omega
      have := z.lms x3
      exact ⟨this.2.1, by simp [x4, this.2.2.1]⟩)
  rw [List.length_cons, l1] at hr
  have hn : ns s (sy s v) = cnt s.length (fun i => sy s i == sy s v && sm s i) := rfl
  have hu := lo_succ s (sy s v)
  omega

theorem P0.put (h : P0 s d K m a nx src) (z : Lay s d K) {v : Nat} (hv : d[m]? = some v) :
    P0 s d K (m + 1) (a.set (nx (sy s v)) (v : Int)) (fun c => if c = sy s v then nx c + 1 else nx c) (fun p => if p = nx (sy s v) then m else src p) := by
  obtain ⟨hc, hvl, hr⟩ := h.room z hv
  have hm := h.mid_nx _ hc
  have hle := lo_le s (sy s v + 1)
  have hlm := lo_le_mid s (sy s v)
  generalize hp0 : nx (sy s v) = p0 at *
  have hpl : p0 < a.length := by rw [h.len]; omega
  have far : ∀ p, p ≠ p0 → (a.set p0 (v : Int))[p]? = a[p]? := fun p hp => getElem?_set_ne' _ _ _ _ hp
  have self : (a.set p0 (v : Int))[p0]? = some (v : Int) := getElem?_set_self' _ _ _ hpl
  have inb : ∀ c, c < K → lo s c ≤ p0 → p0 < lo s (c + 1) → c = sy s v := fun c _ h1 h2 => place_one s h1 h2 (by omega) (by omega)
  refine ⟨by rw [List.length_set]; exact h.len, fun c hc => ?_, fun c hc => ?_, fun c hc p h1 h2 => ?_, fun c hc p q h1 h2 h3 => ?_, fun c hc p h1 h2 => ?_, fun c hc p h1 h2 => ?_, fun j hj u hu => ?_⟩
  · have := h.mid_nx c hc
    split <;> omega
  · have := h.nx_lo c hc
    split
    · rename_i k; subst k; omega
    · exact this
  · have old : p < nx c → p ≠ p0 → ∃ u : Nat, (a.set p0 (v : Int))[p]? = some (u : Int) ∧ (if p = p0 then m else src p) < m + 1 ∧ d[if p = p0 then m else src p]? = some u ∧ sy s u = c := by
      intro h3 h4
      obtain ⟨u, e1, e2, e3, e4⟩ := h.fill c hc p h1 h3
      rw [far p h4, if_neg h4]
      exact ⟨u, e1, by omega, e3, e4⟩
    by_cases k : c = sy s v
    · rw [if_pos k] at h2
      by_cases k2 : p = p0
      · rw [k2, self, if_pos rfl]
        exact ⟨v, rfl, by omega, hv, k.symm⟩
      · exact old (by subst k; omega) k2
    · rw [if_neg k] at h2
      refine old h2 (fun k2 => ?_)
      subst k2
      have := h.nx_lo c hc
      have := lo_le_mid s c
      exact k (inb c hc (by omega) (by omega))
  · have hpx : p < nx c := by
      by_cases k : c = sy s v
      · rw [if_pos k] at h3; subst k; omega
      · rw [if_neg k] at h3; omega
    have hpn : p ≠ p0 := by
      intro k
      subst k
      have := h.nx_lo c hc
      have := lo_le_mid s c
      have := inb c hc (by omega) (by omega)
      subst this; omega
    rw [if_neg hpn]
    by_cases k : q = p0
    · rw [if_pos k]
      obtain ⟨u, _, e2, _⟩ := h.fill c hc p h1 hpx
      exact e2
    · rw [if_neg k]
      refine h.mono c hc p q h1 h2 ?_
      by_cases k2 : c = sy s v
      · rw [if_pos k2] at h3; subst k2; omega
      · rw [if_neg k2] at h3; exact h3
  · rw [far p, h.low c hc p h1 h2]
    intro k
    subst k
    have := mid_le s c
    have := inb c hc h1 (by omega)
    subst this; omega
  · have h4 : nx c ≤ p := by revert h1; split <;> omega
    rw [far p, h.free c hc p h4 h2]
    intro k
    subst k
    have := h.mid_nx c hc
    have := lo_le_mid s c
    have := inb c hc (by omega) h2
    rw [if_pos this] at h1
    subst this; omega
  · by_cases k : j = m
    · subst k
      obtain rfl : v = u := by rw [hv] at hu; injection hu
      exact ⟨p0, by omega, by rw [if_pos rfl]; omega, self⟩
    · obtain ⟨p, p1, p2, p3⟩ := h.done j (by omega) u hu
      refine ⟨p, p1, by split <;> omega, ?_⟩
      rw [far p, p3]
      intro k2
      subst k2
      have hcu := z.sym u (z.lms hu).2.1
      have := h.nx_lo _ hcu
      have := lo_le_mid s (sy s u)
      have := inb _ hcu (by omega) (by omega)
      rw [this] at p2; omega

theorem P0.toA0 (h : P0 s d K d.length a nx src) (z : Lay s d K) : A0 s d K a := by
  refine ⟨h.len, z.pos, z.sym, z.nod, fun v hv => ?_, fun v h1 h2 h3 h4 => (z.mem v).2 ⟨h2, h1, h3, h4⟩, h.low, fun c hc p h1 h2 => ?_, fun c hc p q h1 h2 h3 v w hv hw => ?_, fun v hv => ?_⟩
  · have := (z.mem v).1 hv
    exact ⟨this.2.1, this.1, this.2.2⟩
  · by_cases k : p < nx c
    · obtain ⟨v, e1, e2, e3, e4⟩ := h.fill c hc p h1 k
      exact .inr ⟨v, e1, List.mem_iff_getElem?.2 ⟨_, e3⟩, e4⟩
    · exact .inl (h.free c hc p (by omega) h2)
  · have hq : q < nx c := by
      by_cases k : q < nx c
      · exact k
      · have := h.free c hc q (by omega) h3
        rw [hw] at this
        exact absurd this.symm (not_nat_m1 w)
    obtain ⟨u1, x1, x2, x3, x4⟩ := h.fill c hc p h1 (by omega)
    obtain ⟨u2, y1, y2, y3, y4⟩ := h.fill c hc q (by omega) hq
    obtain rfl : v = u1 := by rw [hv] at x1; injection x1 with x1; omega
    obtain rfl : w = u2 := by rw [hw] at y1; injection y1 with y1; omega
    exact ⟨_, _, h.mono c hc p q h1 h2 hq, x3, y3⟩
  · obtain ⟨j, hj⟩ := List.mem_iff_getElem?.1 hv
    have hjl := (List.getElem?_eq_some_iff.1 hj).1
    obtain ⟨p, p1, p2, p3⟩ := h.done j hjl v hj
    have := h.nx_lo _ (z.sym v (z.lms hj).2.1)
    exact ⟨p, p1, by omega, p3⟩
end

/-! Same pieces, by their symbols. -/
theorem Eq'.walk {s : List Nat} {v w : Nat} (h : Eq' s v w) : v < s.length → w < s.length → ∃ t, 0 < t ∧ Lms s (v + t) ∧ Lms s (w + t) ∧ (∀ j, 0 < j → j < t → ¬ Lms s (v + j) ∧ ¬ Lms s (w + j)) ∧ (∀ j, j ≤ t → sy s (v + j) = sy s (w + j)) ∧ (s.drop (v + t) < s.drop (w + t) → s.drop v < s.drop w) := by
  induction h with
  | @last v w a b c d e =>
    intro hv hw
    refine ⟨1, by omega, c, d, fun j h1 h2 => by omega, fun j hj => ?_, fun hlt => (lt_step s v w hv hw).2 (.inr ⟨a, hlt⟩)⟩
    rcases (show j = 0 ∨ j = 1 by omega) with rfl | rfl
    · exact a
    · exact e
  | @next v w a b c d e f _ ih =>
    intro hv hw
    obtain ⟨t, t1, t2, t3, t4, t5, t6⟩ := ih e f
    refine ⟨t + 1, by omega, by rw [show v + (t + 1) = v + 1 + t by omega]; exact t2, by rw [show w + (t + 1) = w + 1 + t by omega]; exact t3, fun j h1 h2 => ?_, fun j hj => ?_, fun hlt => (lt_step s v w hv hw).2 (.inr ⟨a, t6 (by rw [show v + 1 + t = v + (t + 1) by omega, show w + 1 + t = w + (t + 1) by omega]; exact hlt)⟩)⟩
    · by_cases k : j = 1
      · subst k; exact ⟨c, d⟩
      · have := t4 (j - 1) (by omega) (by omega)
        rw [show v + 1 + (j - 1) = v + j by omega, show w + 1 + (j - 1) = w + j by omega] at this
        exact this
    · by_cases k : j = 0
      · subst k; exact a
      · have := t5 (j - 1) (by omega)
        rw [show v + 1 + (j - 1) = v + j by omega, show w + 1 + (j - 1) = w + j by omega] at this
        exact this

theorem Eq'.of_same {s : List Nat} : ∀ (t v w : Nat), 0 < t → Lms s (v + t) → Lms s (w + t) → (∀ j, 0 < j → j < t → ¬ Lms s (v + j) ∧ ¬ Lms s (w + j)) → (∀ j, j ≤ t → Sa.sy s (v + j) = Sa.sy s (w + j)) → Eq' s v w ∧ Sa.sm s v = Sa.sm s w
  | 0, v, w, h, _, _, _, _ => by omega
  | t + 1, v, w, _, hv, hw, hn, he => by
    have hvl := hv.2.1
    have hwl := hw.2.1
    have e0 := he 0 (by omega)
    have e1 := he 1 (by omega)
    rw [Nat.add_zero, Nat.add_zero] at e0
    have step : Sa.sm s (v + 1) = Sa.sm s (w + 1) → Sa.sm s v = Sa.sm s w := fun k => by
      rw [sm_step s v (by omega), sm_step s w (by omega), e0, e1, k]
    by_cases ht : t = 0
    · subst ht
      rw [Nat.zero_add] at hv hw
      have k := step (hv.2.2.1.trans hw.2.2.1.symm)
      exact ⟨.last e0 k hv hw e1, k⟩
    · obtain ⟨ih, k⟩ := Eq'.of_same t (v + 1) (w + 1) (by omega) (by rw [show v + 1 + t = v + (t + 1) by omega]; exact hv) (by rw [show w + 1 + t = w + (t + 1) by omega]; exact hw)
        (fun j h1 h2 => by have := hn (j + 1) (by omega) (by omega); rw [show v + 1 + j = v + (j + 1) by omega, show w + 1 + j = w + (j + 1) by omega]; exact this)
        (fun j hj => by have := he (j + 1) (by omega); rw [show v + 1 + j = v + (j + 1) by omega, show w + 1 + j = w + (j + 1) by omega]; exact this)
      have k' := step k
      have := hn 1 (by omega) (by omega)
      exact ⟨.next e0 k' this.1 this.2 (by omega) (by omega) ih, k'⟩

/-- Where the piece that begins at a place ends. -/
def endP (s : List Nat) (v : Nat) : Nat := ((lmsL s)[idx s v + 1]?).getD s.length

theorem lmsL_next {s : List Nat} {j v w : Nat} (hv : (lmsL s)[j]? = some v) (hw : (lmsL s)[j + 1]? = some w) : v < w ∧ Lms s w ∧ ∀ x, v < x → x < w → ¬ Lms s x := by
  have hr := lmsL_rise s
  rw [List.pairwise_iff_getElem] at hr
  obtain ⟨a1, b1⟩ := List.getElem?_eq_some_iff.1 hv
  obtain ⟨a2, b2⟩ := List.getElem?_eq_some_iff.1 hw
  refine ⟨by have := hr j (j + 1) a1 a2 (by omega); omega, (lmsL_mem s w).1 (List.mem_iff_getElem?.2 ⟨_, hw⟩), fun x h1 h2 hx => ?_⟩
  have e := idx_at hx
  obtain ⟨a3, b3⟩ := List.getElem?_eq_some_iff.1 e
  rcases Nat.lt_trichotomy (idx s x) j with k | k | k
  · have := hr _ _ a3 a1 k; omega
  · subst k; omega
  · rcases Nat.lt_trichotomy (idx s x) (j + 1) with k' | k' | k'
    · omega
    · have : (lmsL s)[idx s x] = (lmsL s)[j + 1] := by congr 1
      omega
    · have := hr _ _ a2 a3 k'; omega

theorem next_lms {s : List Nat} {j v t : Nat} (hv : (lmsL s)[j]? = some v) (ht : 0 < t) (hl : Lms s (v + t)) (hn : ∀ i, 0 < i → i < t → ¬ Lms s (v + i)) : (lmsL s)[j + 1]? = some (v + t) := by
  have hr := lmsL_rise s
  rw [List.pairwise_iff_getElem] at hr
  obtain ⟨a1, b1⟩ := List.getElem?_eq_some_iff.1 hv
  have e := idx_at hl
  obtain ⟨a3, b3⟩ := List.getElem?_eq_some_iff.1 e
  have hj : j < idx s (v + t) := by
    rcases Nat.lt_trichotomy (idx s (v + t)) j with k | k | k
    · have := hr _ _ a3 a1 k; omega
    · have : (lmsL s)[idx s (v + t)] = (lmsL s)[j] := by congr 1
      omega
    · exact k
  by_cases k : idx s (v + t) = j + 1
  · rw [← k]; exact e
  · have a2 : j + 1 < (lmsL s).length := by omega
    have h1 := hr j (j + 1) a1 a2 (by omega)
    have h2 := hr (j + 1) _ a2 a3 (by omega)
    have hm : Lms s (lmsL s)[j + 1] := (lmsL_mem s _).1 (List.getElem_mem a2)
    have := hn ((lmsL s)[j + 1] - v) (by omega) (by omega)
    rw [show v + ((lmsL s)[j + 1] - v) = (lmsL s)[j + 1] by omega] at this
    exact absurd hm this

theorem endP_le (s : List Nat) (v : Nat) (hv : Lms s v) : v < endP s v ∧ endP s v ≤ s.length := by
  unfold endP
  have iv := idx_at hv
  have hvl := hv.2.1
  cases e : (lmsL s)[idx s v + 1]? with
  | none => exact ⟨hvl, Nat.le_refl _⟩
  | some x =>
    obtain ⟨m1, m2, _⟩ := lmsL_next iv e
    have := m2.2.1
    show v < x ∧ x ≤ s.length
    omega

/-- Two pieces are the same if, and only if, they have the same symbols, that behind them, too; none ends with the list. -/
theorem same_iff {s : List Nat} {v w : Nat} (hv : Lms s v) (hw : Lms s w) : Eq' s v w ↔ endP s v - v = endP s w - w ∧ endP s v ≠ s.length ∧ endP s w ≠ s.length ∧ ∀ j, j ≤ endP s v - v → sy s (v + j) = sy s (w + j) := by
  have iv := idx_at hv
  have iw := idx_at hw
  constructor
  · intro h
    obtain ⟨t, t1, t2, t3, t4, t5, _⟩ := h.walk hv.2.1 hw.2.1
    have n1 := next_lms iv t1 t2 (fun i h1 h2 => (t4 i h1 h2).1)
    have n2 := next_lms iw t1 t3 (fun i h1 h2 => (t4 i h1 h2).2)
    have e1 : endP s v = v + t := by unfold endP; rw [n1]; rfl
    have e2 : endP s w = w + t := by unfold endP; rw [n2]; rfl
    have := t2.2.1
    have := t3.2.1
    rw [e1, e2]
    exact ⟨by omega, by omega, by omega, fun j hj => t5 j (by omega)⟩
  · rintro ⟨h1, h2, h3, h4⟩
    obtain ⟨x, hx⟩ : ∃ x, (lmsL s)[idx s v + 1]? = some x := by
      cases e : (lmsL s)[idx s v + 1]? with
      | none => unfold endP at h2; rw [e] at h2; exact absurd rfl h2
      | some x => exact ⟨x, rfl⟩
    obtain ⟨y, hy⟩ : ∃ y, (lmsL s)[idx s w + 1]? = some y := by
      cases e : (lmsL s)[idx s w + 1]? with
      | none => unfold endP at h3; rw [e] at h3; exact absurd rfl h3
      | some x => exact ⟨x, rfl⟩
    have e1 : endP s v = x := by unfold endP; rw [hx]; rfl
    have e2 : endP s w = y := by unfold endP; rw [hy]; rfl
    rw [e1] at h1 h4
    rw [e2] at h1
    obtain ⟨m1, m2, m3⟩ := lmsL_next iv hx
    obtain ⟨k1, k2, k3⟩ := lmsL_next iw hy
    refine (Eq'.of_same (x - v) v w (by omega) (by rw [show v + (x - v) = x by omega]; exact m2) (by rw [show w + (x - v) = y by omega]; exact k2) (fun j a1 a2 => ⟨m3 _ (by omega) (by omega), k3 _ (by omega) (by omega)⟩) (fun j hj => h4 j hj)).1
end Lec.Sa
