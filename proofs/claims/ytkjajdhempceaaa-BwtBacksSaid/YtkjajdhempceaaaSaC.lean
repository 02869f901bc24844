/- Sorting by what is laid first: the smaller kinds. Plain; no program stands here. -/
import Derived.Test.YtkjajdhempceaaaSaB
set_option linter.unusedVariables false
set_option linter.unusedSimpArgs false
namespace Lec.Sa

/-- What the larger kinds' row is when all are put. -/
structure LEnd (s : List Nat) (K : Nat) (aL : List Int) : Prop where
  len : aL.length = s.length
  sym : ∀ i, i < s.length → sy s i < K
  fill : ∀ c, c < K → ∀ p, lo s c ≤ p → p < mid s c → ∃ v : Nat, aL[p]? = some (v : Int) ∧ v < s.length ∧ sy s v = c ∧ sm s v = false
  one : ∀ (p q v : Nat), aL[p]? = some (v : Int) → aL[q]? = some (v : Int) → p = q
  has : ∀ v, v < s.length → sm s v = false → ∃ p, lo s (sy s v) ≤ p ∧ p < mid s (sy s v) ∧ aL[p]? = some (v : Int)

theorem LInv.toEnd {s d : List Nat} {K : Nat} {a0 a : List Int} {nx src : Nat → Nat} (h : LInv s d K a0 s.length a nx src) (z : A0 s d K a0) : LEnd s K a := by
  refine ⟨h.len, z.sym, fun c hc p h1 h2 => ?_, fun p q v => h.uniq z, fun v hv hs => ?_⟩
  · obtain ⟨v, e1, e2, e3, e4, _⟩ := h.fill c hc p h1 (by rw [h.full z hc]; exact h2)
    exact ⟨v, e1, e2, e3, e4⟩
  · obtain ⟨p, _, hp⟩ := h.has z _ v (Nat.le_refl _) hv (.inl hs)
    obtain ⟨_, hc, e1, _, e3⟩ := h.at z hp
    rcases e3 with ⟨_, e3⟩ | ⟨e3, _⟩
    · exact ⟨p, e1, by rw [← h.full z hc]; exact e3, hp⟩
    · rw [hs] at e3; cases e3

/-- The row while smaller kinds are put from behind: the places from i on are seen; e: where a symbol's put ones begin; src: where what stands behind one stood. -/
structure SInv (s : List Nat) (K : Nat) (aL : List Int) (i : Nat) (a : List Int) (e src : Nat → Nat) : Prop where
  len : a.length = s.length
  mid_e : ∀ c, c < K → mid s c ≤ e c
  e_lo : ∀ c, c < K → e c ≤ lo s (c + 1)
  keep : ∀ c, c < K → ∀ p, lo s c ≤ p → p < mid s c → a[p]? = aL[p]?
  fill : ∀ c, c < K → ∀ p, e c ≤ p → p < lo s (c + 1) → ∃ v : Nat, a[p]? = some (v : Int) ∧ v + 1 < s.length ∧ sy s v = c ∧ sm s v = true ∧ i ≤ src p ∧ p < src p ∧ src p < s.length ∧ a[src p]? = some ((v + 1 : Nat) : Int)
  mono : ∀ c, c < K → ∀ p q, e c ≤ p → p < q → q < lo s (c + 1) → src p < src q
  done : ∀ v, v + 1 < s.length → sm s v = true → (∃ q, i ≤ q ∧ a[q]? = some ((v + 1 : Nat) : Int)) → ∃ p, e (sy s v) ≤ p ∧ p < lo s (sy s v + 1) ∧ a[p]? = some (v : Int)
  seen : ∀ c, c < K → ∀ p, mid s c ≤ p → p < lo s (c + 1) → i ≤ p → e c ≤ p

section
variable {s : List Nat} {K : Nat} {aL : List Int} {i : Nat} {a : List Int} {e src : Nat → Nat}

/-- A place that is in force. -/
def Good (s : List Nat) (e : Nat → Nat) (K p : Nat) : Prop := ∃ c, c < K ∧ (lo s c ≤ p ∧ p < mid s c ∨ e c ≤ p ∧ p < lo s (c + 1))

theorem SInv.at (h : SInv s K aL i a e src) (z : LEnd s K aL) {p : Nat} (hg : Good s e K p) :
    ∃ v : Nat, a[p]? = some (v : Int) ∧ v < s.length ∧ sy s v < K ∧ (sm s v = false ∧ lo s (sy s v) ≤ p ∧ p < mid s (sy s v) ∧ aL[p]? = some (v : Int) ∨ sm s v = true ∧ e (sy s v) ≤ p ∧ p < lo s (sy s v + 1)) := by
  obtain ⟨c, hc, ⟨h1, h2⟩ | ⟨h1, h2⟩⟩ := hg
  · obtain ⟨v, e1, e2, e3, e4⟩ := z.fill c hc p h1 h2
    subst e3
    exact ⟨v, by rw [h.keep _ hc p h1 h2]; exact e1, e2, hc, .inl ⟨e4, h1, h2, e1⟩⟩
  · obtain ⟨v, e1, e2, e3, e4, _⟩ := h.fill c hc p h1 h2
    subst e3
    exact ⟨v, e1, by omega, hc, .inr ⟨e4, h1, h2⟩⟩

theorem SInv.good (h : SInv s K aL i a e src) (z : LEnd s K aL) {p : Nat} (hp : p < s.length) (hi : i ≤ p) : Good s e K p := by
  obtain ⟨c, hc, h1, h2⟩ := place s p K (by rw [lo_all s K z.sym]; exact hp)
  by_cases hm : p < mid s c
  · exact ⟨c, hc, .inl ⟨h1, hm⟩⟩
  · exact ⟨c, hc, .inr ⟨h.seen c hc p (by omega) h2 hi, h2⟩⟩

theorem SInv.one (h : SInv s K aL i a e src) (z : LEnd s K aL) : ∀ (m v : Nat), s.length - v ≤ m → ∀ p q : Nat, Good s e K p → Good s e K q → a[p]? = some (v : Int) → a[q]? = some (v : Int) → p = q
  | 0, v, hm, p, q, gp, _, hp, _ => by
    obtain ⟨u, e1, e2, _⟩ := h.at z gp
    rw [hp] at e1; injection e1 with e1; omega
  | m + 1, v, hm, p, q, gp, gq, hp, hq => by
    obtain ⟨u, e1, e2, hc, e3⟩ := h.at z gp
    obtain ⟨t, f1, f2, _, f3⟩ := h.at z gq
    obtain rfl : v = u := by rw [hp] at e1; injection e1 with e1; omega
    obtain rfl : v = t := by rw [hq] at f1; injection f1 with f1; omega
    rcases e3 with ⟨es, _, _, e3⟩ | ⟨es, e4, e5⟩
    · rcases f3 with ⟨_, _, _, f3⟩ | ⟨fs, _⟩
      · exact z.one p q v e3 f3
      · rw [es] at fs; cases fs
    · rcases f3 with ⟨fs, _⟩ | ⟨_, f4, f5⟩
      · rw [es] at fs; cases fs
      · obtain ⟨u, g1, g2, g3, g4, g5, g6, g7, g8⟩ := h.fill _ hc p e4 e5
        obtain ⟨t, k1, k2, k3, k4, k5, k6, k7, k8⟩ := h.fill _ hc q f4 f5
        obtain rfl : v = u := by rw [hp] at g1; injection g1 with g1; omega
        obtain rfl : v = t := by rw [hq] at k1; injection k1 with k1; omega
        have key := SInv.one h z m (v + 1) (by omega) _ _ (h.good z g7 g5) (h.good z k7 k5) g8 k8
        rcases Nat.lt_trichotomy p q with e | e | e
        · have := h.mono _ hc p q e4 e f5; omega
        · exact e
        · have := h.mono _ hc q p f4 e e5; omega

theorem SInv.uniq (h : SInv s K aL i a e src) (z : LEnd s K aL) {p q v : Nat} (gp : Good s e K p) (gq : Good s e K q) (hp : a[p]? = some (v : Int)) (hq : a[q]? = some (v : Int)) : p = q := h.one z _ v (Nat.le_refl _) p q gp gq hp hq

/-- The put ones of a symbol, as a list. -/
theorem SInv.list (h : SInv s K aL i a e src) (z : LEnd s K aL) {c : Nat} (hc : c < K) : ∃ l : List Nat, l.length = lo s (c + 1) - e c ∧ l.Nodup ∧ (∀ x ∈ l, x + 1 < s.length ∧ sy s x = c ∧ sm s x = true ∧ ∃ p, e c ≤ p ∧ p < lo s (c + 1) ∧ a[p]? = some (x : Int)) ∧
    (∀ p (x : Nat), e c ≤ p → p < lo s (c + 1) → a[p]? = some (x : Int) → x ∈ l) := by
  have h1 := h.e_lo c hc
  obtain ⟨l, hl1, hl2⟩ := vals (a := a) (e c) (lo s (c + 1) - e c) (fun j hj => by
    obtain ⟨u, hu, _⟩ := h.fill c hc (e c + j) (by omega) (by omega)
    exact ⟨u, hu⟩)
  refine ⟨l, hl1, vals_nodup hl1 hl2 (fun j k u hj hk e1 e2 => ?_), fun x hx => ?_, fun p x p1 p2 hp => ?_⟩
  · have := h.uniq z ⟨c, hc, .inr ⟨by omega, by omega⟩⟩ ⟨c, hc, .inr ⟨by omega, by omega⟩⟩ e1 e2
    omega
  · obtain ⟨j, hj, hx2⟩ := vals_mem hl1 hl2 hx
    obtain ⟨u, g1, g2, g3, g4, _⟩ := h.fill c hc (e c + j) (by omega) (by omega)
    obtain rfl : x = u := by rw [hx2] at g1; injection g1 with g1; omega
    exact ⟨g2, g3, g4, _, by omega, by omega, hx2⟩
  · obtain ⟨u, hu, hu2⟩ := hl2 (p - e c) (by omega)
    rw [show e c + (p - e c) = p by omega, hp] at hu2
    obtain rfl : x = u := by injection hu2 with hu2; omega
    exact List.mem_iff_getElem?.2 ⟨_, hu⟩

/-- If the places of a symbol are all put, each of its smaller ones is there. -/
theorem SInv.all (h : SInv s K aL i a e src) (z : LEnd s K aL) {c : Nat} (hc : c < K) (hf : e c ≤ mid s c) {v : Nat} (hv : v < s.length) (hvc : sy s v = c) (hs : sm s v = true) : ∃ p, e c ≤ p ∧ p < lo s (c + 1) ∧ a[p]? = some (v : Int) := by
  obtain ⟨l, l1, l2, l3, l4⟩ := h.list z hc
  have hn : ns s c = cnt s.length (fun i => sy s i == c && sm s i) := rfl
  have hu := lo_succ s c
  have := cnt_full (n := s.length) (p := fun i => sy s i == c && sm s i) l2 (fun x hx => by
    obtain ⟨e1, e2, e3, _⟩ := l3 x hx
    exact ⟨by omega, by simp [e2, e3]⟩) (by omega) v hv (by simp [hvc, hs])
  exact (l3 v this).2.2.2

/-- The place that is seen next is in force. -/
theorem SInv.next (h : SInv s K aL (i + 1) a e src) (z : LEnd s K aL) {c : Nat} (hc : c < K) (h1 : mid s c ≤ i) (h2 : i < lo s (c + 1)) : e c ≤ i := by
  by_cases hlt : e c ≤ i
  · exact hlt
  exfalso
  have key : ∀ (m v : Nat), s.length - v ≤ m → v < s.length → sy s v = c → sm s v = true → ∃ p, e c ≤ p ∧ p < lo s (c + 1) ∧ a[p]? = some (v : Int) := by
    intro m
    induction m with
    | zero => intro v hm hv; omega
    | succ m ih =>
      intro v hm hv hvc hs
      have hv1 : v + 1 < s.length := by
        by_cases e : v + 1 < s.length
        · exact e
        · rw [sm_last s v (by omega)] at hs; cases hs
      have hd : ∃ q, i + 1 ≤ q ∧ a[q]? = some ((v + 1 : Nat) : Int) := by
        rcases sm_lt s v hv1 hs with g | ⟨g, g2⟩
        · have hc' := z.sym (v + 1) hv1
          have hmo := lo_mono s (show c + 1 ≤ sy s (v + 1) by omega)
          cases g3 : sm s (v + 1) with
          | false =>
            obtain ⟨p, p1, p2, p3⟩ := z.has (v + 1) hv1 g3
            exact ⟨p, by omega, by rw [h.keep _ hc' p p1 p2]; exact p3⟩
          | true =>
            have hm1 := lo_le_mid s (sy s (v + 1))
            have he : e (sy s (v + 1)) ≤ mid s (sy s (v + 1)) := by
              by_cases hh : mid s (sy s (v + 1)) < lo s (sy s (v + 1) + 1)
              · exact h.seen _ hc' (mid s (sy s (v + 1))) (Nat.le_refl _) hh (by omega)
              · have := h.e_lo _ hc'; omega
            obtain ⟨p, p1, p2, p3⟩ := h.all z hc' he hv1 rfl g3
            have := h.mid_e _ hc'
            exact ⟨p, by omega, p3⟩
        · obtain ⟨p, p1, p2, p3⟩ := ih (v + 1) (by omega) hv1 (by omega) g2
          exact ⟨p, by omega, p3⟩
      obtain ⟨p, p1, p2, p3⟩ := h.done v hv1 hs hd
      exact ⟨p, by rw [← hvc]; exact p1, by rw [← hvc]; exact p2, p3⟩
  have hcl := h.e_lo c hc
  obtain ⟨l, l1, l2, l3, l4⟩ := h.list z hc
  have hcov := cnt_cover (n := s.length) (p := fun i => sy s i == c && sm s i) (l := l) (fun x hx hp => by
    simp at hp
    obtain ⟨p, p1, p2, p3⟩ := key _ x (Nat.le_refl _) hx hp.1 hp.2
    exact l4 p x p1 p2 p3)
  have hn : ns s c = cnt s.length (fun i => sy s i == c && sm s i) := rfl
  have hu := lo_succ s c
  omega

/-- The row before any is put. -/
theorem SInv.init (z : LEnd s K aL) (src : Nat → Nat) : SInv s K aL s.length aL (fun c => lo s (c + 1)) src := by
  refine ⟨z.len, fun c _ => mid_le s c, fun c _ => Nat.le_refl _, fun c _ p _ _ => rfl, fun c _ p h1 h2 => by omega, fun c _ p q h1 h2 h3 => by omega, fun v hv hs hd => ?_, fun c hc p h1 h2 h3 => ?_⟩
  · obtain ⟨q, hq, hq2⟩ := hd
    have := (List.getElem?_eq_some_iff.1 hq2).1
    rw [z.len] at this; omega
  · have := lo_le s (c + 1); omega

/-- The place seen holds none whose predecessor is of the smaller kind. -/
theorem SInv.skip (h : SInv s K aL (i + 1) a e src) (z : LEnd s K aL) (hno : ∀ v : Nat, a[i]? = some ((v + 1 : Nat) : Int) → sm s v = false) : SInv s K aL i a e src := by
  refine ⟨h.len, h.mid_e, h.e_lo, h.keep, fun c hc p h1 h2 => ?_, h.mono, fun v hv hs hd => ?_, fun c hc p h1 h2 h3 => ?_⟩
  · obtain ⟨v, e1, e2, e3, e4, e5, e6⟩ := h.fill c hc p h1 h2
    exact ⟨v, e1, e2, e3, e4, by omega, e6⟩
  · refine h.done v hv hs ?_
    obtain ⟨q, hq, hq2⟩ := hd
    by_cases e : q = i
    · subst e
      have := hno v hq2
      rw [hs] at this; cases this
    · exact ⟨q, by omega, hq2⟩
  · by_cases e : p = i
    · subst e; exact h.next z hc h1 h2
    · exact h.seen c hc p h1 h2 (by omega)

theorem SInv.seen' (h : SInv s K aL (i + 1) a e src) (z : LEnd s K aL) (hi : i < s.length) : Good s e K i := by
  obtain ⟨c, hc, h1, h2⟩ := place s i K (by rw [lo_all s K z.sym]; exact hi)
  by_cases hm : i < mid s c
  · exact ⟨c, hc, .inl ⟨h1, hm⟩⟩
  · exact ⟨c, hc, .inr ⟨h.next z hc (by omega) h2, h2⟩⟩

/-- The place seen holds v + 1, and v is of the smaller kind: where v goes. -/
theorem SInv.room (h : SInv s K aL (i + 1) a e src) (z : LEnd s K aL) {v : Nat} (hi : i < s.length) (hv : a[i]? = some ((v + 1 : Nat) : Int)) (hs : sm s v = true) :
    v + 1 < s.length ∧ sy s v < K ∧ mid s (sy s v) < e (sy s v) ∧ e (sy s v) - 1 < i := by
  have gi := h.seen' z hi
  obtain ⟨u, g1, g2, g3, g4⟩ := h.at z gi
  obtain rfl : v + 1 = u := by rw [hv] at g1; injection g1 with g1; omega
  have hcv := z.sym v (by omega)
  have hme := h.mid_e _ hcv
  have hel := h.e_lo _ hcv
  obtain ⟨l, l1, l2, l3, l4⟩ := h.list z hcv
  have hnot : v ∉ l := fun hx => by
    obtain ⟨_, _, _, p, p1, p2, p3⟩ := l3 v hx
    obtain ⟨u, k1, k2, k3, k4, k5, k6, k7, k8⟩ := h.fill _ hcv p p1 p2
    obtain rfl : v = u := by rw [p3] at k1; injection k1 with k1; omega
    have := h.uniq z (h.good z k7 k5) gi k8 hv
    omega
  have hr := cnt_room (n := s.length) (p := fun i => sy s i == sy s v && sm s i) (l := v :: l) (List.nodup_cons.2 ⟨hnot, l2⟩) (fun y hy => by
    rcases List.mem_cons.1 hy with rfl | hy
    · exact ⟨by omega, by simp [hs]⟩
    · obtain ⟨e1, e2, e3, _⟩ := l3 y hy
      exact ⟨by omega, by simp [e2, e3]⟩)
  rw [List.length_cons, l1] at hr
  have hn : ns s (sy s v) = cnt s.length (fun i => sy s i == sy s v && sm s i) := rfl
  have hu := lo_succ s (sy s v)
  refine ⟨g2, hcv, by omega, ?_⟩
  rcases sm_lt s v g2 hs with k | ⟨k, k2⟩
  · have := lo_mono s (show sy s v + 1 ≤ sy s (v + 1) by omega)
    have h0 := lo_le_mid s (sy s (v + 1))
    have h5 := h.mid_e _ g3
    have : lo s (sy s (v + 1)) ≤ i := by
      rcases g4 with ⟨_, g4, _⟩ | ⟨_, g4, _⟩ <;> omega
    omega
  · rcases g4 with ⟨g4, _⟩ | ⟨_, g4, _⟩
    · rw [k2] at g4; cases g4
    · rw [k] at hme hn hr hel ⊢; rw [k] at hu; omega

/-- v is put. -/
theorem SInv.put (h : SInv s K aL (i + 1) a e src) (z : LEnd s K aL) {v : Nat} (hi : i < s.length) (hv : a[i]? = some ((v + 1 : Nat) : Int)) (hs : sm s v = true) :
    SInv s K aL i (a.set (e (sy s v) - 1) (v : Int)) (fun c => if c = sy s v then e c - 1 else e c) (fun p => if p = e (sy s v) - 1 then i else src p) := by
  obtain ⟨hv1, hcv, hme, hei⟩ := h.room z hi hv hs
  have hel := h.e_lo _ hcv
  have hle := lo_le s (sy s v + 1)
  have hlm := lo_le_mid s (sy s v)
  generalize hp0 : e (sy s v) - 1 = p0 at *
  have hpl : p0 < a.length := by rw [h.len]; omega
  have far : ∀ p, p ≠ p0 → (a.set p0 (v : Int))[p]? = a[p]? := fun p hp => getElem?_set_ne' _ _ _ _ hp
  have self : (a.set p0 (v : Int))[p0]? = some (v : Int) := getElem?_set_self' _ _ _ hpl
  have inb : ∀ c, c < K → lo s c ≤ p0 → p0 < lo s (c + 1) → c = sy s v := fun c _ h1 h2 => place_one s h1 h2 (by omega) (by omega)
  refine ⟨by rw [List.length_set]; exact h.len, fun c hc => ?_, fun c hc => ?_, fun c hc p h1 h2 => ?_, fun c hc p h1 h2 => ?_, fun c hc p q h1 h2 h3 => ?_, fun u hu hus hd => ?_, fun c hc p h1 h2 h3 => ?_⟩
  · have := h.mid_e c hc
    split
    · rename_i k; subst k; omega
    · exact this
  · have := h.e_lo c hc
    split <;> omega
  · rw [far p, h.keep c hc p h1 h2]
    intro k
    subst k
    have h5 := mid_le s c
    have := inb c hc h1 (by omega)
    subst this; omega
  · have old : e c ≤ p → p ≠ p0 → ∃ u : Nat, (a.set p0 (v : Int))[p]? = some (u : Int) ∧ u + 1 < s.length ∧ sy s u = c ∧ sm s u = true ∧ i ≤ (if p = p0 then i else src p) ∧ p < (if p = p0 then i else src p) ∧ (if p = p0 then i else src p) < s.length ∧ (a.set p0 (v : Int))[if p = p0 then i else src p]? = some ((u + 1 : Nat) : Int) := by
      intro h3 h4
      obtain ⟨u, e1, e2, e3, e4, e5, e6, e7, e8⟩ := h.fill c hc p h3 h2
      rw [far p h4, if_neg h4, far _ (by omega)]
      exact ⟨u, e1, e2, e3, e4, by omega, e6, e7, e8⟩
    by_cases k : c = sy s v
    · rw [if_pos k] at h1
      by_cases k2 : p = p0
      · rw [k2, self, if_pos rfl, far _ (by omega)]
        exact ⟨v, rfl, hv1, k.symm, hs, Nat.le_refl _, hei, hi, hv⟩
      · exact old (by subst k; omega) k2
    · rw [if_neg k] at h1
      refine old h1 (fun k2 => ?_)
      subst k2
      have := h.mid_e c hc
      have := lo_le_mid s c
      exact k (inb c hc (by omega) h2)
  · have hp : e c ≤ q := by revert h1; split <;> omega
    have hq0 : q ≠ p0 := by
      intro k
      subst k
      have := h.mid_e c hc
      have := lo_le_mid s c
      have := inb c hc (by omega) h3
      rw [if_pos this] at h1
      subst this; omega
    rw [if_neg hq0]
    by_cases k : p = p0
    · rw [if_pos k]
      obtain ⟨u, _, _, _, _, e5, _⟩ := h.fill c hc q hp h3
      omega
    · rw [if_neg k]
      refine h.mono c hc p q ?_ h2 h3
      by_cases k2 : c = sy s v
      · rw [if_pos k2] at h1; subst k2; omega
      · rw [if_neg k2] at h1; exact h1
  · by_cases k : u = v
    · subst k
      exact ⟨p0, by rw [if_pos rfl]; omega, by omega, self⟩
    · obtain ⟨q, hq, hq2⟩ := hd
      rw [far q (by omega)] at hq2
      obtain ⟨p, p1, p2, p3⟩ := h.done u hu hus (by
        refine ⟨q, ?_, hq2⟩
        by_cases k2 : q = i
        · subst k2
          rw [hv] at hq2; injection hq2 with hq2; omega
        · omega)
      refine ⟨p, by split <;> omega, p2, ?_⟩
      rw [far p, p3]
      intro k2
      subst k2
      have := h.mid_e _ (z.sym u (by omega))
      have := lo_le_mid s (sy s u)
      have := inb _ (z.sym u (by omega)) (by omega) p2
      rw [this] at p1; omega
  · have h4 : e c ≤ p := by
      by_cases k : p = i
      · subst k; exact h.next z hc h1 h2
      · exact h.seen c hc p h1 h2 (by omega)
    split <;> omega
end
end Lec.Sa
