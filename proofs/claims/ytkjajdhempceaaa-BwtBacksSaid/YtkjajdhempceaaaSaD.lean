/- Sorted endings by sorted beginnings: plain. No program stands here. -/
import Derived.Test.YtkjajdhempceaaaSaC
set_option linter.unusedVariables false
set_option linter.unusedSimpArgs false
namespace Lec.Sa

/-- What inducing answers of a row of places: all endings, in an order that goes by symbols, kinds, and what stands behind. -/
def Induced (s d : List Nat) (K : Nat) (a : List Int) : Prop :=
  ∃ a0 aL nx srcL e srcS, A0 s d K a0 ∧ LInv s d K a0 s.length aL nx srcL ∧ SInv s K aL 0 a e srcS

theorem ind_L {s d : List Nat} {K : Nat} {a0 aL : List Int} {nx src : Nat → Nat} (h : LInv s d K a0 s.length aL nx src) (z : A0 s d K a0) (R : Nat → Nat → Prop)
    (h1 : ∀ v w, v < s.length → w < s.length → sy s v < sy s w → R v w)
    (h2 : ∀ v w, v < s.length → w < s.length → sy s v = sy s w → sm s v = false → sm s w = true → R v w)
    (h3 : ∀ v w, v ∈ d → w ∈ d → sy s v = sy s w → (∃ i j : Nat, i < j ∧ d[i]? = some v ∧ d[j]? = some w) → R v w)
    (h4 : ∀ v w, v + 1 = s.length → w + 1 < s.length → sy s v = sy s w → R v w)
    (h5 : ∀ v w, v + 1 < s.length → w + 1 < s.length → sy s v = sy s w → sm s v = false → sm s w = false → R (v + 1) (w + 1) → R v w) :
    ∀ (m v w p q : Nat), s.length - v ≤ m → p < q → aL[p]? = some (v : Int) → aL[q]? = some (w : Int) → R v w
  | 0, v, w, p, q, hm, hpq, hp, hq => by have := (h.at z hp).1; omega
  | m + 1, v, w, p, q, hm, hpq, hp, hq => by
    obtain ⟨hv, hcv, p1, p2, p3⟩ := h.at z hp
    obtain ⟨hw, hcw, q1, q2, q3⟩ := h.at z hq
    rcases Nat.lt_trichotomy (sy s v) (sy s w) with e | e | e
    · exact h1 v w hv hw e
    · rcases p3 with ⟨ps, p4⟩ | ⟨ps, p4, p5⟩
      · rcases q3 with ⟨qs, q4⟩ | ⟨qs, _⟩
        · have hmo := h.mono _ hcw p q (by rw [← e]; exact p1) hpq q4
          obtain ⟨u, a1, _, _, _, _, _, a2⟩ := h.fill _ hcv p p1 p4
          obtain ⟨t, b1, _, _, _, _, _, b2⟩ := h.fill _ hcw q q1 q4
          obtain rfl : v = u := by rw [hp] at a1; injection a1 with a1; omega
          obtain rfl : w = t := by rw [hq] at b1; injection b1 with b1; omega
          rcases b2 with ⟨b2, _⟩ | ⟨b2, b3, b4⟩
          · omega
          · rcases a2 with ⟨_, a3⟩ | ⟨a2, a3, a4⟩
            · exact h4 v w a3 b3 e
            · exact h5 v w a3 b3 e ps qs (ind_L h z R h1 h2 h3 h4 h5 m (v + 1) (w + 1) _ _ (by omega) (by omega) a4 b4)
        · exact h2 v w hv hw e ps qs
      · rcases q3 with ⟨qs, q4⟩ | ⟨qs, q4, q5⟩
        · have := h.nx_mid _ hcw
          rw [e] at p4; omega
        · rw [h.keep _ hcv p p4 p2] at hp
          rw [h.keep _ hcw q q4 q2] at hq
          exact h3 v w p5 q5 e (z.ord _ hcv p q p4 hpq (by rw [e]; exact q2) v w hp hq)
    · have := lo_mono s (show sy s w + 1 ≤ sy s v by omega)
      omega

theorem SInv.all0 {s : List Nat} {K : Nat} {aL a : List Int} {e src : Nat → Nat} (h : SInv s K aL 0 a e src) (z : LEnd s K aL) {p : Nat} (hp : p < s.length) : Good s e K p := h.good z hp (Nat.zero_le _)

theorem ind_S {s : List Nat} {K : Nat} {aL a : List Int} {e src : Nat → Nat} (h : SInv s K aL 0 a e src) (z : LEnd s K aL) (R : Nat → Nat → Prop)
    (h0 : ∀ v w p q : Nat, p < q → sm s v = false → sm s w = false → aL[p]? = some (v : Int) → aL[q]? = some (w : Int) → R v w)
    (h1 : ∀ v w, v < s.length → w < s.length → sy s v < sy s w → R v w)
    (h2 : ∀ v w, v < s.length → w < s.length → sy s v = sy s w → sm s v = false → sm s w = true → R v w)
    (h5 : ∀ v w, v + 1 < s.length → w + 1 < s.length → sy s v = sy s w → sm s v = true → sm s w = true → R (v + 1) (w + 1) → R v w) :
    ∀ (m v w p q : Nat), s.length - v ≤ m → p < q → q < s.length → a[p]? = some (v : Int) → a[q]? = some (w : Int) → R v w
  | 0, v, w, p, q, hm, hpq, hql, hp, hq => by
    obtain ⟨u, a1, a2, _⟩ := h.at z (h.all0 z (show p < s.length by omega))
    rw [hp] at a1; injection a1 with a1; omega
  | m + 1, v, w, p, q, hm, hpq, hql, hp, hq => by
    obtain ⟨u, a1, hv, hcv, p3⟩ := h.at z (h.all0 z (show p < s.length by omega))
    obtain ⟨t, b1, hw, hcw, q3⟩ := h.at z (h.all0 z hql)
    obtain rfl : v = u := by rw [hp] at a1; injection a1 with a1; omega
    obtain rfl : w = t := by rw [hq] at b1; injection b1 with b1; omega
    have lp : lo s (sy s v) ≤ p ∧ p < lo s (sy s v + 1) := by
      have := mid_le s (sy s v); have := lo_le_mid s (sy s v); have := h.mid_e _ hcv
      rcases p3 with ⟨_, x, y, _⟩ | ⟨_, x, y⟩ <;> omega
    have lq : lo s (sy s w) ≤ q ∧ q < lo s (sy s w + 1) := by
      have := mid_le s (sy s w); have := lo_le_mid s (sy s w); have := h.mid_e _ hcw
      rcases q3 with ⟨_, x, y, _⟩ | ⟨_, x, y⟩ <;> omega
    rcases Nat.lt_trichotomy (sy s v) (sy s w) with k | k | k
    · exact h1 v w hv hw k
    · rcases p3 with ⟨ps, p4, p5, p6⟩ | ⟨ps, p4, p5⟩
      · rcases q3 with ⟨qs, q4, q5, q6⟩ | ⟨qs, q4, q5⟩
        · exact h0 v w p q hpq ps qs p6 q6
        · exact h2 v w hv hw k ps qs
      · rcases q3 with ⟨qs, q4, q5, q6⟩ | ⟨qs, q4, q5⟩
        · have := h.mid_e _ hcv
          rw [k] at p4 this; omega
        · have hmo := h.mono _ hcv p q p4 hpq (by rw [k]; exact q5)
          obtain ⟨u, a1, av, _, _, _, _, al, a2⟩ := h.fill _ hcv p p4 p5
          obtain ⟨t, b1, bv, _, _, _, _, bl, b2⟩ := h.fill _ hcw q q4 q5
          obtain rfl : v = u := by rw [hp] at a1; injection a1 with a1; omega
          obtain rfl : w = t := by rw [hq] at b1; injection b1 with b1; omega
          exact h5 v w av bv k ps qs (ind_S h z R h0 h1 h2 h5 m (v + 1) (w + 1) _ _ (by omega) hmo bl a2 b2)
    · have := lo_mono s (show sy s w + 1 ≤ sy s v by omega)
      omega

/-- The ending of a list that has sorted endings. -/
structure IsSA (s a : List Nat) : Prop where
  len : a.length = s.length
  lt : ∀ v, v ∈ a → v < s.length
  ord : a.Pairwise (fun v w => s.drop v < s.drop w)

theorem sorted_eq {R : Nat → Nat → Prop} (hir : ∀ x, ¬ R x x) (has : ∀ x y, R x y → ¬ R y x) : ∀ {a b : List Nat}, a.Pairwise R → b.Pairwise R → (∀ x, x ∈ a ↔ x ∈ b) → a = b
  | [], [], _, _, _ => rfl
  | [], y :: ys, _, _, h => by have := (h y).2 (by simp); simp at this
  | x :: xs, [], _, _, h => by have := (h x).1 (by simp); simp at this
  | x :: xs, y :: ys, ha, hb, h => by
    rw [List.pairwise_cons] at ha hb
    have e : x = y := by
      rcases List.mem_cons.1 ((h x).1 (by simp)) with k | k
      · exact k
      · rcases List.mem_cons.1 ((h y).2 (by simp)) with k' | k'
        · exact k'.symm
        · exact absurd (ha.1 y k') (has _ _ (hb.1 x k))
    subst e
    congr 1
    refine sorted_eq hir has ha.2 hb.2 (fun z => ?_)
    constructor
    · intro hz
      rcases List.mem_cons.1 ((h z).1 (by simp [hz])) with k | k
      · subst k; exact absurd (ha.1 z hz) (hir z)
      · exact k
    · intro hz
      rcases List.mem_cons.1 ((h z).2 (by simp [hz])) with k | k
      · subst k; exact absurd (hb.1 z hz) (hir z)
      · exact k

theorem IsSA.nodup {s a : List Nat} (h : IsSA s a) : a.Nodup := by
  rw [List.nodup_iff_pairwise_ne]
  refine h.ord.imp ?_
  intro x y hxy e
  subst e
  exact List.lt_irrefl _ hxy

theorem IsSA.mem {s a : List Nat} (h : IsSA s a) (v : Nat) : v ∈ a ↔ v < s.length := by
  constructor
  · exact h.lt v
  · intro hv
    exact nodup_all h.nodup (m := List.range s.length) (fun x hx => List.mem_range.2 (h.lt x hx)) (by simp [h.len]) v (List.mem_range.2 hv)

theorem IsSA.eq {s a b : List Nat} (h : IsSA s a) (k : IsSA s b) : a = b :=
  sorted_eq (R := fun v w => s.drop v < s.drop w) (fun x => List.lt_irrefl _) (fun x y h1 h2 => List.lt_asymm h1 h2) h.ord k.ord (fun x => by rw [h.mem, k.mem])

/-- A row of integers that are all numbers. -/
theorem Induced.nat {s d : List Nat} {K : Nat} {a : List Int} (h : Induced s d K a) : ∃ b : List Nat, a = b.map (fun v => ((v : Nat) : Int)) ∧ b.length = s.length ∧ b.Nodup ∧ ∀ v, v ∈ b → v < s.length := by
  obtain ⟨a0, aL, nx, srcL, e, srcS, z, hL, hS⟩ := h
  have zE := hL.toEnd z
  obtain ⟨l, l1, l2⟩ := vals (a := a) 0 s.length (fun j hj => by
    obtain ⟨u, hu, _⟩ := hS.at zE (hS.all0 zE (show 0 + j < s.length by omega))
    exact ⟨u, hu⟩)
  refine ⟨l, ?_, l1, vals_nodup l1 l2 (fun j k v hj hk e1 e2 => ?_), fun v hv => ?_⟩
  · apply List.ext_getElem?
    intro j
    by_cases hj : j < s.length
    · obtain ⟨v, v1, v2⟩ := l2 j hj
      rw [Nat.zero_add] at v2
      rw [v2, List.getElem?_map, v1]; rfl
    · rw [List.getElem?_eq_none (by rw [hS.len]; omega), List.getElem?_eq_none (by rw [List.length_map]; omega)]
  · have := hS.uniq zE (hS.all0 zE (show 0 + j < s.length by omega)) (hS.all0 zE (show 0 + k < s.length by omega)) e1 e2
    omega
  · obtain ⟨j, hj, hj2⟩ := vals_mem l1 l2 hv
    obtain ⟨u, u1, u2, _⟩ := hS.at zE (hS.all0 zE (show 0 + j < s.length by omega))
    rw [hj2] at u1; injection u1 with u1; omega

/-- Laid in order they make all endings ordered. -/
theorem Induced.sorted {s d : List Nat} {K : Nat} {b : List Nat} (h : Induced s d K (b.map (fun v => ((v : Nat) : Int)))) (hd : d.Pairwise (fun v w => s.drop v < s.drop w)) : IsSA s b := by
  obtain ⟨b', e1, e2, e3, e4⟩ := h.nat
  have : b' = b := by
    have := List.map_inj_right (f := fun v : Nat => (v : Int)) (fun x y h => by have h' : (x : Int) = (y : Int) := h; omega) |>.1 e1
    exact this.symm
  subst this
  refine ⟨e2, e4, ?_⟩
  rw [List.pairwise_iff_getElem]
  intro p q hp hq hpq
  obtain ⟨a0, aL, nx, srcL, e, srcS, z, hL, hS⟩ := h
  have zE := hL.toEnd z
  have hLL := ind_L hL z (fun v w => s.drop v < s.drop w) (fun v w hv hw k => (lt_step s v w hv hw).2 (.inl k)) (fun v w hv hw k k1 k2 => kinds s v w hv hw k k1 k2)
    (fun v w _ _ _ ⟨i, j, hij, i1, j1⟩ => by
      rw [List.pairwise_iff_getElem] at hd
      obtain ⟨a1, b1⟩ := List.getElem?_eq_some_iff.1 i1
      obtain ⟨a2, b2⟩ := List.getElem?_eq_some_iff.1 j1
      have := hd i j a1 a2 hij
      rw [b1, b2] at this; exact this)
    (fun v w hv hw k => (lt_step s v w (by omega) (by omega)).2 (.inr ⟨k, end_lt s _ _ (by omega) hw⟩))
    (fun v w hv hw k _ _ hr => (lt_step s v w (by omega) (by omega)).2 (.inr ⟨k, hr⟩))
  refine ind_S hS zE (fun v w => s.drop v < s.drop w) (fun v w p q hpq _ _ i j => hLL _ v w p q (Nat.le_refl _) hpq i j) (fun v w hv hw k => (lt_step s v w hv hw).2 (.inl k)) (fun v w hv hw k k1 k2 => kinds s v w hv hw k k1 k2)
    (fun v w hv hw k _ _ hr => (lt_step s v w (by omega) (by omega)).2 (.inr ⟨k, hr⟩)) _ _ _ p q (Nat.le_refl _) hpq (by omega) ?_ ?_
  · simp [hp]
  · simp [hq]

/-! Pieces. -/
def Lms (s : List Nat) (v : Nat) : Prop := 0 < v ∧ v < s.length ∧ sm s v = true ∧ sm s (v - 1) = false

/-- Two pieces are the same. -/
inductive Eq' (s : List Nat) : Nat → Nat → Prop
  | last {v w : Nat} : sy s v = sy s w → sm s v = sm s w → Lms s (v + 1) → Lms s (w + 1) → sy s (v + 1) = sy s (w + 1) → Eq' s v w
  | next {v w : Nat} : sy s v = sy s w → sm s v = sm s w → ¬ Lms s (v + 1) → ¬ Lms s (w + 1) → v + 1 < s.length → w + 1 < s.length → Eq' s (v + 1) (w + 1) → Eq' s v w

theorem Eq'.symm {s : List Nat} {v w : Nat} (h : Eq' s v w) : Eq' s w v := by
  induction h with
  | last a b c d e => exact .last a.symm b.symm d c e.symm
  | next a b c d e f _ ih => exact .next a.symm b.symm d c f e ih

theorem Eq'.trans {s : List Nat} {u v w : Nat} (h : Eq' s u v) (k : Eq' s v w) : Eq' s u w := by
  induction h generalizing w with
  | last a b c d e =>
    cases k with
    | last a' b' c' d' e' => exact .last (a.trans a') (b.trans b') c d' (e.trans e')
    | next a' b' c' d' _ _ _ => exact absurd d c'
  | next a b c d e f _ ih =>
    cases k with
    | last a' b' c' d' e' => exact absurd c' d
    | next a' b' c' d' e' f' k => exact .next (a.trans a') (b.trans b') c d' e f' (ih k)

theorem Eq'.esy {s : List Nat} {v w : Nat} (h : Eq' s v w) : sy s v = sy s w := by cases h <;> assumption
theorem Eq'.esm {s : List Nat} {v w : Nat} (h : Eq' s v w) : sm s v = sm s w := by cases h <;> assumption

/-- What stands between two same pieces' endings is the same, too. -/
theorem Eq'.mid {s : List Nat} {v w : Nat} (h : Eq' s v w) : ∀ {m : Nat}, v < s.length → w < s.length → m < s.length → s.drop v < s.drop m → s.drop m < s.drop w → Eq' s v m := by
  have base : ∀ {v w m : Nat}, sy s v = sy s w → sm s v = sm s w → v < s.length → w < s.length → m < s.length → s.drop v < s.drop m → s.drop m < s.drop w →
      sy s v = sy s m ∧ sm s v = sm s m ∧ s.drop (v + 1) < s.drop (m + 1) ∧ s.drop (m + 1) < s.drop (w + 1) ∧ m + 1 < s.length := by
    intro v w m e1 e2 hv hw hm h1 h2
    have hk : sm s v = sm s m := by
      cases hs : sm s v with
      | false =>
        cases hs2 : sm s m with
        | false => rfl
        | true =>
          have h3 := (lt_step s v m hv hm).1 h1
          have h4 := (lt_step s m w hm hw).1 h2
          have : sy s w = sy s m := by omega
          exact absurd h2 (List.lt_asymm (kinds s w m hw hm this (by rw [← e2]; exact hs) hs2))
      | true =>
        cases hs2 : sm s m with
        | true => rfl
        | false =>
          have h3 := (lt_step s v m hv hm).1 h1
          have h4 := (lt_step s m w hm hw).1 h2
          have : sy s m = sy s v := by omega
          exact absurd h1 (List.lt_asymm (kinds s m v hm hv this hs2 hs))
    rw [lt_step s v m hv hm] at h1
    rw [lt_step s m w hm hw] at h2
    have e3 : sy s v = sy s m := by omega
    have h3 : s.drop (v + 1) < s.drop (m + 1) := by
      rcases h1 with h1 | h1
      · omega
      · exact h1.2
    refine ⟨e3, hk, h3, ?_, ?_⟩
    · rcases h2 with h2 | h2
      · omega
      · exact h2.2
    · by_cases hl : m + 1 < s.length
      · exact hl
      · rw [drop_end s (m + 1) (by omega)] at h3
        exact absurd h3 (lt_nil _)
  induction h with
  | @last v w a b c d e =>
    intro m hv hw hm h1 h2
    obtain ⟨k1, k2, k3, k4, k5⟩ := base a b hv hw hm h1 h2
    have hv1 := c.2.1
    have hw1 := d.2.1
    have k3' := (lt_step s (v + 1) (m + 1) hv1 k5).1 k3
    have k4' := (lt_step s (m + 1) (w + 1) k5 hw1).1 k4
    have e1 : sy s (v + 1) = sy s (m + 1) := by omega
    have e2 : sm s (m + 1) = true := by
      cases hs : sm s (m + 1) with
      | true => rfl
      | false => exact absurd k3 (List.lt_asymm (kinds s (m + 1) (v + 1) k5 hv1 e1.symm hs c.2.2.1))
    refine .last k1 k2 c ⟨by omega, k5, e2, ?_⟩ e1
    have := c.2.2.2
    rw [Nat.add_sub_cancel] at this ⊢
    rw [← k2]; exact this
  | @next v w a b c d e f _ ih =>
    intro m hv hw hm h1 h2
    obtain ⟨k1, k2, k3, k4, k5⟩ := base a b hv hw hm h1 h2
    have ie := ih e f k5 k3 k4
    refine .next k1 k2 c (fun hl => c ⟨by omega, e, ?_, ?_⟩) e k5 ie
    · rw [ie.esm]; exact hl.2.2.1
    · have := hl.2.2.2
      rw [Nat.add_sub_cancel] at this ⊢
      rw [k2]; exact this

/-- Laid in any order they make all endings ordered up to pieces. -/
theorem Induced.pieces {s d : List Nat} {K : Nat} {b : List Nat} (h : Induced s d K (b.map (fun v => ((v : Nat) : Int)))) {p q v w : Nat} (hpq : p < q) (hp : b[p]? = some v) (hq : b[q]? = some w) (hne : ¬ Eq' s v w) : s.drop v < s.drop w := by
  obtain ⟨b', e1, e2, e3, e4⟩ := h.nat
  have : b' = b := by
    have := List.map_inj_right (f := fun v : Nat => (v : Int)) (fun x y h => by have h' : (x : Int) = (y : Int) := h; omega) |>.1 e1
    exact this.symm
  subst this
  obtain ⟨a0, aL, nx, srcL, e, srcS, z, hL, hS⟩ := h
  have zE := hL.toEnd z
  have nl : ∀ v, sm s v = false → ¬ Lms s v := fun v hv hl => by rw [hl.2.2.1] at hv; cases hv
  have hLL := ind_L hL z (fun v w => ¬ (Lms s v ∧ Lms s w ∧ sy s v = sy s w ∨ ¬ Lms s v ∧ ¬ Lms s w ∧ v < s.length ∧ w < s.length ∧ Eq' s v w) → s.drop v < s.drop w)
    (fun v w hv hw k _ => (lt_step s v w hv hw).2 (.inl k)) (fun v w hv hw k k1 k2 _ => kinds s v w hv hw k k1 k2)
    (fun v w hv hw k _ hn => absurd (.inl ⟨by have := z.lms v hv; exact ⟨this.2.1, this.1, this.2.2⟩, by have := z.lms w hw; exact ⟨this.2.1, this.1, this.2.2⟩, k⟩) hn)
    (fun v w hv hw k _ => (lt_step s v w (by omega) (by omega)).2 (.inr ⟨k, end_lt s _ _ (by omega) hw⟩))
    (fun v w hv hw k k1 k2 hr hn => by
      refine (lt_step s v w (by omega) (by omega)).2 (.inr ⟨k, hr (fun hx => hn (.inr ⟨nl v k1, nl w k2, by omega, by omega, ?_⟩))⟩)
      rcases hx with ⟨x1, x2, x3⟩ | ⟨x1, x2, x3, x4, x5⟩
      · exact .last k (k1.trans k2.symm) x1 x2 x3
      · exact .next k (k1.trans k2.symm) x1 x2 x3 x4 x5)
  have hql := (List.getElem?_eq_some_iff.1 hq).1
  refine ind_S hS zE (fun v w => ¬ Eq' s v w → s.drop v < s.drop w)
    (fun v w p q hpq k1 k2 i j hn => hLL _ v w p q (Nat.le_refl _) hpq i j (fun hx => by
      rcases hx with ⟨x1, _⟩ | ⟨_, _, _, _, x5⟩
      · exact nl v k1 x1
      · exact hn x5))
    (fun v w hv hw k _ => (lt_step s v w hv hw).2 (.inl k)) (fun v w hv hw k k1 k2 _ => kinds s v w hv hw k k1 k2)
    (fun v w hv hw k k1 k2 hr hn => (lt_step s v w (by omega) (by omega)).2 (.inr ⟨k, hr (fun hx => hn (.next k (k1.trans k2.symm) (fun hl => ?_) (fun hl => ?_) hv hw hx))⟩))
    _ v w p q (Nat.le_refl _) hpq (by omega) (by simp [hp]) (by simp [hq]) hne
  · have := hl.2.2.2; rw [Nat.add_sub_cancel, k1] at this; cases this
  · have := hl.2.2.2; rw [Nat.add_sub_cancel, k2] at this; cases this
end Lec.Sa
