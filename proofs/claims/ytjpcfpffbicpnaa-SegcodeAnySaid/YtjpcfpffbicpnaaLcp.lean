/- What neighbours have in common: plain. No program stands here. -/
import Derived.Test.YtjpcfpffbicpnaaSa
set_option linter.unusedVariables false
set_option linter.unusedSimpArgs false
namespace Lec.Sa
def lcpL : List Nat → List Nat → Nat
  | a :: as, b :: bs => if a = b then lcpL as bs + 1 else 0
  | _, _ => 0
/-- How many symbols two endings have in common. -/
def lcp (s : List Nat) (i j : Nat) : Nat := lcpL (s.drop i) (s.drop j)
theorem lcpL_comm : ∀ (a b : List Nat), lcpL a b = lcpL b a
  | [], [] => rfl
  | [], b :: bs => rfl
  | a :: as, [] => rfl
  | a :: as, b :: bs => by
    unfold lcpL
    by_cases h : a = b
    · rw [if_pos h, if_pos h.symm, lcpL_comm as bs]
    · rw [if_neg h, if_neg (fun k => h k.symm)]
theorem lcpL_lt : ∀ (a b : List Nat) (h : Nat), h < lcpL a b → ∃ x, a[h]? = some x ∧ b[h]? = some x
  | [], b, h, hl => by cases b <;> simp [lcpL] at hl
  | a :: as, [], h, hl => by simp [lcpL] at hl
  | a :: as, b :: bs, h, hl => by
    unfold lcpL at hl
    split at hl
    · rename_i e
      cases h with
      | zero => exact ⟨a, rfl, by rw [e]; rfl⟩
      | succ h =>
        obtain ⟨x, h1, h2⟩ := lcpL_lt as bs h (by omega)
        exact ⟨x, by simpa using h1, by simpa using h2⟩
    · omega
theorem lcpL_more : ∀ (a b : List Nat) (h x : Nat), h ≤ lcpL a b → a[h]? = some x → b[h]? = some x → h + 1 ≤ lcpL a b
  | [], b, h, x, hl, h1, h2 => by simp at h1
  | a :: as, [], h, x, hl, h1, h2 => by simp at h2
  | a :: as, b :: bs, 0, x, hl, h1, h2 => by
    simp at h1 h2
    subst h1; subst h2
    unfold lcpL; rw [if_pos rfl]; omega
  | a :: as, b :: bs, h + 1, x, hl, h1, h2 => by
    unfold lcpL at hl ⊢
    split
    · rename_i e
      rw [if_pos e] at hl
      have := lcpL_more as bs h x (by omega) (by simpa using h1) (by simpa using h2)
      omega
    · rename_i e
      rw [if_neg e] at hl
      omega
theorem lcpL_mid : ∀ (x y z : List Nat), (x < y ∨ x = y) → y < z → lcpL x z ≤ lcpL y z
  | [], y, z, _, _ => by simp [lcpL]
  | a :: x, [], z, h, _ => by
    rcases h with h | h
    · exact absurd h (lt_nil _)
    · cases h
  | a :: x, b :: y, [], _, h => absurd h (lt_nil _)
  | a :: x, b :: y, c :: z, h, h2 => by
    unfold lcpL
    by_cases hac : a = c
    · rw [if_pos hac]
      rw [List.cons_lt_cons_iff] at h2
      have hb : b = c ∧ (x < y ∨ x = y) ∧ y < z := by
        rcases h with h | h
        · rw [List.cons_lt_cons_iff] at h
          rcases h with h | ⟨h, h'⟩
          · omega
          · rcases h2 with h2 | ⟨h2, h2'⟩
            · omega
            · exact ⟨h2, .inl h', h2'⟩
        · injection h with h h'
          rcases h2 with h2 | ⟨h2, h2'⟩
          · omega
          · exact ⟨h2, .inr h', h2'⟩
      rw [if_pos hb.1]
      have := lcpL_mid x y z hb.2.1 hb.2.2
      omega
    · rw [if_neg hac]; omega

theorem get_drop (s : List Nat) (i h : Nat) (hi : i + h < s.length) : (s.drop i)[h]? = some (sy s (i + h)) := by
  rw [List.getElem?_drop, List.getElem?_eq_getElem hi]; simp [sy, List.getD_eq_getElem?_getD, hi]
/-- One more, if the next ones are the same; else that is all. -/
theorem lcp_more {s : List Nat} {i j h : Nat} (hh : h ≤ lcp s i j) (hi : i + h < s.length) (hj : j + h < s.length) (he : sy s (i + h) = sy s (j + h)) : h + 1 ≤ lcp s i j :=
  lcpL_more _ _ _ _ hh (get_drop s i h hi) (by rw [get_drop s j h hj, he])
theorem lcp_all {s : List Nat} {i j h : Nat} (hh : h ≤ lcp s i j) (hn : ¬ (i + h < s.length ∧ j + h < s.length ∧ sy s (i + h) = sy s (j + h))) : h = lcp s i j := by
  by_cases e : h < lcp s i j
  · obtain ⟨x, h1, h2⟩ := lcpL_lt _ _ _ e
    rw [List.getElem?_drop] at h1 h2
    have a1 := (List.getElem?_eq_some_iff.1 h1).1
    have a2 := (List.getElem?_eq_some_iff.1 h2).1
    refine absurd ⟨a1, a2, ?_⟩ hn
    unfold sy; rw [getD_of h1, getD_of h2]
  · omega
theorem lcp_le {s : List Nat} {i j : Nat} (hi : i ≤ s.length) : i + lcp s i j ≤ s.length := by
  by_cases e : lcp s i j = 0
  · omega
  · obtain ⟨x, h1, _⟩ := lcpL_lt (s.drop i) (s.drop j) (lcp s i j - 1) (by unfold lcp at e ⊢; omega)
    rw [List.getElem?_drop] at h1
    have := (List.getElem?_eq_some_iff.1 h1).1
    omega
theorem lcp_step {s : List Nat} {i j : Nat} (hi : i < s.length) (hj : j < s.length) : lcp s i j = if sy s i = sy s j then lcp s (i + 1) (j + 1) + 1 else 0 := by
  unfold lcp
  rw [drop_eq s i hi, drop_eq s j hj]
  rfl

/-- What the ending at a place of the order has in common with the one ahead. -/
def valC (s b : List Nat) (r : Nat) : Nat := if r = 0 then 0 else lcp s (b.getD r 0) (b.getD (r - 1) 0)
def comL (s b : List Nat) : List Nat := (List.range b.length).map (valC s b)
theorem comL_at (s b : List Nat) (r : Nat) (h : r < b.length) : (comL s b)[r]? = some (valC s b r) := by unfold comL; rw [List.getElem?_map, List.getElem?_range h]; rfl
theorem comL_len (s b : List Nat) : (comL s b).length = b.length := by simp [comL]

theorem IsSA.lt_at {s b : List Nat} (h : IsSA s b) {p q v w : Nat} (hpq : p < q) (hv : b[p]? = some v) (hw : b[q]? = some w) : s.drop v < s.drop w := by
  have := h.ord
  rw [List.pairwise_iff_getElem] at this
  obtain ⟨a1, b1⟩ := List.getElem?_eq_some_iff.1 hv
  obtain ⟨a2, b2⟩ := List.getElem?_eq_some_iff.1 hw
  have := this p q a1 a2 hpq
  rwa [b1, b2] at this
theorem IsSA.rank_lt {s b : List Nat} (h : IsSA s b) {p q v w : Nat} (hv : b[p]? = some v) (hw : b[q]? = some w) (hlt : s.drop v < s.drop w) : p < q := by
  rcases Nat.lt_trichotomy p q with e | e | e
  · exact e
  · subst e; rw [hv] at hw; injection hw with hw; subst hw; exact absurd hlt (List.lt_irrefl _)
  · exact absurd hlt (List.lt_asymm (h.lt_at e hw hv))

/-- The next ending has at most one less in common with its neighbour. -/
theorem IsSA.kasai {s b : List Nat} (h : IsSA s b) {i r r' : Nat} (hr : b[r]? = some i) (hr0 : 0 < r) (hr' : b[r']? = some (i + 1)) (h1 : 1 < valC s b r) : 0 < r' ∧ valC s b r - 1 ≤ valC s b r' := by
  obtain ⟨j, hj⟩ : ∃ j, b[r - 1]? = some j := ⟨_, List.getElem?_eq_getElem (by have := (List.getElem?_eq_some_iff.1 hr).1; omega)⟩
  have hil := h.lt i (List.mem_iff_getElem?.2 ⟨r, hr⟩)
  have hjl := h.lt j (List.mem_iff_getElem?.2 ⟨r - 1, hj⟩)
  have hi1 := h.lt (i + 1) (List.mem_iff_getElem?.2 ⟨r', hr'⟩)
  have hlt := h.lt_at (show r - 1 < r by omega) hj hr
  have hv : valC s b r = lcp s i j := by unfold valC; rw [if_neg (by omega), getD_of hr, getD_of hj]
  rw [hv] at h1 ⊢
  rw [lcp_step hil hjl] at h1 ⊢
  split at h1
  · rename_i he
    rw [if_pos he]
    have hle := lcp_le (s := s) (i := j + 1) (j := i + 1) (by omega)
    have hcm : lcp s (i + 1) (j + 1) = lcp s (j + 1) (i + 1) := lcpL_comm _ _
    have hj1 : j + 1 < s.length := by omega
    have hlt2 : s.drop (j + 1) < s.drop (i + 1) := by
      rcases (lt_step s j i hjl hil).1 hlt with k | k
      · omega
      · exact k.2
    obtain ⟨q, hq⟩ := List.mem_iff_getElem?.1 ((h.mem (j + 1)).2 hj1)
    have hqr := h.rank_lt hq hr' hlt2
    refine ⟨by omega, ?_⟩
    obtain ⟨u, hu⟩ : ∃ u, b[r' - 1]? = some u := ⟨_, List.getElem?_eq_getElem (by have := (List.getElem?_eq_some_iff.1 hr').1; omega)⟩
    have hv' : valC s b r' = lcp s (i + 1) u := by unfold valC; rw [if_neg (by omega), getD_of hr', getD_of hu]
    rw [hv', Nat.add_sub_cancel, hcm]
    have hul := h.lt_at (show r' - 1 < r' by omega) hu hr'
    have hju : s.drop (j + 1) < s.drop u ∨ s.drop (j + 1) = s.drop u := by
      by_cases e : q = r' - 1
      · subst e; rw [hq] at hu; injection hu with hu; subst hu; exact .inr rfl
      · exact .inl (h.lt_at (show q < r' - 1 by omega) hq hu)
    have := lcpL_mid _ _ _ hju hul
    unfold lcp
    rw [lcpL_comm (s.drop (i + 1)) (s.drop u)]
    exact this
  · omega
end Lec.Sa
