/- A last column that was made is walked back: plain. -/
import Derived.Test.YtkjajdhempceaaaLfM
set_option linter.unusedVariables false
set_option linter.unusedSimpArgs false
namespace Lec.Sa
theorem rows_ord {s b : List Nat} (h : IsSA s b) : (rowsL s b).Pairwise (fun v w => s.drop v < s.drop w) := by
  unfold rowsL
  rw [List.pairwise_cons]
  refine ⟨fun v hv => ?_, h.ord⟩
  have hv := h.lt v hv
  rw [drop_end s s.length (Nat.le_refl _), drop_eq s v hv]
  exact List.nil_lt_cons _ _
theorem atK_at {R : List Nat} {j : Nat} (h : R[j]? = some 0) : ∀ k, j < k → R[atK R k]? = some 0
  | 0, hk => by omega
  | k + 1, hk => by
    rw [atK]
    by_cases e : R[k]? = some 0
    · rw [if_pos e]; exact e
    · rw [if_neg e]
      refine atK_at h k ?_
      by_cases e2 : j = k
      · subst e2; exact absurd h e
      · omega
theorem IsSA.walk {s b : List Nat} (h : IsSA s b) :
    (outL s (rowsL s b)).length = s.length ∧ atK (rowsL s b) (s.length + 1) ≤ s.length ∧ OkW (outL s (rowsL s b)) (atK (rowsL s b) (s.length + 1)) ∧ outW (outL s (rowsL s b)) (atK (rowsL s b) (s.length + 1)) = s := by
  have hRl := rowsL_len h
  have hRm := rowsL_mem h
  have hRo := rows_ord h
  have hLl := outL_len h
  have hR0 : (rowsL s b)[0]? = some s.length := rfl
  generalize rowsL s b = R at *
  obtain ⟨j0, hj0⟩ := List.mem_iff_getElem?.1 ((hRm 0).2 (by omega))
  have hj0l : j0 < s.length + 1 := by have := (List.getElem?_eq_some_iff.1 hj0).1; omega
  have ht0 := atK_at hj0 (s.length + 1) hj0l
  generalize atK R (s.length + 1) = t at *
  have htn : t ≤ s.length := by have := (List.getElem?_eq_some_iff.1 ht0).1; omega
  -- f: which ending stands in a row
  obtain ⟨f, hfd⟩ : ∃ f : Nat → Nat, f = fun r => R.getD r 0 := ⟨_, rfl⟩
  have hf : ∀ r, r ≤ s.length → R[r]? = some (f r) := fun r hr => by
    have hr' : r < R.length := by omega
    rw [hfd]
    show _ = some (R.getD r 0)
    rw [List.getD_eq_getElem?_getD, List.getElem?_eq_getElem hr']; rfl
  have hfl : ∀ r, r ≤ s.length → f r ≤ s.length := fun r hr => (hRm _).1 (List.mem_iff_getElem?.2 ⟨r, hf r hr⟩)
  have hford : ∀ r q, r < q → q ≤ s.length → s.drop (f r) < s.drop (f q) := fun r q hrq hq => by
    have hp := hRo
    rw [List.pairwise_iff_getElem] at hp
    obtain ⟨a1, b1⟩ := List.getElem?_eq_some_iff.1 (hf r (by omega))
    obtain ⟨a2, b2⟩ := List.getElem?_eq_some_iff.1 (hf q hq)
    have := hp r q a1 a2 hrq
    rwa [b1, b2] at this
  have hfinj : ∀ r q, r ≤ s.length → q ≤ s.length → f r = f q → r = q := fun r q hr hq e => by
    rcases Nat.lt_trichotomy r q with k | k | k
    · have := hford r q k hq; rw [e] at this; exact absurd this (List.lt_irrefl _)
    · exact k
    · have := hford q r k hr; rw [e] at this; exact absurd this (List.lt_irrefl _)
  have hf0 : f 0 = s.length := by have := hf 0 (by omega); rw [hR0] at this; injection this with this; exact this.symm
  have hft : f t = 0 := by have := hf t htn; rw [ht0] at this; injection this with this; exact this.symm
  -- g: in which row an ending stands
  have hex : ∀ v, ∃ r, v ≤ s.length → r ≤ s.length ∧ f r = v := fun v => by
    by_cases hv : v ≤ s.length
    · obtain ⟨r, hr⟩ := List.mem_iff_getElem?.1 ((hRm v).2 hv)
      have hrl : r ≤ s.length := by have := (List.getElem?_eq_some_iff.1 hr).1; omega
      exact ⟨r, fun _ => ⟨hrl, by have := hf r hrl; rw [hr] at this; injection this with this; exact this.symm⟩⟩
    · exact ⟨0, fun k => absurd k hv⟩
  obtain ⟨g, hg⟩ := Classical.axiomOfChoice hex
  have hgf : ∀ r, r ≤ s.length → g (f r) = r := fun r hr => hfinj _ _ (hg _ (hfl r hr)).1 hr (hg _ (hfl r hr)).2
  have hRf : R = (List.range (s.length + 1)).map f := List.ext_getElem? (fun r => by
    by_cases hr : r ≤ s.length
    · rw [hf r hr, List.getElem?_map, List.getElem?_range (by omega)]; rfl
    · rw [List.getElem?_eq_none (by omega), List.getElem?_eq_none (by simp; omega)])
  have hz : ∀ r, r ≤ s.length → (f r = 0 ↔ r = t) := fun r hr => ⟨fun e => hfinj r t hr htn (by rw [e, hft]), fun e => by rw [e, hft]⟩
  have hL : outL s R = (List.range s.length).map (fun i => sy s (f (up t i) - 1)) := by rw [hRf]; exact outL_of htn hz
  have hLs : ∀ i, i < s.length → sy (outL s R) i = sy s (f (up t i) - 1) := fun i hi => getD_of (by rw [hL, List.getElem?_map, List.getElem?_range hi]; rfl)
  generalize outL s R = L at *
  -- the numbers that rise
  have hpos : ∀ i, i < s.length → 0 < f (up t i) := fun i hi => Nat.pos_of_ne_zero (fun e => up_ne t i ((hz _ (up_le hi)).1 e))
  have hlf : ∀ i, i < s.length → g (f (up t i) - 1) = lf L i := fun i hi => by
    refine lf_uniq (L := L) (f := fun i => g (f (up t i) - 1)) ?_ ?_ (by omega)
    · intro i j hi hj hls
      have hi : i < s.length := by omega
      have hj : j < s.length := by omega
      have p1 := hpos i hi
      have p2 := hpos j hj
      have l1 := hfl _ (up_le (t := t) hi)
      have l2 := hfl _ (up_le (t := t) hj)
      have hd : s.drop (f (up t i) - 1) < s.drop (f (up t j) - 1) := by
        rw [lt_step s _ _ (by omega) (by omega)]
        unfold Ls at hls
        rw [hLs i hi, hLs j hj] at hls
        rcases hls with k | ⟨k, hij⟩
        · exact .inl k
        · refine .inr ⟨k, ?_⟩
          rw [show f (up t i) - 1 + 1 = f (up t i) by omega, show f (up t j) - 1 + 1 = f (up t j) by omega]
          exact hford _ _ (up_mono hij) (up_le hj)
      have g1 := hg (f (up t i) - 1) (by omega)
      have g2 := hg (f (up t j) - 1) (by omega)
      show g (f (up t i) - 1) < g (f (up t j) - 1)
      rcases Nat.lt_trichotomy (g (f (up t i) - 1)) (g (f (up t j) - 1)) with k | k | k
      · exact k
      · rw [← g1.2, ← g2.2, k] at hd; exact absurd hd (List.lt_irrefl _)
      · have := hford _ _ k g1.1
        rw [g1.2, g2.2] at this
        exact absurd hd (List.lt_asymm this)
    · intro i hi
      have hi : i < s.length := by omega
      have p1 := hpos i hi
      have l1 := hfl _ (up_le (t := t) hi)
      have g1 := hg (f (up t i) - 1) (by omega)
      show 1 ≤ g (f (up t i) - 1) ∧ g (f (up t i) - 1) ≤ L.length
      refine ⟨?_, by omega⟩
      by_cases e : g (f (up t i) - 1) = 0
      · have := g1.2; rw [e, hf0] at this; omega
      · omega
  have hgt : ∀ v, v ≤ s.length → v ≠ 0 → g v ≠ t := fun v hv h0 e => by
    have := (hg v hv).2; rw [e, hft] at this; exact h0 this.symm
  have hstep : ∀ v, v < s.length → lf L (dn t (g (v + 1))) = g v := fun v hv => by
    have hne := hgt (v + 1) (by omega) (by omega)
    have g1 := hg (v + 1) (by omega)
    have := hlf (dn t (g (v + 1))) (dn_lt hne g1.1 htn)
    rw [up_dn hne, g1.2] at this
    exact this.symm
  have hwk : ∀ k, k ≤ s.length → wk L t k = g (s.length - k) := fun k => by
    induction k with
    | zero => intro _; rw [Nat.sub_zero, ← hf0, hgf 0 (by omega)]; rfl
    | succ k ih =>
      intro hk
      show lf L (dn t (wk L t k)) = _
      rw [ih (by omega), show s.length - k = s.length - (k + 1) + 1 by omega]
      exact hstep _ (by omega)
  refine ⟨hLl, htn, ⟨fun k hk => ?_, ?_⟩, ?_⟩
  · rw [hwk k (by omega)]; exact hgt _ (by omega) (by omega)
  · rw [hLl, hwk _ (Nat.le_refl _), Nat.sub_self, ← hft, hgf t htn]
  · refine List.ext_getElem (by rw [outW_len, hLl]) (fun i h1 h2 => ?_)
    have e1 : (outW L t)[i] = sy (outW L t) i := (getD_of (List.getElem?_eq_getElem h1)).symm
    have e2 : s[i] = sy s i := (getD_of (List.getElem?_eq_getElem h2)).symm
    rw [e1, e2, outW_sy _ _ _ (by omega), hwk _ (by omega), show s.length - (L.length - 1 - i) = i + 1 by omega]
    have hne := hgt (i + 1) (by omega) (by omega)
    have g1 := hg (i + 1) (by omega)
    rw [hLs _ (dn_lt hne g1.1 htn), up_dn hne, g1.2, Nat.add_sub_cancel]
end Lec.Sa
