/- Pieces' names and the shorter list: plain. No program stands here. -/
import Derived.Test.YtkjajdhempceaaaSaE
set_option linter.unusedVariables false
set_option linter.unusedSimpArgs false
namespace Lec.Sa
open Classical

/-- Are two pieces the same? -/
noncomputable def sameB (s : List Nat) (v w : Nat) : Bool := decide (Eq' s v w)
theorem sameB_iff (s : List Nat) (v w : Nat) : sameB s v w = true ↔ Eq' s v w := by unfold sameB; exact decide_eq_true_iff

/-- The name of the i-th of a row of places. -/
noncomputable def nm (s o : List Nat) : Nat → Nat
  | 0 => 0
  | i + 1 => nm s o i + (if sameB s (o.getD i 0) (o.getD (i + 1) 0) then 0 else 1)

theorem nm_le (s o : List Nat) : ∀ i, nm s o i ≤ i
  | 0 => Nat.le_refl _
  | i + 1 => by have := nm_le s o i; unfold nm; split <;> omega
theorem nm_mono (s o : List Nat) {i j : Nat} (h : i ≤ j) : nm s o i ≤ nm s o j := by
  induction j with
  | zero => obtain rfl : i = 0 := by omega
            exact Nat.le_refl _
  | succ j ih =>
    by_cases e : i = j + 1
    · subst e; exact Nat.le_refl _
    · have := ih (by omega)
      have h2 : nm s o j ≤ nm s o (j + 1) := by rw [nm]; omega
      omega

/-- The places in the order that inducing makes. -/
structure Ord (s o : List Nat) : Prop where
  nod : o.Nodup
  mem : ∀ v, v ∈ o ↔ Lms s v
  ord : ∀ i j v w : Nat, i < j → o[i]? = some v → o[j]? = some w → ¬ Eq' s v w → s.drop v < s.drop w

theorem Ord.len {s o : List Nat} (h : Ord s o) : o.length = (lmsL s).length :=
  Nat.le_antisymm (nodup_len h.nod (fun x hx => (lmsL_mem s x).2 ((h.mem x).1 hx))) (nodup_len (lmsL_nodup s) (fun x hx => (h.mem x).2 ((lmsL_mem s x).1 hx)))

theorem getD_of {o : List Nat} {i v : Nat} (h : o[i]? = some v) : o.getD i 0 = v := by rw [List.getD_eq_getElem?_getD, h]; rfl

/-- One name: one piece. -/
theorem Ord.name {s o : List Nat} (h : Ord s o) : ∀ {i j v w : Nat}, i < j → o[i]? = some v → o[j]? = some w → (nm s o i = nm s o j ↔ Eq' s v w) := by
  intro i j
  induction j with
  | zero => intro v w hij; omega
  | succ j ih =>
    intro v w hij hv hw
    have hjl := (List.getElem?_eq_some_iff.1 hw).1
    obtain ⟨u, hu⟩ : ∃ u, o[j]? = some u := ⟨o[j], List.getElem?_eq_getElem (by omega)⟩
    have hL : ∀ {k x}, o[k]? = some x → x < s.length := fun {k x} hx => ((h.mem x).1 (List.mem_iff_getElem?.2 ⟨k, hx⟩)).2.1
    have hs : nm s o (j + 1) = nm s o j + (if sameB s u w then 0 else 1) := by rw [nm, getD_of hu, getD_of hw]
    by_cases e : i = j
    · subst e
      obtain rfl : v = u := by rw [hv] at hu; injection hu
      rw [hs, ← sameB_iff]
      by_cases k : sameB s v w = true
      · simp [k]
      · simp [k]
    · have hij' : i < j := by omega
      have ih' := ih hij' hv hu
      have hmo := nm_mono s o (show i ≤ j by omega)
      constructor
      · intro heq
        rw [hs] at heq
        by_cases k : sameB s u w = true
        · rw [if_pos k] at heq
          exact (ih'.1 (by omega)).trans ((sameB_iff s u w).1 k)
        · rw [if_neg k] at heq; omega
      · intro hE
        have huw : Eq' s v u := by
          refine Classical.byContradiction fun hno => ?_
          have a1 := h.ord i j v u hij' hv hu hno
          have a2 := h.ord j (j + 1) u w (by omega) hu hw (fun k => hno (hE.trans k.symm))
          exact hno (hE.mid (hL hv) (hL hw) (hL hu) a1 a2)
        have : sameB s u w = true := (sameB_iff s u w).2 (huw.symm.trans hE)
        rw [hs, if_pos this, ih'.2 huw]; rfl

/-- A list of names. -/
structure Named (s l : List Nat) : Prop where
  len : l.length = (lmsL s).length
  one : ∀ p q v w x y : Nat, p ≠ q → (lmsL s)[p]? = some v → (lmsL s)[q]? = some w → l[p]? = some x → l[q]? = some y → x = y → Eq' s v w
  lt : ∀ p q v w x y : Nat, (lmsL s)[p]? = some v → (lmsL s)[q]? = some w → l[p]? = some x → l[q]? = some y → x < y → s.drop v < s.drop w

theorem Ord.named {s o l : List Nat} (h : Ord s o) (hl : l.length = (lmsL s).length) (hn : ∀ i v : Nat, o[i]? = some v → l[idx s v]? = some (nm s o i)) : Named s l := by
  have find : ∀ {p v}, (lmsL s)[p]? = some v → ∃ i, o[i]? = some v ∧ idx s v = p := fun {p v} hp => by
    have hv := (h.mem v).2 ((lmsL_mem s v).1 (List.mem_iff_getElem?.2 ⟨p, hp⟩))
    obtain ⟨i, hi⟩ := List.mem_iff_getElem?.1 hv
    exact ⟨i, hi, idx_get hp⟩
  refine ⟨hl, fun p q v w x y hpq hv hw hx hy hxy => ?_, fun p q v w x y hv hw hx hy hxy => ?_⟩
  · obtain ⟨i, hi, e1⟩ := find hv
    obtain ⟨j, hj, e2⟩ := find hw
    have n1 := hn i v hi
    have n2 := hn j w hj
    rw [e1, hx] at n1
    rw [e2, hy] at n2
    injection n1 with n1; injection n2 with n2
    rcases Nat.lt_trichotomy i j with k | k | k
    · exact (h.name k hi hj).1 (by omega)
    · subst k
      rw [hi] at hj; injection hj with hj
      subst hj; omega
    · exact ((h.name k hj hi).1 (by omega)).symm
  · obtain ⟨i, hi, e1⟩ := find hv
    obtain ⟨j, hj, e2⟩ := find hw
    have n1 := hn i v hi
    have n2 := hn j w hj
    rw [e1, hx] at n1
    rw [e2, hy] at n2
    injection n1 with n1; injection n2 with n2
    have hij : i < j := by
      by_cases k : i < j
      · exact k
      · have := nm_mono s o (show j ≤ i by omega); omega
    exact h.ord i j v w hij hi hj (fun hE => by have := (h.name hij hi hj).2 hE; omega)

/-- The order of the names' endings is that of the endings. -/
theorem Named.up {s l : List Nat} (h : Named s l) : ∀ (m p q v w : Nat), l.length - p ≤ m → (lmsL s)[p]? = some v → (lmsL s)[q]? = some w → l.drop p < l.drop q → s.drop v < s.drop w
  | 0, p, q, v, w, hm, hv, hw, hlt => by have := (List.getElem?_eq_some_iff.1 hv).1; have := h.len; omega
  | m + 1, p, q, v, w, hm, hv, hw, hlt => by
    have hp : p < l.length := by rw [h.len]; exact (List.getElem?_eq_some_iff.1 hv).1
    have hq : q < l.length := by rw [h.len]; exact (List.getElem?_eq_some_iff.1 hw).1
    have hpq : p ≠ q := fun e => by subst e; exact List.lt_irrefl _ hlt
    have gl : ∀ i, i < l.length → l[i]? = some (sy l i) := fun i hi => by rw [List.getElem?_eq_getElem hi]; simp [sy, List.getD_eq_getElem?_getD, hi]
    rcases (lt_step l p q hp hq).1 hlt with k | ⟨k, k2⟩
    · exact h.lt p q v w _ _ hv hw (gl p hp) (gl q hq) k
    · have hE := h.one p q v w _ _ hpq hv hw (gl p hp) (gl q hq) k
      have lv := (lmsL_mem s v).1 (List.mem_iff_getElem?.2 ⟨p, hv⟩)
      have lw := (lmsL_mem s w).1 (List.mem_iff_getElem?.2 ⟨q, hw⟩)
      obtain ⟨t, t1, t2, t3, t4, t5, t6⟩ := hE.walk lv.2.1 lw.2.1
      exact t6 (Named.up h m (p + 1) (q + 1) _ _ (by omega) (next_lms hv t1 t2 (fun i a b => (t4 i a b).1)) (next_lms hw t1 t3 (fun i a b => (t4 i a b).2)) k2)

/-- The places by the order of the names' endings. -/
def back (s a : List Nat) : List Nat := a.map (fun j => (lmsL s).getD j 0)

theorem Named.back {s l a : List Nat} (h : Named s l) (ha : IsSA l a) : (Sa.back s a).Nodup ∧ (∀ v, v ∈ Sa.back s a ↔ Lms s v) ∧ (Sa.back s a).Pairwise (fun v w => s.drop v < s.drop w) := by
  have hg : ∀ j, j < l.length → (lmsL s)[j]? = some ((lmsL s).getD j 0) := fun j hj => by
    rw [h.len] at hj
    rw [List.getElem?_eq_getElem hj]; simp [List.getD_eq_getElem?_getD, hj]
  have hP : (Sa.back s a).Pairwise (fun v w => s.drop v < s.drop w) := by
    unfold Sa.back
    rw [List.pairwise_map]
    have := ha.ord
    rw [List.pairwise_iff_getElem] at this ⊢
    intro i j hi hj hij
    exact h.up _ _ _ _ _ (Nat.le_refl _) (hg _ (ha.lt _ (List.getElem_mem hi))) (hg _ (ha.lt _ (List.getElem_mem hj))) (this i j hi hj hij)
  refine ⟨?_, fun v => ?_, hP⟩
  · rw [List.nodup_iff_pairwise_ne]
    refine hP.imp ?_
    intro x y hxy e
    subst e
    exact List.lt_irrefl _ hxy
  · unfold Sa.back
    rw [List.mem_map]
    constructor
    · rintro ⟨j, hj, rfl⟩
      exact (lmsL_mem s _).1 (List.mem_iff_getElem?.2 ⟨j, hg j (ha.lt j hj)⟩)
    · intro hv
      refine ⟨idx s v, (ha.mem _).2 (by rw [h.len]; exact idx_lt hv), getD_of (idx_at hv)⟩

/-- If all names differ, each name is its place's. -/
theorem Ord.diff {s o : List Nat} (m : Nat) (hm : o.length = m + 1) (hk : nm s o m = m) : ∀ i, i ≤ m → nm s o i = i := by
  intro i hi
  have key : ∀ j, nm s o m ≤ nm s o (m - j) + j := by
    intro j
    induction j with
    | zero => simp
    | succ j ih =>
      by_cases e : j < m
      · have : nm s o (m - j) ≤ nm s o (m - (j + 1)) + 1 := by
          rw [show m - j = (m - (j + 1)) + 1 by omega, nm]
          split <;> omega
        omega
      · have h1 : m - (j + 1) = 0 := by omega
        have h2 : m - j = 0 := by omega
        rw [h1]; rw [h2] at ih; omega
  have h1 := key (m - i)
  rw [show m - (m - i) = i by omega] at h1
  have := nm_le s o i
  omega

/-- Then where each name stands are the sorted endings. -/
theorem Ord.simple {s o l a : List Nat} (h : Ord s o) (hl : l.length = (lmsL s).length) (hn : ∀ i v : Nat, o[i]? = some v → l[idx s v]? = some i) (ha : a.length = l.length) (hi : ∀ i v : Nat, o[i]? = some v → a[i]? = some (idx s v)) : IsSA l a := by
  have hol := h.len
  have find : ∀ i, i < a.length → ∃ v, o[i]? = some v ∧ a[i]? = some (idx s v) ∧ Lms s v := fun i hi2 => by
    have : i < o.length := by omega
    refine ⟨o[i], List.getElem?_eq_getElem this, hi i _ (List.getElem?_eq_getElem this), (h.mem _).1 (List.getElem_mem this)⟩
  refine ⟨ha, fun v hv => ?_, ?_⟩
  · obtain ⟨i, hi2⟩ := List.mem_iff_getElem?.1 hv
    obtain ⟨u, u1, u2, u3⟩ := find i (List.getElem?_eq_some_iff.1 hi2).1
    rw [hi2] at u2; injection u2 with u2
    rw [u2, hl]; exact idx_lt u3
  · rw [List.pairwise_iff_getElem]
    intro i j hi2 hj2 hij
    obtain ⟨u, u1, u2, u3⟩ := find i hi2
    obtain ⟨w, w1, w2, w3⟩ := find j hj2
    have e1 : a[i] = idx s u := by rw [List.getElem?_eq_getElem hi2] at u2; injection u2
    have e2 : a[j] = idx s w := by rw [List.getElem?_eq_getElem hj2] at w2; injection w2
    have n1 := hn i u u1
    have n2 := hn j w w1
    rw [e1, e2, lt_step l _ _ (by rw [hl]; exact idx_lt u3) (by rw [hl]; exact idx_lt w3)]
    left
    unfold sy
    rw [getD_of n1, getD_of n2]; exact hij
end Lec.Sa
