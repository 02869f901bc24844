/- Rows that begin with a pattern, counted by the last column: plain. No program stands here. -/
import Derived.Test.YtjpcfpffbicpnaaPackBwt
import Derived.Test.YtjpcfpffbicpnaaPackWav
set_option linter.unusedVariables false
set_option linter.unusedSimpArgs false
namespace Lec.Fm
open Lec.Sa
theorem take_count {α : Type} {r : α → α → Prop} (P : α → Bool) : ∀ {l : List α}, l.Pairwise r → (∀ u v, u ∈ l → v ∈ l → r u v → P v = true → P u = true) → l.take (l.countP P) = l.filter P
  | [], _, _ => rfl
  | a :: l, hl, hP => by
    rw [List.pairwise_cons] at hl
    have ih := take_count P hl.2 (fun u v hu hv => hP u v (List.mem_cons_of_mem _ hu) (List.mem_cons_of_mem _ hv))
    cases ha : P a with
    | true => rw [List.countP_cons_of_pos ha, List.take_succ_cons, ih, List.filter_cons_of_pos ha]
    | false =>
      have hn : ∀ v ∈ l, ¬ P v = true := fun v hv h => by
        have := hP a v (List.mem_cons_self) (List.mem_cons_of_mem _ hv) (hl.1 v hv) h
        rw [ha] at this; cases this
      have h0 : l.countP P = 0 := List.countP_eq_zero.2 hn
      have hna : ¬ P a = true := by rw [ha]; simp
      rw [List.countP_cons_of_neg hna, h0, List.take_zero, List.filter_cons_of_neg hna, List.filter_eq_nil_iff.2 hn]
theorem nodup_inj {l : List Nat} (hn : l.Nodup) {i j v : Nat} (hi : l[i]? = some v) (hj : l[j]? = some v) : i = j := by
  obtain ⟨hil, hiv⟩ := List.getElem?_eq_some_iff.1 hi
  obtain ⟨hjl, hjv⟩ := List.getElem?_eq_some_iff.1 hj
  have hp := List.pairwise_iff_getElem.1 (List.nodup_iff_pairwise_ne.1 hn)
  rcases Nat.lt_trichotomy i j with e | e | e
  · exact absurd (hiv.trans hjv.symm) (hp i j hil hjl e)
  · exact e
  · exact absurd (hjv.trans hiv.symm) (hp j i hjl hil e)
theorem take_iff {l : List Nat} (hn : l.Nodup) {k : Nat} {P : Nat → Bool} (h : l.take k = l.filter P) {i v : Nat} (hi : l[i]? = some v) : i < k ↔ P v = true := by
  obtain ⟨hil, hv⟩ := List.getElem?_eq_some_iff.1 hi
  constructor
  · intro hk
    have : v ∈ l.take k := List.mem_iff_getElem?.2 ⟨i, by rw [List.getElem?_take, if_pos hk, hi]⟩
    rw [h, List.mem_filter] at this
    exact this.2
  · intro hp
    have : v ∈ l.take k := by rw [h, List.mem_filter]; exact ⟨List.mem_iff_getElem?.2 ⟨i, hi⟩, hp⟩
    obtain ⟨j, hj⟩ := List.mem_iff_getElem?.1 this
    rw [List.getElem?_take] at hj
    split at hj
    · rename_i hjk
      obtain ⟨hjl, hjv⟩ := List.getElem?_eq_some_iff.1 hj
      have : i = j := nodup_inj hn hi hj
      omega
    · cases hj
theorem rows_ord {s b : List Nat} (h : IsSA s b) : (rowsL s b).Pairwise (fun v w => s.drop v < s.drop w) := by
  unfold rowsL
  rw [List.pairwise_cons]
  refine ⟨fun v hv => ?_, h.ord⟩
  have hv := h.lt v hv
  rw [drop_end s s.length (Nat.le_refl _), drop_eq s v hv]
  exact List.nil_lt_cons _ _
theorem rows_perm {s b : List Nat} (h : IsSA s b) : (rowsL s b).Perm (List.range (s.length + 1)) :=
  (List.perm_ext_iff_of_nodup (rowsL_nodup h) List.nodup_range).2 (fun v => by rw [rowsL_mem h, List.mem_range]; omega)
theorem atK_at {R : List Nat} {j : Nat} (h : R[j]? = some 0) : ∀ k, j < k → R[atK R k]? = some 0
  | 0, hk => by omega
  | k + 1, hk => by
    rw [atK]
    by_cases e : R[k]? = some 0
    · rw [if_pos e]; exact e
    · rw [if_neg e]
      refine atK_at h k ?_
      by_cases e2 : j = k
      · subst e2; exact absurd h e
      · omega
abbrev R (s b : List Nat) : List Nat := rowsL s b
abbrev T (s b : List Nat) : Nat := atK (rowsL s b) (s.length + 1)
abbrev L (s b : List Nat) : List Nat := outL s (rowsL s b)
theorem T_at {s b : List Nat} (h : IsSA s b) : (R s b)[T s b]? = some 0 := by
  obtain ⟨j, hj⟩ := List.mem_iff_getElem?.1 ((rowsL_mem h 0).2 (Nat.zero_le _))
  exact atK_at hj _ (by have := (List.getElem?_eq_some_iff.1 hj).1; rw [rowsL_len h] at this; exact this)
theorem T_le {s b : List Nat} (h : IsSA s b) : T s b ≤ s.length := by
  have := (List.getElem?_eq_some_iff.1 (T_at h)).1; rw [rowsL_len h] at this; omega
/-- The row's place in the last column. -/
def ah (t r : Nat) : Nat := if t < r then r - 1 else r
theorem ah_len {s b : List Nat} (h : IsSA s b) {r : Nat} (hr : r ≤ s.length + 1) : (outL s ((R s b).take r)).length = ah (T s b) r := by
  unfold outL ah
  rw [List.length_map]
  have hn := (rowsL_nodup h).sublist (List.take_sublist r _)
  have hl : ((R s b).take r).length = r := by rw [List.length_take, rowsL_len h, Nat.min_eq_left hr]
  have hT := T_at h
  by_cases ht : T s b < r
  · have hm : 0 ∈ (R s b).take r := List.mem_iff_getElem?.2 ⟨T s b, by rw [List.getElem?_take, if_pos ht, hT]⟩
    rw [if_pos ht, ← hn.erase_eq_filter, List.length_erase_of_mem hm, hl]
  · have hm : ∀ v ∈ (R s b).take r, (v != 0) = true := fun v hv => by
      obtain ⟨j, hj⟩ := List.mem_iff_getElem?.1 hv
      rw [List.getElem?_take] at hj
      split at hj
      · rename_i hjr
        have hjl := (List.getElem?_eq_some_iff.1 hj).1
        rw [bne_iff_ne]
        intro e
        subst e
        have := nodup_inj (rowsL_nodup h) hj hT
        omega
      · cases hj
    rw [if_neg ht, List.filter_eq_self.2 hm, hl]
theorem out_take {s b : List Nat} (h : IsSA s b) {r : Nat} (hr : r ≤ s.length + 1) : (L s b).take (ah (T s b) r) = outL s ((R s b).take r) := by
  rw [← ah_len h hr]
  show List.take _ (outL s (rowsL s b)) = _
  unfold outL
  rw [List.length_map, ← List.map_take, Wv.take_filter]
theorem ah_le {t r n : Nat} (hr : r ≤ n + 1) (ht : t ≤ n) : ah t r ≤ n := by unfold ah; split <;> omega
theorem shift_cnt (f : Nat → Bool) (n : Nat) : (List.range (n + 1)).countP (fun v => (v != 0) && f (v - 1)) = (List.range n).countP f := by
  rw [List.range_succ_eq_map, List.countP_cons_of_neg (by simp), List.countP_map]
  congr 1
theorem eqs_cnt (s X : List Nat) (c : Nat) : Wv.eqs (outL s X) c = X.countP (fun v => (v != 0) && (sy s (v - 1) == c)) := by
  unfold Wv.eqs outL
  rw [← List.countP_eq_length_filter, List.countP_map, List.countP_filter]
  congr 1
  funext v
  simp [Bool.and_comm]
theorem less_cnt {s b : List Nat} (h : IsSA s b) (c : Nat) : Wv.less (L s b) c = (List.range s.length).countP (fun u => decide (sy s u < c)) := by
  unfold Wv.less
  rw [← shift_cnt, ← (rows_perm h).countP_eq]
  unfold L outL
  rw [← List.countP_eq_length_filter, List.countP_map, List.countP_filter]
  congr 1
  funext v
  simp [Bool.and_comm]
def F (s b : List Nat) (c r : Nat) : Nat := 1 + Wv.less (L s b) c + Wv.eqs ((L s b).take (ah (T s b) r)) c
def anti (s : List Nat) (P : Nat → Bool) : Prop := ∀ u v, s.drop u < s.drop v → P v = true → P u = true
theorem cnt_le {s b : List Nat} (h : IsSA s b) (P : Nat → Bool) : (R s b).countP P ≤ s.length + 1 := by rw [← rowsL_len h]; exact List.countP_le_length
def lift (s : List Nat) (c : Nat) (P : Nat → Bool) (u : Nat) : Bool := u == s.length || (decide (sy s u < c) || (sy s u == c && P (u + 1)))
theorem cnt_or (n : Nat) (p q : Nat → Bool) (h : ∀ u, ¬ (p u = true ∧ q u = true)) : ∀ l : List Nat, l.countP (fun u => p u || q u) = l.countP p + l.countP q
  | [] => rfl
  | a :: l => by
    have ih := cnt_or n p q h l
    have := h a
    cases hp : p a <;> cases hq : q a <;> simp_all [List.countP_cons] <;> omega
theorem F_step {s b : List Nat} (h : IsSA s b) (c : Nat) (P : Nat → Bool) (hP : anti s P) : F s b c ((R s b).countP P) = (R s b).countP (lift s c P) := by
  unfold F
  rw [out_take h (cnt_le h P), take_count P (rows_ord h) (fun u v _ _ hr hv => hP u v hr hv), eqs_cnt, List.countP_filter, less_cnt h]
  have e4 : (List.range (s.length + 1)).countP (fun v => (v != 0) && (sy s (v - 1) == c && P (v - 1 + 1))) = (List.range s.length).countP (fun u => sy s u == c && P (u + 1)) := shift_cnt (fun u => sy s u == c && P (u + 1)) s.length
  have e1 : (fun a => ((a != 0) && (sy s (a - 1) == c)) && P a) = fun v => (v != 0) && (sy s (v - 1) == c && P (v - 1 + 1)) := by
    funext v
    cases v with
    | zero => rfl
    | succ v => simp
  rw [e1, (rows_perm h).countP_eq, e4, (rows_perm h).countP_eq, List.range_succ, List.countP_append]
  have e2 : (List.range s.length).countP (lift s c P) = (List.range s.length).countP (fun u => decide (sy s u < c) || (sy s u == c && P (u + 1))) := by
    refine List.countP_congr (fun u hu => ?_)
    unfold lift
    have : (u == s.length) = false := by rw [beq_eq_false_iff_ne]; have := List.mem_range.1 hu; omega
    rw [this]; simp
  have e3 : [s.length].countP (lift s c P) = 1 := by simp [lift]
  rw [e2, e3, cnt_or 0 _ _ (fun u => by intro ⟨h1, h2⟩; simp at h1 h2; omega)]
  omega
def ltP (s q : List Nat) (v : Nat) : Bool := decide (s.drop v < q)
def inP (s q : List Nat) (v : Nat) : Bool := q.isPrefixOf (s.drop v)
def upP (s q : List Nat) (v : Nat) : Bool := ltP s q v || inP s q v
theorem pre_lt : ∀ {q x y : List Nat}, x < y → q <+: y → x < q ∨ q <+: x
  | [], x, y, _, _ => .inr List.nil_prefix
  | a :: q, [], y, _, _ => .inl (List.nil_lt_cons _ _)
  | a :: q, c :: x, [], h, _ => absurd h (List.not_lt_nil _)
  | a :: q, c :: x, d :: y, h, hp => by
    obtain ⟨rfl, hq⟩ := List.cons_prefix_cons.1 hp
    rcases List.cons_lt_cons_iff.1 h with h2 | ⟨rfl, h2⟩
    · exact .inl (List.cons_lt_cons_iff.2 (.inl h2))
    · rcases pre_lt h2 hq with k | k
      · exact .inl (List.cons_lt_cons_iff.2 (.inr ⟨rfl, k⟩))
      · exact .inr (List.cons_prefix_cons.2 ⟨rfl, k⟩)
theorem not_both : ∀ {q x : List Nat}, x < q → q <+: x → False
  | [], x, h, _ => List.not_lt_nil _ h
  | a :: q, [], _, hp => by simp at hp
  | a :: q, c :: x, h, hp => by
    obtain ⟨rfl, hq⟩ := List.cons_prefix_cons.1 hp
    rcases List.cons_lt_cons_iff.1 h with h | ⟨_, h⟩
    · omega
    · exact not_both h hq
theorem ltP_anti (s q : List Nat) : anti s (ltP s q) := fun u v h hv => by
  unfold ltP at *
  rw [decide_eq_true_iff] at *
  exact List.lt_trans h hv
theorem upP_anti (s q : List Nat) : anti s (upP s q) := fun u v h hv => by
  unfold upP ltP inP at *
  rw [Bool.or_eq_true, decide_eq_true_iff, List.isPrefixOf_iff_prefix] at *
  rcases hv with hv | hv
  · exact .inl (List.lt_trans h hv)
  · exact pre_lt h hv
def lowB (s b q : List Nat) : Nat := (R s b).countP (ltP s q)
def uppB (s b q : List Nat) : Nat := (R s b).countP (upP s q)
theorem lift_lt {s : List Nat} {c u : Nat} (q : List Nat) (hu : u ≤ s.length) : lift s c (ltP s q) u = ltP s (c :: q) u := by
  unfold lift ltP
  by_cases e : u = s.length
  · subst e; rw [drop_end s _ (Nat.le_refl _)]; simp
  · have hl : u < s.length := by omega
    rw [beq_eq_false_iff_ne.2 e, drop_eq s u hl, Bool.eq_iff_iff]
    simp [List.cons_lt_cons_iff]
theorem lift_up {s : List Nat} {c u : Nat} (q : List Nat) (hu : u ≤ s.length) : lift s c (upP s q) u = upP s (c :: q) u := by
  unfold lift upP ltP inP
  by_cases e : u = s.length
  · subst e; rw [drop_end s _ (Nat.le_refl _)]; simp
  · have hl : u < s.length := by omega
    rw [beq_eq_false_iff_ne.2 e, drop_eq s u hl, Bool.eq_iff_iff]
    simp only [Bool.false_or, Bool.or_eq_true, Bool.and_eq_true, decide_eq_true_iff, beq_iff_eq, List.cons_lt_cons_iff, List.isPrefixOf_iff_prefix, List.cons_prefix_cons]
    constructor
    · rintro (h | ⟨rfl, h | h⟩)
      · exact .inl (.inl h)
      · exact .inl (.inr ⟨rfl, h⟩)
      · exact .inr ⟨rfl, h⟩
    · rintro ((h | ⟨h1, h⟩) | ⟨h1, h⟩)
      · exact .inl h
      · exact .inr ⟨h1, .inl h⟩
      · exact .inr ⟨h1.symm, .inr h⟩
theorem low_step {s b : List Nat} (h : IsSA s b) (c : Nat) (q : List Nat) : F s b c (lowB s b q) = lowB s b (c :: q) := by
  unfold lowB
  rw [F_step h c _ (ltP_anti s q)]
  exact List.countP_congr (fun u hu => by rw [lift_lt q ((rowsL_mem h u).1 hu)])
theorem upp_step {s b : List Nat} (h : IsSA s b) (c : Nat) (q : List Nat) : F s b c (uppB s b q) = uppB s b (c :: q) := by
  unfold uppB
  rw [F_step h c _ (upP_anti s q)]
  exact List.countP_congr (fun u hu => by rw [lift_up q ((rowsL_mem h u).1 hu)])
theorem low_nil (s b : List Nat) : lowB s b [] = 0 := List.countP_eq_zero.2 (fun u _ => by unfold ltP; simp [List.not_lt_nil])
theorem upp_nil {s b : List Nat} (h : IsSA s b) : uppB s b [] = s.length + 1 := by
  unfold uppB
  rw [List.countP_eq_length.2 (fun u _ => by unfold upP inP; simp), rowsL_len h]
theorem low_le {s b : List Nat} (h : IsSA s b) (q : List Nat) : lowB s b q ≤ s.length + 1 := cnt_le h _
theorem upp_le {s b : List Nat} (h : IsSA s b) (q : List Nat) : uppB s b q ≤ s.length + 1 := cnt_le h _
def inB (s b q : List Nat) : Nat := (R s b).countP (inP s q)
theorem upp_eq (s b q : List Nat) : uppB s b q = lowB s b q + inB s b q := by
  unfold uppB lowB inB
  exact cnt_or 0 _ _ (fun u => by
    unfold ltP inP
    rw [decide_eq_true_iff, List.isPrefixOf_iff_prefix]
    exact fun ⟨h1, h2⟩ => not_both h1 h2) _
theorem in_iff {s b q : List Nat} (h : IsSA s b) {i v : Nat} (hi : (R s b)[i]? = some v) : (lowB s b q ≤ i ∧ i < uppB s b q) ↔ inP s q v = true := by
  have h1 := take_iff (rowsL_nodup h) (take_count (ltP s q) (rows_ord h) (fun u v _ _ hr hv => ltP_anti s q u v hr hv)) hi
  have h2 := take_iff (rowsL_nodup h) (take_count (upP s q) (rows_ord h) (fun u v _ _ hr hv => upP_anti s q u v hr hv)) hi
  unfold lowB uppB
  constructor
  · rintro ⟨ha, hb⟩
    have hu := h2.1 hb
    unfold upP at hu
    rw [Bool.or_eq_true] at hu
    rcases hu with hu | hu
    · exact absurd (h1.2 hu) (Nat.not_lt.2 ha)
    · exact hu
  · intro hin
    refine ⟨?_, h2.2 (by unfold upP; rw [hin]; simp)⟩
    by_cases hlt : i < (R s b).countP (ltP s q)
    · have hu := h1.1 hlt
      unfold ltP at hu
      unfold inP at hin
      rw [decide_eq_true_iff] at hu
      rw [List.isPrefixOf_iff_prefix] at hin
      exact absurd (not_both hu hin) (by simp)
    · exact Nat.le_of_not_lt hlt
theorem in_nil {s b : List Nat} (h : IsSA s b) : inB s b [] = s.length + 1 := by
  have h1 := upp_eq s b []
  rw [upp_nil h, low_nil] at h1
  omega
theorem in_zero {s b q : List Nat} (h : IsSA s b) (hq : inB s b q = 0) (p : List Nat) : inB s b (p ++ q) = 0 := by
  by_cases e : inB s b (p ++ q) = 0
  · exact e
  · exfalso
    have hne : 0 < q.length := by
      cases q with
      | nil => rw [in_nil h] at hq; omega
      | cons => simp
    unfold inB at e hq
    obtain ⟨v, hv, hp⟩ := List.countP_pos_iff.1 (Nat.pos_of_ne_zero e)
    unfold inP at hp
    rw [List.isPrefixOf_iff_prefix] at hp
    have hl := hp.length_le
    rw [List.length_append, List.length_drop] at hl
    have hm : v + p.length ∈ R s b := (rowsL_mem h _).2 (by omega)
    refine List.countP_eq_zero.1 hq _ hm ?_
    unfold inP
    rw [List.isPrefixOf_iff_prefix]
    obtain ⟨t, ht⟩ := hp
    exact ⟨t, by rw [← List.drop_drop, ← ht, List.append_assoc, List.drop_left]⟩
/-- A row's place among the rows. -/
theorem low_row {s b : List Nat} (h : IsSA s b) {r v : Nat} (hr : (R s b)[r]? = some v) : lowB s b (s.drop v) = r := by
  have key : ∀ {l : List Nat}, l.Pairwise (fun v w => s.drop v < s.drop w) → ∀ r, l[r]? = some v → l.countP (ltP s (s.drop v)) = r := by
    intro l hl
    induction l with
    | nil => intro r hr; simp at hr
    | cons a l ih =>
      intro r hr
      rw [List.pairwise_cons] at hl
      cases r with
      | zero =>
        simp at hr
        subst hr
        refine List.countP_eq_zero.2 (fun u hu => ?_)
        unfold ltP
        rw [decide_eq_true_iff]
        rcases List.mem_cons.1 hu with rfl | hu
        · exact List.lt_irrefl _
        · exact fun h => List.lt_irrefl _ (List.lt_trans h (hl.1 u hu))
      | succ r =>
        simp at hr
        have ha : ltP s (s.drop v) a = true := by
          unfold ltP
          rw [decide_eq_true_iff]
          exact hl.1 v (List.mem_iff_getElem?.2 ⟨r, hr⟩)
        rw [List.countP_cons_of_pos ha, ih hl.2 r hr]
  exact key (rows_ord h) r hr
theorem row_of {s b : List Nat} (h : IsSA s b) {v : Nat} (hv : v ≤ s.length) : (R s b)[lowB s b (s.drop v)]? = some v := by
  obtain ⟨r, hr⟩ := List.mem_iff_getElem?.1 ((rowsL_mem h v).2 hv)
  rw [low_row h hr]
  exact hr
/-- The row of the place ahead. -/
theorem F_row {s b : List Nat} (h : IsSA s b) {r v : Nat} (hr : (R s b)[r]? = some (v + 1)) : (R s b)[F s b (sy s v) r]? = some v := by
  have hv : v + 1 ≤ s.length := (rowsL_mem h _).1 (List.mem_iff_getElem?.2 ⟨r, hr⟩)
  have h1 := low_row h hr
  have h2 := low_step h (sy s v) (s.drop (v + 1))
  rw [h1, ← drop_eq s v hv] at h2
  rw [h2]
  exact row_of h (by omega)
/-- The symbol ahead of a row's ending. -/
theorem L_row {s b : List Nat} (h : IsSA s b) {r v : Nat} (hr : (R s b)[r]? = some (v + 1)) : (L s b)[ah (T s b) r]? = some (sy s v) := by
  have hrl : r < s.length + 1 := by have := (List.getElem?_eq_some_iff.1 hr).1; rwa [rowsL_len h] at this
  have h1 := out_take h (r := r + 1) (by omega)
  have h2 : outL s ((R s b).take (r + 1)) = outL s ((R s b).take r) ++ [sy s v] := outL_snoc hr (by omega)
  have hl := ah_len h (r := r) (by omega)
  have hl2 := ah_len h (r := r + 1) (by omega)
  rw [h2, List.length_append, hl] at hl2
  have h3 : ((L s b).take (ah (T s b) (r + 1)))[ah (T s b) r]? = some (sy s v) := by
    rw [h1, h2, List.getElem?_append_right (by omega), hl, Nat.sub_self]
    rfl
  rw [List.getElem?_take] at h3
  split at h3
  · exact h3
  · cases h3
theorem row_T {s b : List Nat} (h : IsSA s b) {r : Nat} (hr : (R s b)[r]? = some 0) : r = T s b := nodup_inj (rowsL_nodup h) hr (T_at h)
theorem F_le {s b : List Nat} (h : IsSA s b) {c r : Nat} (q : List Nat) (hr : r = lowB s b q ∨ r = uppB s b q) : F s b c r ≤ s.length + 1 := by
  rcases hr with rfl | rfl
  · rw [low_step h]; exact low_le h _
  · rw [upp_step h]; exact upp_le h _
def spanS (s b p : List Nat) : Nat × Nat := if lowB s b p < uppB s b p then (lowB s b p, uppB s b p) else (0, 0)
theorem span_zero {s b q : List Nat} (h : IsSA s b) (hq : ¬ lowB s b q < uppB s b q) (p : List Nat) : spanS s b (p ++ q) = (0, 0) := by
  have h1 := upp_eq s b q
  have h2 := in_zero h (q := q) (by omega) p
  have h3 := upp_eq s b (p ++ q)
  unfold spanS
  rw [if_neg (by omega)]
/-- All places of a pattern, rising. -/
def findS (s p : List Nat) : List Nat := (List.range s.length).filter (inP s p)
theorem find_perm {s b p : List Nat} (h : IsSA s b) (hp : p ≠ []) : (((R s b).take (spanS s b p).2).drop (spanS s b p).1).Perm (findS s p) := by
  refine (List.perm_ext_iff_of_nodup (((rowsL_nodup h).sublist (List.take_sublist _ _)).sublist (List.drop_sublist _ _)) (List.nodup_range.filter _)).2 (fun v => ?_)
  rw [List.mem_filter, List.mem_range]
  constructor
  · intro hv
    obtain ⟨i, hi⟩ := List.mem_iff_getElem?.1 hv
    rw [List.getElem?_drop, List.getElem?_take] at hi
    split at hi
    · rename_i hlt
      unfold spanS at hlt hi
      split at hlt
      · rename_i hlu
        rw [if_pos hlu] at hi
        have hin := (in_iff h hi).1 ⟨by simp, hlt⟩
        refine ⟨?_, hin⟩
        have hvl := (rowsL_mem h v).1 (List.mem_iff_getElem?.2 ⟨_, hi⟩)
        unfold inP at hin
        rw [List.isPrefixOf_iff_prefix] at hin
        have := hin.length_le
        rw [List.length_drop] at this
        have : 0 < p.length := List.length_pos_iff.2 hp
        omega
      · simp at hlt
    · cases hi
  · rintro ⟨hv, hin⟩
    obtain ⟨i, hi⟩ := List.mem_iff_getElem?.1 ((rowsL_mem h v).2 (Nat.le_of_lt hv))
    obtain ⟨ha, hb⟩ := (in_iff h hi).2 hin
    refine List.mem_iff_getElem?.2 ⟨i - lowB s b p, ?_⟩
    unfold spanS
    rw [if_pos (by omega), List.getElem?_drop, List.getElem?_take, if_pos (by dsimp only; omega)]
    dsimp only
    rw [show lowB s b p + (i - lowB s b p) = i by omega]
    exact hi
theorem find_sort {s b p : List Nat} (h : IsSA s b) (hp : p ≠ []) (X : List Nat) (hX : X.Perm (((R s b).take (spanS s b p).2).drop (spanS s b p).1)) (hs : X.Pairwise (· ≤ ·)) : X = findS s p := by
  refine List.Perm.eq_of_pairwise (le := (· ≤ ·)) (fun a b _ _ h1 h2 => by omega) hs ?_ (hX.trans (find_perm h hp))
  unfold findS
  exact (List.pairwise_lt_range.imp (fun h => Nat.le_of_lt h)).filter _
end Lec.Fm
