/- From a last column back to the list: plain. No program stands here. -/
import Derived.Test.YtkjajdhempceaaaBwtL
set_option linter.unusedVariables false
set_option linter.unusedSimpArgs false
namespace Lec.Sa
theorem cnt_rise {n m : Nat} (p : Nat → Bool) (h : n ≤ m) : cnt n p ≤ cnt m p := by
  induction m with
  | zero => obtain rfl : n = 0 := by omega
            exact Nat.le_refl _
  | succ m ih =>
    by_cases e : n = m + 1
    · subst e; exact Nat.le_refl _
    · rw [cnt_succ]; have := ih (by omega); omega
theorem lo_next (s : List Nat) (c : Nat) : lo s (c + 1) = lo s c + cnt s.length (fun i => sy s i == c) := by
  unfold lo
  refine cnt_add _ _ _ _ (fun i _ => ?_)
  rcases Nat.lt_trichotomy (sy s i) c with h | h | h
  · simp [h, show sy s i < c + 1 by omega, show (sy s i == c) = false by simp; omega]
  · simp [h]
  · simp [show ¬ sy s i < c + 1 by omega, show ¬ sy s i < c by omega, show (sy s i == c) = false by simp; omega]

/-- Where the row goes to whose last symbol stands at i. -/
def lf (L : List Nat) (i : Nat) : Nat := lo L (sy L i) + cnt i (fun k => sy L k == sy L i) + 1
theorem lf_le {L : List Nat} {i : Nat} (hi : i < L.length) : lf L i ≤ lo L (sy L i + 1) := by
  have h := cnt_rise (fun k => sy L k == sy L i) (show i + 1 ≤ L.length by omega)
  rw [cnt_succ] at h
  rw [lo_next]
  unfold lf
  simp at h
  omega
theorem lf_pos (L : List Nat) (i : Nat) : 1 ≤ lf L i := by unfold lf; omega
theorem lf_top {L : List Nat} {i : Nat} (hi : i < L.length) : lf L i ≤ L.length := Nat.le_trans (lf_le hi) (lo_le _ _)
def Ls (L : List Nat) (i j : Nat) : Prop := sy L i < sy L j ∨ (sy L i = sy L j ∧ i < j)
theorem lf_lt {L : List Nat} {i j : Nat} (hi : i < L.length) (h : Ls L i j) : lf L i < lf L j := by
  rcases h with h | ⟨h, hij⟩
  · have h1 := lf_le hi
    have h2 := lo_mono L (show sy L i + 1 ≤ sy L j by omega)
    have h3 : lo L (sy L j) < lf L j := by unfold lf; omega
    omega
  · have h1 := cnt_rise (fun k => sy L k == sy L i) (show i + 1 ≤ j by omega)
    rw [cnt_succ] at h1
    unfold lf
    rw [← h]
    simp at h1
    omega
theorem Ls.total {L : List Nat} {i j : Nat} (h : i ≠ j) : Ls L i j ∨ Ls L j i := by
  unfold Ls; omega
theorem lf_lt_iff {L : List Nat} {i j : Nat} (hi : i < L.length) (hj : j < L.length) : lf L i < lf L j ↔ Ls L i j := by
  refine ⟨fun h => ?_, lf_lt hi⟩
  by_cases e : i = j
  · subst e; omega
  · rcases Ls.total (L := L) e with k | k
    · exact k
    · have := lf_lt hj k; omega

/-- A row, without the one that has the end. -/
def dn (t r : Nat) : Nat := if t < r then r - 1 else r
theorem dn_lt {t r n : Nat} (h : r ≠ t) (hr : r ≤ n) (ht : t ≤ n) : dn t r < n := by unfold dn; split <;> omega
theorem dn_mono {t r q : Nat} (h : r ≠ t) (h' : q ≠ t) : dn t r < dn t q ↔ r < q := by unfold dn; split <;> split <;> omega
/-- The walk. -/
def wk (L : List Nat) (t : Nat) : Nat → Nat
  | 0 => 0
  | k + 1 => lf L (dn t (wk L t k))
def OkW (L : List Nat) (t : Nat) : Prop := (∀ k, k < L.length → wk L t k ≠ t) ∧ wk L t L.length = t
def outW (L : List Nat) (t : Nat) : List Nat := (List.range L.length).map (fun i => sy L (dn t (wk L t (L.length - 1 - i))))
theorem outW_len (L : List Nat) (t : Nat) : (outW L t).length = L.length := by simp [outW]
theorem outW_sy (L : List Nat) (t i : Nat) (hi : i < L.length) : sy (outW L t) i = sy L (dn t (wk L t (L.length - 1 - i))) := by
  refine getD_of ?_
  unfold outW
  rw [List.getElem?_map, List.getElem?_range hi]; rfl
theorem wk_le {L : List Nat} {t : Nat} (ht : t ≤ L.length) (h : ∀ k, k < L.length → wk L t k ≠ t) : ∀ k, k ≤ L.length → wk L t k ≤ L.length
  | 0, _ => Nat.zero_le _
  | k + 1, hk => lf_top (dn_lt (h k (by omega)) (wk_le ht h k (by omega)) ht)

/-- Rows stand as the endings that they tell. -/
theorem wk_lt {L : List Nat} {t : Nat} (ht : t ≤ L.length) (h : OkW L t) : ∀ p q, p ≤ L.length → q ≤ L.length → (wk L t p < wk L t q ↔ (outW L t).drop (L.length - p) < (outW L t).drop (L.length - q))
  | 0, q, hp, hq => by
    have h0 : (outW L t).drop (L.length - 0) = [] := drop_end _ _ (by rw [outW_len]; omega)
    rw [h0]
    cases q with
    | zero => rw [h0]; simp [wk]
    | succ q =>
      have h1 : (outW L t).drop (L.length - (q + 1)) ≠ [] := by
        intro e
        have := congrArg List.length e
        rw [List.length_drop, outW_len] at this
        simp at this; omega
      constructor
      · intro _
        cases hd : (outW L t).drop (L.length - (q + 1)) with
        | nil => exact absurd hd h1
        | cons a as' => exact List.nil_lt_cons _ _
      · intro _
        exact lf_pos _ _
  | p + 1, 0, hp, hq => by
    have h0 : (outW L t).drop (L.length - 0) = [] := drop_end _ _ (by rw [outW_len]; omega)
    rw [h0]
    constructor
    · intro k; simp [wk] at k
    · intro k; exact absurd k (lt_nil _)
  | p + 1, q + 1, hp, hq => by
    have hwp := h.1 p (by omega)
    have hwq := h.1 q (by omega)
    have hlp := wk_le ht h.1 p (by omega)
    have hlq := wk_le ht h.1 q (by omega)
    rw [lt_step _ _ _ (by rw [outW_len]; omega) (by rw [outW_len]; omega), outW_sy _ _ _ (by omega), outW_sy _ _ _ (by omega)]
    rw [show L.length - 1 - (L.length - (p + 1)) = p by omega, show L.length - 1 - (L.length - (q + 1)) = q by omega, show L.length - (p + 1) + 1 = L.length - p by omega, show L.length - (q + 1) + 1 = L.length - q by omega]
    rw [← wk_lt ht h p q (by omega) (by omega)]
    show lf L (dn t (wk L t p)) < lf L (dn t (wk L t q)) ↔ _
    rw [lf_lt_iff (dn_lt hwp hlp ht) (dn_lt hwq hlq ht)]
    unfold Ls
    rw [dn_mono hwp hwq]
theorem wk_inj {L : List Nat} {t : Nat} (ht : t ≤ L.length) (h : OkW L t) {p q : Nat} (hp : p ≤ L.length) (hq : q ≤ L.length) (e : wk L t p = wk L t q) : p = q := by
  have tot : ∀ a b, a < b → b ≤ L.length → wk L t a ≠ wk L t b := fun a b hab hb hw => by
    rcases Nat.lt_trichotomy (wk L t a) (wk L t b) with k | k | k
    · omega
    · have hne : (outW L t).drop (L.length - a) ≠ (outW L t).drop (L.length - b) := fun k => by
        have := congrArg List.length k
        rw [List.length_drop, List.length_drop, outW_len] at this
        omega
      have h1 : ¬ (outW L t).drop (L.length - a) < (outW L t).drop (L.length - b) := fun k => by have := (wk_lt ht h a b (by omega) hb).2 k; omega
      have h2 : ¬ (outW L t).drop (L.length - b) < (outW L t).drop (L.length - a) := fun k => by have := (wk_lt ht h b a hb (by omega)).2 k; omega
      exact hne (List.le_antisymm (List.not_lt.1 h2) (List.not_lt.1 h1))
    · omega
  rcases Nat.lt_trichotomy p q with k | k | k
  · exact absurd e (tot p q k hq)
  · exact k
  · exact absurd e.symm (tot q p k hp)
/-- Each row is come to. -/
theorem wk_all {L : List Nat} {t : Nat} (ht : t ≤ L.length) (h : OkW L t) (r : Nat) (hr : r ≤ L.length) : ∃ p, p ≤ L.length ∧ wk L t p = r := by
  have hn : ((List.range (L.length + 1)).map (wk L t)).Nodup := by
    rw [List.nodup_iff_pairwise_ne, List.pairwise_map]
    refine List.Pairwise.imp_of_mem ?_ (List.nodup_iff_pairwise_ne.1 (List.nodup_range (n := L.length + 1)))
    intro a b ha hb hab e
    exact hab (wk_inj ht h (by have := List.mem_range.1 ha; omega) (by have := List.mem_range.1 hb; omega) e)
  have := nodup_all hn (m := List.range (L.length + 1)) (fun x hx => by
    obtain ⟨p, hp, rfl⟩ := List.mem_map.1 hx
    have := wk_le ht h.1 p (by have := List.mem_range.1 hp; omega)
    exact List.mem_range.2 (by omega)) (by simp) r (List.mem_range.2 (by omega))
  obtain ⟨p, hp, e⟩ := List.mem_map.1 this
  exact ⟨p, by have := List.mem_range.1 hp; omega, e⟩
end Lec.Sa
