/- The walk and the rows are one and the same: plain. -/
import Derived.Test.YtkjajdhempceaaaLfL
set_option linter.unusedVariables false
set_option linter.unusedSimpArgs false
namespace Lec.Sa
def up (t i : Nat) : Nat := if i < t then i else i + 1
theorem up_ne (t i : Nat) : up t i ≠ t := by unfold up; split <;> omega
theorem dn_up (t i : Nat) : dn t (up t i) = i := by unfold dn up; split <;> split <;> omega
theorem up_dn {t r : Nat} (h : r ≠ t) : up t (dn t r) = r := by unfold dn up; split <;> split <;> omega
theorem up_le {t i n : Nat} (h : i < n) : up t i ≤ n := by unfold up; split <;> omega
theorem up_mono {t i j : Nat} (h : i < j) : up t i < up t j := by unfold up; split <;> split <;> omega
theorem skip_eq {t n : Nat} (ht : t ≤ n) : (List.range (n + 1)).filter (· != t) = (List.range n).map (up t) := by
  refine sorted_eq (R := (· < ·)) (fun x => Nat.lt_irrefl x) (fun x y h k => by omega) (List.pairwise_lt_range.filter _) ?_ (fun x => ?_)
  · rw [List.pairwise_map]
    exact List.pairwise_lt_range.imp (fun h => up_mono h)
  · rw [List.mem_filter, List.mem_map, List.mem_range]
    constructor
    · rintro ⟨h1, h2⟩
      have hne : x ≠ t := by simpa using h2
      exact ⟨dn t x, List.mem_range.2 (dn_lt hne (by omega) ht), up_dn hne⟩
    · rintro ⟨i, hi, rfl⟩
      have := up_le (t := t) (List.mem_range.1 hi)
      exact ⟨by omega, by simpa using up_ne t i⟩
theorem outL_of {s : List Nat} {f : Nat → Nat} {n t : Nat} (ht : t ≤ n) (h : ∀ r, r ≤ n → (f r = 0 ↔ r = t)) : outL s ((List.range (n + 1)).map f) = (List.range n).map (fun i => sy s (f (up t i) - 1)) := by
  unfold outL
  rw [List.filter_map]
  have hc : (List.range (n + 1)).filter ((· != 0) ∘ f) = (List.range (n + 1)).filter (· != t) := by
    refine List.filter_congr (fun r hr => ?_)
    have := h r (by have := List.mem_range.1 hr; omega)
    show (f r != 0) = (r != t)
    by_cases e : r = t
    · rw [this.2 e, e]; simp only [bne_self_eq_false]
    · rw [bne_iff_ne.2 (fun k => e (this.1 k)), bne_iff_ne.2 e]
  rw [hc, skip_eq ht, List.map_map, List.map_map]
  rfl
theorem atK_of {R : List Nat} {t : Nat} (h0 : R[t]? = some 0) (h : ∀ j, R[j]? = some 0 → j = t) : ∀ k, t < k → atK R k = t
  | 0, hk => by omega
  | k + 1, hk => by
    rw [atK]
    by_cases e : R[k]? = some 0
    · rw [if_pos e]; exact h k e
    · rw [if_neg e]
      refine atK_of h0 h k ?_
      by_cases e2 : t = k
      · subst e2; exact absurd h0 e
      · omega

/-- A list that a walk gives has this last column. -/
theorem OkW.make {L : List Nat} {t : Nat} (ht : t ≤ L.length) (h : OkW L t) : ∃ b, IsSA (outW L t) b ∧ outL (outW L t) (rowsL (outW L t) b) = L ∧ atK (rowsL (outW L t) b) (L.length + 1) = t := by
  have hex : ∀ r, ∃ v, r ≤ L.length → v ≤ L.length ∧ wk L t (L.length - v) = r := fun r => by
    by_cases hr : r ≤ L.length
    · obtain ⟨p, hp, e⟩ := wk_all ht h r hr
      exact ⟨L.length - p, fun _ => ⟨by omega, by rw [show L.length - (L.length - p) = p by omega]; exact e⟩⟩
    · exact ⟨0, fun k => absurd k hr⟩
  obtain ⟨f, hf⟩ := Classical.axiomOfChoice hex
  have hf0 : f 0 = L.length := by
    have h0 := hf 0 (by omega)
    have := wk_inj ht h (p := L.length - f 0) (q := 0) (by omega) (by omega) h0.2
    omega
  have hsl := outW_len L t
  have hlt : ∀ r, r < L.length → f (r + 1) < L.length := fun r hr => by
    have h1 := hf (r + 1) (by omega)
    by_cases e : f (r + 1) = L.length
    · have := h1.2
      rw [e, Nat.sub_self] at this
      simp [wk] at this
    · omega
  have hR : rowsL (outW L t) ((List.range L.length).map (fun r => f (r + 1))) = (List.range (L.length + 1)).map f := by
    unfold rowsL
    rw [List.range_succ_eq_map, List.map_cons, List.map_map, hf0, hsl]
    rfl
  have hz : ∀ r, r ≤ L.length → (f r = 0 ↔ r = t) := fun r hr => by
    have h1 := hf r hr
    constructor
    · intro e
      rw [e, Nat.sub_zero, h.2] at h1
      exact h1.2.symm
    · intro e
      have := wk_inj ht h (p := L.length - f r) (q := L.length) (by omega) (by omega) (by rw [h1.2, h.2, e])
      omega
  refine ⟨(List.range L.length).map (fun r => f (r + 1)), ⟨by simp [hsl], fun v hv => ?_, ?_⟩, ?_, ?_⟩
  · obtain ⟨r, hr, rfl⟩ := List.mem_map.1 hv
    rw [hsl]
    exact hlt r (List.mem_range.1 hr)
  · rw [List.pairwise_map]
    refine List.Pairwise.imp_of_mem ?_ List.pairwise_lt_range
    intro a b ha hb hab
    have ha := List.mem_range.1 ha
    have hb := List.mem_range.1 hb
    have h1 := hf (a + 1) (by omega)
    have h2 := hf (b + 1) (by omega)
    have := (wk_lt ht h (L.length - f (a + 1)) (L.length - f (b + 1)) (by omega) (by omega)).1 (by rw [h1.2, h2.2]; omega)
    rwa [show L.length - (L.length - f (a + 1)) = f (a + 1) by omega, show L.length - (L.length - f (b + 1)) = f (b + 1) by omega] at this
  · rw [hR, outL_of ht hz]
    refine List.ext_getElem (by simp) (fun i h1 h2 => ?_)
    rw [List.getElem_map, List.getElem_range]
    have hi : i < L.length := h2
    have hu := up_le (t := t) hi
    have h3 := hf (up t i) hu
    have h4 : f (up t i) ≠ 0 := fun e => up_ne t i ((hz _ hu).1 e)
    rw [outW_sy _ _ _ (by omega), show L.length - 1 - (f (up t i) - 1) = L.length - f (up t i) by omega, h3.2, dn_up]
    exact getD_of (List.getElem?_eq_getElem hi)
  · rw [hR]
    refine atK_of ?_ ?_ _ (by omega)
    · rw [List.getElem?_map, List.getElem?_range (by omega)]
      simp [(hz t ht).2 rfl]
    · intro j hj
      rw [List.getElem?_map] at hj
      by_cases e : j < L.length + 1
      · rw [List.getElem?_range e] at hj
        simp at hj
        exact (hz j (by omega)).1 hj
      · rw [List.getElem?_eq_none (by simp; omega)] at hj
        simp at hj

/-- Rising without a gap, the numbers are these. -/
theorem mono_val {L : List Nat} {f : Nat → Nat} (hm : ∀ i j, i < L.length → j < L.length → Ls L i j → f i < f j) (hb : ∀ i, i < L.length → 1 ≤ f i ∧ f i ≤ L.length) {i : Nat} (hi : i < L.length) :
    f i = 1 + cnt L.length (fun k => decide (sy L k < sy L i) || (sy L k == sy L i && decide (k < i))) := by
  have hinj : ∀ a b, a < L.length → b < L.length → a ≠ b → f a ≠ f b := fun a b ha hb' hab => by
    rcases Ls.total (L := L) hab with k | k
    · have := hm a b ha hb' k; omega
    · have := hm b a hb' ha k; omega
  have hnod : ∀ p : Nat → Bool, (((List.range L.length).filter p).map f).Nodup := fun p => by
    rw [List.nodup_iff_pairwise_ne, List.pairwise_map]
    refine List.Pairwise.imp_of_mem ?_ (List.nodup_iff_pairwise_ne.1 (List.nodup_range.filter p))
    intro a b ha hb' hab
    exact hinj a b (List.mem_range.1 (List.mem_filter.1 ha).1) (List.mem_range.1 (List.mem_filter.1 hb').1) hab
  have h1 := nodup_len (hnod (fun k => decide (sy L k < sy L i) || (sy L k == sy L i && decide (k < i)))) (m := List.range' 1 (f i - 1)) (fun x hx => by
    obtain ⟨k, hk, rfl⟩ := List.mem_map.1 hx
    rw [List.mem_filter, List.mem_range] at hk
    have h3 := hm k i hk.1 hi (by unfold Ls; simpa using hk.2)
    have h4 := hb k hk.1
    rw [List.mem_range'_1]; omega)
  have h2 := nodup_len (hnod (fun k => decide (sy L i < sy L k) || (sy L i == sy L k && decide (i < k)))) (m := List.range' (f i + 1) (L.length - f i)) (fun x hx => by
    obtain ⟨k, hk, rfl⟩ := List.mem_map.1 hx
    rw [List.mem_filter, List.mem_range] at hk
    have h3 := hm i k hi hk.1 (by unfold Ls; simpa using hk.2)
    have h4 := hb k hk.1
    rw [List.mem_range'_1]; omega)
  rw [List.length_map, List.length_range'] at h1 h2
  have h3 : cnt L.length (fun k => k != i) = cnt L.length (fun k => decide (sy L k < sy L i) || (sy L k == sy L i && decide (k < i))) + cnt L.length (fun k => decide (sy L i < sy L k) || (sy L i == sy L k && decide (i < k))) := by
    refine cnt_add _ _ _ _ (fun k _ => ?_)
    rcases Nat.lt_trichotomy (sy L k) (sy L i) with e | e | e
    · have : k ≠ i := fun h => by subst h; omega
      simp [e, show (k != i) = true from bne_iff_ne.2 this, show ¬ sy L i < sy L k by omega, show (sy L i == sy L k) = false by rw [beq_eq_false_iff_ne]; omega]
    · rcases Nat.lt_trichotomy k i with e2 | e2 | e2
      · simp [e, e2, show k ≠ i by omega, show ¬ i < k by omega]
      · subst e2; simp
      · simp [e, e2, show k ≠ i by omega, show ¬ k < i by omega]
    · have : k ≠ i := fun h => by subst h; omega
      simp [e, show (k != i) = true from bne_iff_ne.2 this, show ¬ sy L k < sy L i by omega, show (sy L k == sy L i) = false by rw [beq_eq_false_iff_ne]; omega]
  have h4 : cnt L.length (fun _ => true) = cnt L.length (fun k => k != i) + cnt L.length (fun k => k == i) := by
    refine cnt_add _ _ _ _ (fun k _ => ?_)
    by_cases e : k = i
    · simp [e]
    · simp [show (k != i) = true from bne_iff_ne.2 e, show (k == i) = false by rw [beq_eq_false_iff_ne]; exact e]
  have h5 : cnt L.length (fun k => k == i) ≤ 1 := cnt_cover (l := [i]) (fun x _ hx => by simpa using hx)
  rw [cnt_all _ _ (fun _ _ => rfl)] at h4
  have h6 := hb i hi
  change cnt _ _ ≤ _ at h1
  change cnt _ _ ≤ _ at h2
  omega
theorem lf_uniq {L : List Nat} {f : Nat → Nat} (hm : ∀ i j, i < L.length → j < L.length → Ls L i j → f i < f j) (hb : ∀ i, i < L.length → 1 ≤ f i ∧ f i ≤ L.length) {i : Nat} (hi : i < L.length) : f i = lf L i := by
  rw [mono_val hm hb hi, mono_val (f := lf L) (fun i j hi hj h => lf_lt hi h) (fun i hi => ⟨lf_pos L i, lf_top hi⟩) hi]
end Lec.Sa
