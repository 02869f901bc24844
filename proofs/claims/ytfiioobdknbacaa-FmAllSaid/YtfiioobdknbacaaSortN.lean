/- suffix.Sort of numbers; fixed lists' endings. -/
import Derived.Test.YtfiioobdknbacaaRefN
set_option linter.unusedVariables false
set_option linter.unusedSimpArgs false
namespace Lec
theorem symN_map (s : List Nat) : symN (s.map fun v : Nat => (v : Int)) = s := by
  unfold symN; rw [List.map_map]
  have : (Int.toNat ∘ fun v : Nat => (v : Int)) = id := by funext v; simp
  rw [this, List.map_id]
namespace Sa
theorem sy_at {s : List Nat} {i v : Nat} (h : s[i]? = some v) : sy s i = v := getD_of h
/-- Of rising symbols. -/
theorem sa_up (n : Nat) : IsSA (List.range n) (List.range n) := by
  refine ⟨rfl, fun v hv => by simpa using hv, ?_⟩
  rw [List.pairwise_iff_getElem]
  intro i j hi hj hij
  rw [List.length_range] at hi hj
  simp only [List.getElem_range]
  rw [lt_step _ i j (by simpa using hi) (by simpa using hj), sy_at (List.getElem?_range hi), sy_at (List.getElem?_range hj)]
  exact .inl hij
def downL (n : Nat) : List Nat := (List.range n).map fun i => n - 1 - i
theorem downL_at (n i : Nat) (h : i < n) : (downL n)[i]? = some (n - 1 - i) := by unfold downL; rw [List.getElem?_map, List.getElem?_range h]; rfl
theorem downL_len (n : Nat) : (downL n).length = n := by simp [downL]
theorem downL_get (n i : Nat) (h : i < (downL n).length) : (downL n)[i] = n - 1 - i := by
  have := downL_at n i (by rwa [downL_len] at h)
  rw [List.getElem?_eq_getElem h] at this; injection this
/-- Of falling symbols. -/
theorem sa_down (n : Nat) : IsSA (downL n) (downL n) := by
  refine ⟨rfl, fun v hv => ?_, ?_⟩
  · obtain ⟨i, hi, rfl⟩ := List.mem_iff_getElem.1 hv
    rw [downL_get, downL_len]; rw [downL_len] at hi; omega
  · rw [List.pairwise_iff_getElem]
    intro i j hi hj hij
    rw [downL_get, downL_get]
    rw [downL_len] at hi hj
    rw [lt_step _ (n - 1 - i) (n - 1 - j) (by rw [downL_len]; omega) (by rw [downL_len]; omega), sy_at (downL_at n _ (by omega)), sy_at (downL_at n _ (by omega))]
    left; omega
/-- Of one symbol. -/
theorem rep_lt (c n : Nat) : ∀ (m i : Nat), n - i ≤ m → i < n → ∀ j, j < i → (List.replicate n c).drop i < (List.replicate n c).drop j
  | 0, i, hm, hi, j, hj => by omega
  | m + 1, i, hm, hi, j, hj => by
    have e : ∀ k, k < n → sy (List.replicate n c) k = c := fun k hk => sy_at (by rw [List.getElem?_replicate, if_pos hk])
    rw [lt_step _ i j (by simpa using hi) (by simp; omega), e i hi, e j (by omega)]
    refine .inr ⟨rfl, ?_⟩
    by_cases h : i + 1 < n
    · exact rep_lt c n m (i + 1) (by omega) h (j + 1) (by omega)
    · exact end_lt _ _ _ (by simp; omega) (by simp; omega)
theorem sa_same (c n : Nat) : IsSA (List.replicate n c) (downL n) := by
  refine ⟨by rw [downL_len]; simp, fun v hv => ?_, ?_⟩
  · obtain ⟨i, hi, rfl⟩ := List.mem_iff_getElem.1 hv
    rw [downL_get]; rw [downL_len] at hi; simp; omega
  · rw [List.pairwise_iff_getElem]
    intro i j hi hj hij
    rw [downL_get, downL_get]
    rw [downL_len] at hi hj
    exact rep_lt c n _ _ (Nat.le_refl _) (by omega) _ (by omega)
end Sa
end Lec
namespace Go.Proofs.Ytfiioobdknbacaa
open Go.RowKit Lec
theorem mayS_nat {s : List Nat} (h : ∀ x, x ∈ s → x < 512) : mayS 512 (s.map fun v : Nat => (v : Int)) = true := by
  unfold mayS
  rw [List.all_eq_true]
  intro x hx
  rw [List.mem_map] at hx
  obtain ⟨v, hv, rfl⟩ := hx
  have := h v hv
  simp; omega
theorem Sort_nat (w : World) (A : Option Addr) (c : Nat) (s : List Nat) (hm : s.length ≤ 131072) (hr : Rds w A (natsC s)) (hA : A = none → s.length = 0 ∧ c = 0) (hs : ∀ x, x ∈ s → x < 512) :
    Calls Try.prog 67 #[.slice A s.length c] w (SortPost w s) := by
  have h := Sort_good w A s.length c (s.map fun v : Nat => (v : Int)) (by simp) hm (by rw [← natsC_ints]; exact hr) hA (mayS_nat hs)
  rwa [symN_map] at h
end Go.Proofs.Ytfiioobdknbacaa
