/- The places in the order that inducing makes: plain. No program stands here. -/
import Derived.Test.YtkjajdhempceaaaSaF
set_option linter.unusedVariables false
set_option linter.unusedSimpArgs false
namespace Lec.Sa
theorem Induced.ord {s d : List Nat} {K : Nat} {b : List Nat} (h : Induced s d K (b.map (fun v => ((v : Nat) : Int)))) : Ord s (b.filter (lmsB s)) := by
  obtain ⟨b', e1, e2, e3, e4⟩ := h.nat
  have : b' = b := by
    have := List.map_inj_right (f := fun v : Nat => (v : Int)) (fun x y h => by have h' : (x : Int) = (y : Int) := h; omega) |>.1 e1
    exact this.symm
  subst this
  have hall : ∀ v, v < s.length → v ∈ b' := fun v hv => nodup_all e3 (m := List.range s.length) (fun x hx => List.mem_range.2 (e4 x hx)) (by simp [e2]) v (List.mem_range.2 hv)
  refine ⟨e3.filter _, fun v => ?_, fun i j v w hij hi hj hne => ?_⟩
  · rw [List.mem_filter, lmsB_iff]
    exact ⟨fun h => h.2, fun h => ⟨hall v h.2.1, h⟩⟩
  · have hp : b'.Pairwise (fun v w => ¬ Eq' s v w → s.drop v < s.drop w) := by
      rw [List.pairwise_iff_getElem]
      intro p q hp hq hpq hn
      exact h.pieces hpq (List.getElem?_eq_getElem hp) (List.getElem?_eq_getElem hq) hn
    have hf := hp.filter (lmsB s)
    rw [List.pairwise_iff_getElem] at hf
    obtain ⟨a1, c1⟩ := List.getElem?_eq_some_iff.1 hi
    obtain ⟨a2, c2⟩ := List.getElem?_eq_some_iff.1 hj
    have := hf i j a1 a2 hij
    rw [c1, c2] at this
    exact this hne
theorem Ord.bound {s o l : List Nat} (h : Ord s o) (hl : l.length = (lmsL s).length) (hn : ∀ i v : Nat, o[i]? = some v → l[idx s v]? = some (nm s o i)) : ∀ j, j < l.length → sy l j < nm s o ((lmsL s).length - 1) + 1 := by
  intro j hj
  have hj2 : j < (lmsL s).length := by omega
  have hv := List.getElem?_eq_getElem hj2
  have hm := (h.mem (lmsL s)[j]).2 ((lmsL_mem s _).1 (List.getElem_mem hj2))
  obtain ⟨i, hi⟩ := List.mem_iff_getElem?.1 hm
  have h1 := hn i _ hi
  rw [idx_get hv] at h1
  have h2 := nm_mono s o (show i ≤ (lmsL s).length - 1 by have := (List.getElem?_eq_some_iff.1 hi).1; have := h.len; omega)
  unfold sy
  rw [getD_of h1]; omega
/-- Frames that wait, the newest first: each one's names are the list of the next newer one. -/
def Chain : List (Nat × List Nat × Nat) → List Nat → List Nat → Prop
  | [], cur, root => cur = root
  | (_, s, K) :: st, cur, root => Named s cur ∧ 0 < s.length ∧ s.length ≤ 131072 ∧ K ≤ 200000 ∧ (∀ i, i < s.length → sy s i < K) ∧ Chain st s root
theorem Ord.inj {s o l : List Nat} (h : Ord s o) (hl : l.length = (lmsL s).length) (hn : ∀ i v : Nat, o[i]? = some v → l[idx s v]? = some i) : ∀ j m c : Nat, l[j]? = some c → l[m]? = some c → j = m := by
  have find : ∀ j c : Nat, l[j]? = some c → ∃ v, o[c]? = some v ∧ idx s v = j := fun j c hj => by
    have hj2 : j < (lmsL s).length := by have := (List.getElem?_eq_some_iff.1 hj).1; omega
    have hv := List.getElem?_eq_getElem hj2
    have hm := (h.mem (lmsL s)[j]).2 ((lmsL_mem s _).1 (List.getElem_mem hj2))
    obtain ⟨i, hi⟩ := List.mem_iff_getElem?.1 hm
    have h1 := hn i _ hi
    rw [idx_get hv, hj] at h1
    injection h1 with h1
    exact ⟨_, by rw [h1]; exact hi, idx_get hv⟩
  intro j m c h1 h2
  obtain ⟨v, v1, v2⟩ := find j c h1
  obtain ⟨u, u1, u2⟩ := find m c h2
  rw [v1] at u1; injection u1 with u1
  rw [← v2, ← u2, u1]
theorem IsSA.nil : IsSA [] [] := ⟨rfl, fun v h => by simp at h, List.Pairwise.nil⟩
theorem layB {s l a : List Nat} {K : Nat} (hp : 0 < s.length) (hs : ∀ i, i < s.length → sy s i < K) (h : Named s l) (ha : IsSA l a) : Lay s (back s a) K := ⟨hp, hs, (h.back ha).1, (h.back ha).2.1⟩
theorem layL {s : List Nat} {K : Nat} (hp : 0 < s.length) (hs : ∀ i, i < s.length → sy s i < K) : Lay s (lmsL s) K := ⟨hp, hs, lmsL_nodup s, lmsL_mem s⟩
end Lec.Sa
