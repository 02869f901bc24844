/- Merging two sorted rows: plain. No program stands here. -/
set_option linter.unusedVariables false
set_option linter.unusedSimpArgs false
namespace Lec
structure MInv (R : Nat → Nat → Prop) (o xs ys all : List Nat) : Prop where
  so : o.Pairwise R
  sx : xs.Pairwise R
  sy : ys.Pairwise R
  ox : ∀ v, v ∈ o → ∀ u, u ∈ xs → R v u
  oy : ∀ v, v ∈ o → ∀ u, u ∈ ys → R v u
  mem : ∀ x, x ∈ all ↔ x ∈ o ∨ x ∈ xs ∨ x ∈ ys
  len : o.length + xs.length + ys.length = all.length
  dis : ∀ x, x ∈ xs → ¬ x ∈ ys
section
variable {R : Nat → Nat → Prop} (tr : ∀ a b c, R a b → R b c → R a c) {o xs ys all : List Nat} {x y : Nat}
theorem MInv.swap (h : MInv R o xs ys all) : MInv R o ys xs all :=
  ⟨h.so, h.sy, h.sx, h.oy, h.ox, fun x => by rw [h.mem x]; constructor <;> (rintro (a | a | a) <;> simp [a]), by have := h.len; omega, fun x hx hy => h.dis x hy hx⟩
include tr in
theorem MInv.left (h : MInv R o (x :: xs) (y :: ys) all) (hxy : R x y) : MInv R (o ++ [x]) xs (y :: ys) all := by
  have hsx := List.pairwise_cons.1 h.sx
  have hsy := List.pairwise_cons.1 h.sy
  refine ⟨List.pairwise_append.2 ⟨h.so, by simp, fun v hv u hu => ?_⟩, hsx.2, h.sy, fun v hv u hu => ?_, fun v hv u hu => ?_, fun z => ?_, ?_, fun z hz => h.dis z (List.mem_cons_of_mem _ hz)⟩
  · rw [List.mem_singleton] at hu; subst hu; exact h.ox v hv u (List.mem_cons_self ..)
  · rcases List.mem_append.1 hv with hv | hv
    · exact h.ox v hv u (List.mem_cons_of_mem _ hu)
    · rw [List.mem_singleton] at hv; subst hv; exact hsx.1 u hu
  · rcases List.mem_append.1 hv with hv | hv
    · exact h.oy v hv u hu
    · rw [List.mem_singleton] at hv; subst hv
      rcases List.mem_cons.1 hu with rfl | hu
      · exact hxy
      · exact tr _ _ _ hxy (hsy.1 u hu)
  · rw [h.mem z, List.mem_append, List.mem_singleton, List.mem_cons (a := z) (b := x)]
    constructor
    · rintro (a | (a | a) | a) <;> simp [a]
    · rintro ((a | a) | a | a) <;> simp [a]
  · have := h.len
    simp only [List.length_append, List.length_cons, List.length_nil] at this ⊢; omega
include tr in
theorem MInv.right (h : MInv R o (x :: xs) (y :: ys) all) (hxy : R y x) : MInv R (o ++ [y]) (x :: xs) ys all := (MInv.left tr h.swap hxy).swap
theorem MInv.fin (h : MInv R o xs ys all) (he : xs = [] ∨ ys = []) : (o ++ xs ++ ys).Pairwise R ∧ (∀ x, x ∈ o ++ xs ++ ys ↔ x ∈ all) ∧ (o ++ xs ++ ys).length = all.length := by
  refine ⟨?_, fun z => ?_, ?_⟩
  · rcases he with rfl | rfl
    · rw [List.append_nil]; exact List.pairwise_append.2 ⟨h.so, h.sy, fun v hv u hu => h.oy v hv u hu⟩
    · rw [List.append_nil]; exact List.pairwise_append.2 ⟨h.so, h.sx, fun v hv u hu => h.ox v hv u hu⟩
  · rw [h.mem z]; simp [or_assoc]
  · have := h.len; simp; omega
end
end Lec
