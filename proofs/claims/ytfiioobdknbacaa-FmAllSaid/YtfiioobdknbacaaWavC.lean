/- A wavelet tree's counts, plain; a tree in memory. -/
import Derived.Test.YtfiioobdknbacaaWavD
import Derived.Test.YtfiioobdknbacaaMbLen
set_option linter.unusedVariables false
set_option linter.unusedSimpArgs false
namespace Lec.Wv
/-- How many are below d; how many are c. -/
def less (L : List Nat) (d : Nat) : Nat := (L.filter (fun x => decide (x < d))).length
def eqs (L : List Nat) (c : Nat) : Nat := (L.filter (· == c)).length
theorem less_zero (L : List Nat) : less L 0 = 0 := by unfold less; simp
theorem less_succ (d : Nat) : ∀ L : List Nat, less L (d + 1) = less L d + eqs L d
  | [] => rfl
  | x :: L => by
    have ih := less_succ d L
    unfold less eqs at *
    by_cases h1 : x < d
    · have : (x == d) = false := by simp; omega
      simp [h1, this, show x < d + 1 by omega] at ih ⊢; omega
    · by_cases h2 : x = d
      · subst h2; simp at ih ⊢; omega
      · have h3 : (x == d) = false := by simpa using h2
        have h4 : ¬ x < d + 1 := by omega
        simp [h1, h3, h4] at ih ⊢; omega
theorem less_le (L : List Nat) (d : Nat) : less L d ≤ L.length := List.length_filter_le _ _
theorem eqs_le (L : List Nat) (c : Nat) : eqs L c ≤ L.length := List.length_filter_le _ _
theorem less_all {L : List Nat} {d : Nat} (h : ∀ x ∈ L, x < d) : less L d = L.length := by
  unfold less
  rw [List.filter_eq_self.2 (fun x hx => by simpa using h x hx)]
theorem eqs_snoc (L : List Nat) (x c : Nat) : eqs (L ++ [x]) c = eqs L c + (if x = c then 1 else 0) := by
  unfold eqs
  rw [List.filter_append, List.length_append]
  by_cases h : x = c
  · subst h; simp
  · have : (x == c) = false := by simpa using h
    simp [this, h]
def G0 (L : List Nat) (k d : Nat) : Nat := if d = 0 then 0 else eqs (L.take k) (d - 1)
def G1 (L : List Nat) (k d : Nat) : Nat := if d ≤ k then less L d else eqs L (d - 1)
theorem G0_next {L : List Nat} {k x : Nat} (h : L[k]? = some x) (d : Nat) : G0 L (k + 1) d = if x + 1 = d then G0 L k d + 1 else G0 L k d := by
  have hk : k < L.length := (List.getElem?_eq_some_iff.1 h).1
  have hx : L[k] = x := (List.getElem?_eq_some_iff.1 h).2
  unfold G0
  by_cases e : d = 0
  · rw [if_pos e, if_pos e, if_neg (by omega)]
  · rw [if_neg e, if_neg e, List.take_succ_eq_append_getElem hk, hx, eqs_snoc]
    by_cases e2 : x + 1 = d
    · rw [if_pos e2, if_pos (by omega)]
    · rw [if_neg e2, if_neg (by omega)]; rfl
theorem G01 (L : List Nat) (d : Nat) : G0 L L.length d = G1 L 0 d := by
  unfold G0 G1
  rw [List.take_length]
  by_cases e : d = 0
  · rw [if_pos e, if_pos (by omega), e, less_zero]
  · rw [if_neg e, if_neg (by omega)]
theorem G1_next (L : List Nat) (k d : Nat) : G1 L (k + 1) d = if k + 1 = d then G1 L k d + G1 L k k else G1 L k d := by
  unfold G1
  by_cases e : k + 1 = d
  · subst e
    rw [if_pos (by omega), if_pos rfl, if_neg (by omega), if_pos (Nat.le_refl _), less_succ, Nat.add_comm]
    rfl
  · rw [if_neg e]
    by_cases e2 : d ≤ k
    · rw [if_pos (by omega), if_pos e2]
    · rw [if_neg (by omega), if_neg e2]
theorem G0_le (L : List Nat) (k d : Nat) : G0 L k d ≤ L.length := by
  unfold G0
  split
  · omega
  · have := eqs_le (L.take k) (d - 1); rw [List.length_take] at this; omega
theorem G1_le (L : List Nat) (k d : Nat) : G1 L k d ≤ L.length := by
  unfold G1
  split
  · exact less_le _ _
  · exact eqs_le _ _
end Lec.Wv
namespace Lec
open Go Go.RowKit
/-- The levels' cells. -/
def lvlC (D : Nat) (L : List Nat) (ps : Nat → Nat) (d : Nat) : List Value := [.pointer (some ⟨ps d, 0, none⟩), .int .i64 (Wv.nought (Wv.bitD D d) (Wv.lv (Wv.bitD D) L d) : Int)]
def lvlsC (D : Nat) (L : List Nat) (ps : Nat → Nat) (n : Nat) : List Value := (List.range n).flatMap (lvlC D L ps)
theorem lvlsC_len (D : Nat) (L : List Nat) (ps : Nat → Nat) : ∀ n, (lvlsC D L ps n).length = n * 2
  | 0 => rfl
  | n + 1 => by
    have := lvlsC_len D L ps n
    unfold lvlsC at *
    rw [List.range_succ, List.flatMap_append, List.length_append, this]
    simp [lvlC]; omega
theorem lvlsC_succ (D : Nat) (L : List Nat) (ps : Nat → Nat) (n : Nat) : lvlsC D L ps (n + 1) = lvlsC D L ps n ++ lvlC D L ps n := by
  unfold lvlsC
  rw [List.range_succ, List.flatMap_append]; simp
theorem lvlsC_at (D : Nat) (L : List Nat) (ps : Nat → Nat) (n d : Nat) (hd : d < n) (o : Nat) (ho : o < 2) : (lvlsC D L ps n)[d * 2 + o]? = (lvlC D L ps d)[o]? := by
  induction n with
  | zero => omega
  | succ n ih =>
    rw [lvlsC_succ]
    by_cases h : d < n
    · rw [List.getElem?_append_left (by rw [lvlsC_len]; omega)]; exact ih h
    · obtain rfl : d = n := by omega
      rw [List.getElem?_append_right (by rw [lvlsC_len]; omega), lvlsC_len]
      congr 1; omega
theorem lvlsC_congr (D : Nat) (L : List Nat) (ps qs : Nat → Nat) (n : Nat) (h : ∀ d, d < n → ps d = qs d) : lvlsC D L ps n = lvlsC D L qs n := by
  induction n with
  | zero => rfl
  | succ n ih => rw [lvlsC_succ, lvlsC_succ, ih (fun d hd => h d (by omega))]; unfold lvlC; rw [h n (by omega)]
/-- Vectors' bits of a level. -/
abbrev lvB (D : Nat) (L : List Nat) (d : Nat) : List Bool := (Wv.lv (Wv.bitD D) L d).map (Wv.bitD D d)
/-- A tree that is only read; its blocks lie from lo on. -/
structure TreeN (w : World) (p k D : Nat) (L : List Nat) (lo : Nat) : Prop where
  out : ∃ A c B c' ps, w.cell? ⟨p, 0, none⟩ = some (.slice A D c) ∧ w.cell? ⟨p, 1, none⟩ = some (.slice B (k + 1) c') ∧ w.cell? ⟨p, 2, none⟩ = some (.int .i64 (L.length : Int)) ∧
    Rds w A (lvlsC D L ps D) ∧ Rds w B (natsC ((List.range (k + 1)).map (Wv.less L))) ∧ (∀ d, d < D → VecN w (ps d) (lvB D L d) lo) ∧ lo ≤ p ∧ (∀ a, A = some a → lo ≤ a.block) ∧ (∀ a, B = some a → lo ≤ a.block)
theorem TreeN.ext {w w' : World} {p k D lo B : Nat} {L : List Nat} (h : TreeN w p k D L lo) (hb : Below B w w') (hD : w.heap.size ≤ B) : TreeN w' p k D L lo := by
  obtain ⟨A, c, B, c', ps, h1, h2, h3, h4, h5, h6, h7⟩ := h.out
  exact ⟨A, c, B, c', ps, cell_ext hb hD h1, cell_ext hb hD h2, cell_ext hb hD h3, h4.ext hb hD, h5.ext hb hD, fun d hd => (h6 d hd).ext hb hD, h7⟩
theorem TreeN.grown {w w' : World} {p k D lo : Nat} {L : List Nat} {row : Option Nat} (h : TreeN w p k D L lo) (hg : w.grownBy w' row) (hr : ∀ k, row = some k → k < lo) : TreeN w' p k D L lo := by
  obtain ⟨A, c, B, c', ps, h1, h2, h3, h4, h5, h6, h7, h8, h9⟩ := h.out
  have hp : ∀ o, some (⟨p, o, none⟩ : Addr).block ≠ row := fun o e => by have : p < lo := hr _ e.symm; omega
  exact ⟨A, c, B, c', ps, hg.cell h1 (hp 0), hg.cell h2 (hp 1), hg.cell h3 (hp 2), rds_grown h4 hg (fun a ha e => by have := hr _ e.symm; have := h8 a ha; omega), rds_grown h5 hg (fun a ha e => by have := hr _ e.symm; have := h9 a ha; omega), fun d hd => (h6 d hd).grown hg hr, h7, h8, h9⟩
end Lec
