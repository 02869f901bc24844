/- Hits, plain: a pattern's places in all texts are its places in each. -/
import Derived.Test.YtjpcfpffbicpnaaPackSeg
import Derived.Test.YtjpcfpffbicpnaaFmL
set_option linter.unusedVariables false
set_option linter.unusedSimpArgs false
namespace Lec.Sg
open Lec.Fm
theorem symD_cons (d : Doc) (ds : List Doc) : symD (d :: ds) = bytesN d.text ++ 0 :: symD ds := by simp [symD]
/-- Does the pattern stand at k of this text? -/
def hereB (t q : List Nat) (k : Nat) : Bool := decide ((t.drop k).take q.length = q)
theorem here_pre {t q : List Nat} {k : Nat} : hereB t q k = true ↔ q <+: t.drop k := by
  unfold hereB
  rw [decide_eq_true_iff, List.prefix_iff_eq_take]
  exact ⟨fun h => h.symm, fun h => h.symm⟩
/-- A prefix of a text, what stands behind it and more, that has no 0, is one of the text. -/
theorem pre_zero : ∀ {q t r : List Nat}, (∀ z ∈ q, z ≠ 0) → q <+: t ++ 0 :: r → q <+: t
  | [], t, r, _, _ => List.nil_prefix
  | a :: q, [], r, hq, h => by
    obtain ⟨rfl, _⟩ := List.cons_prefix_cons.1 h
    exact absurd rfl (hq 0 (by simp))
  | a :: q, c :: t, r, hq, h => by
    obtain ⟨rfl, h2⟩ := List.cons_prefix_cons.1 h
    exact List.cons_prefix_cons.2 ⟨rfl, pre_zero (fun z hz => hq z (by simp [hz])) h2⟩
theorem in_text {t r q : List Nat} {k : Nat} (hq : ∀ z ∈ q, z ≠ 0) (hk : k ≤ t.length) : inP (t ++ 0 :: r) q k = hereB t q k := by
  rw [Bool.eq_iff_iff, here_pre]
  unfold inP
  rw [List.isPrefixOf_iff_prefix, List.drop_append_of_le_length hk]
  constructor
  · exact pre_zero hq
  · intro h; exact h.trans (List.prefix_append _ _)
theorem in_rest {t r q : List Nat} {k : Nat} : inP (t ++ 0 :: r) q (t.length + 1 + k) = inP r q k := by
  unfold inP
  rw [show t ++ 0 :: r = (t ++ [0]) ++ r by simp, show t.length + 1 + k = (t ++ [0]).length + k by simp, List.drop_length_add_append]
/-- The places of a pattern in one text. -/
def textP (t q : List Nat) : List Nat := (List.range (t.length + 1)).filter (hereB t q)
theorem find_split {t r q : List Nat} (hq : ∀ z ∈ q, z ≠ 0) : findS (t ++ 0 :: r) q = textP t q ++ (findS r q).map (fun v => t.length + 1 + v) := by
  unfold findS textP
  rw [List.length_append, List.length_cons, show t.length + (r.length + 1) = (t.length + 1) + r.length by omega, List.range_add, List.filter_append, List.filter_map]
  congr 1
  · refine List.filter_congr (fun k hk => ?_)
    have := List.mem_range.1 hk
    exact in_text hq (by omega)
  · congr 1
    refine List.filter_congr (fun k hk => ?_)
    exact in_rest
/-- All hits: the document's place, the place in its text. -/
def hitsI (q : List Nat) : Nat → List Doc → List (Nat × Nat)
  | _, [] => []
  | i, d :: ds => (textP (bytesN d.text) q).map (fun k => (i, k)) ++ hitsI q (i + 1) ds
theorem bytesN_len (t : ByteArray) : (bytesN t).length = t.size := by
  unfold bytesN
  rw [List.length_map, Go.ByteArray.toList_eq]
  cases t; rfl
/-- Where a place lies: the document, the place in its text. -/
def whereD : List Doc → Nat → Nat × Nat
  | [], v => (0, v)
  | d :: ds, v => if v ≤ d.text.size then (0, v) else ((whereD ds (v - d.text.size - 1)).1 + 1, (whereD ds (v - d.text.size - 1)).2)
theorem where_first {d : Doc} {ds : List Doc} {v : Nat} (h : v ≤ d.text.size) : whereD (d :: ds) v = (0, v) := by rw [whereD, if_pos h]
theorem where_rest (d : Doc) (ds : List Doc) (v : Nat) : whereD (d :: ds) (d.text.size + 1 + v) = ((whereD ds v).1 + 1, (whereD ds v).2) := by
  rw [whereD, if_neg (by omega), show d.text.size + 1 + v - d.text.size - 1 = v by omega]
theorem hits_eq {q : List Nat} (hq : ∀ z ∈ q, z ≠ 0) : ∀ (ds : List Doc) (i : Nat), (findS (symD ds) q).map (fun v => ((whereD ds v).1 + i, (whereD ds v).2)) = hitsI q i ds
  | [], i => by simp [symD, findS, hitsI]
  | d :: ds, i => by
    rw [symD_cons, find_split hq, hitsI, List.map_append, List.map_map, bytesN_len, ← hits_eq hq ds (i + 1)]
    congr 1
    · refine List.map_congr_left (fun k hk => ?_)
      unfold textP at hk
      have := List.mem_range.1 (List.mem_filter.1 hk).1
      rw [bytesN_len] at this
      rw [where_first (by omega)]
      simp
    · refine List.map_congr_left (fun k hk => ?_)
      show ((whereD (d :: ds) (d.text.size + 1 + k)).1 + i, (whereD (d :: ds) (d.text.size + 1 + k)).2) = _
      rw [where_rest]
      simp only [Prod.mk.injEq, and_true]
      omega
theorem startI_cons (x : Int) (L : List Int) (i : Nat) : startI (x :: L) (i + 1) = (x + 1) + startI L i := by
  unfold startI
  rw [List.take_succ_cons, List.map_cons, List.sum_cons]
theorem symD_length (ds : List Doc) : ((symD ds).length : Int) = startI (lensD ds) ds.length := by
  induction ds with
  | nil => simp [symD, lensD, startI]
  | cons d ds ih =>
    rw [symD_cons, List.length_append, bytesN_len, List.length_cons]
    rw [show lensD (d :: ds) = (d.text.size : Int) :: lensD ds from rfl, List.length_cons, startI_cons, ← ih]
    omega
theorem where_at : ∀ (ds : List Doc) (v : Nat), v < (symD ds).length → (whereD ds v).1 < ds.length ∧ startI (lensD ds) (whereD ds v).1 ≤ (v : Int) ∧ (v : Int) < startI (lensD ds) ((whereD ds v).1 + 1) ∧ ((whereD ds v).2 : Int) = (v : Int) - startI (lensD ds) (whereD ds v).1
  | [], v, h => by simp [symD] at h
  | d :: ds, v, h => by
    have hl : lensD (d :: ds) = (d.text.size : Int) :: lensD ds := rfl
    by_cases hv : v ≤ d.text.size
    · rw [where_first hv, hl]
      dsimp only
      have h0 : startI ((d.text.size : Int) :: lensD ds) 0 = 0 := startI_zero _
      have h1 : startI ((d.text.size : Int) :: lensD ds) (0 + 1) = (d.text.size : Int) + 1 := by rw [startI_cons, startI_zero]; omega
      rw [h0, h1]
      refine ⟨by simp, by omega, by omega, by omega⟩
    · obtain ⟨u, rfl⟩ : ∃ u, v = d.text.size + 1 + u := ⟨v - d.text.size - 1, by omega⟩
      have hu : u < (symD ds).length := by
        rw [symD_cons, List.length_append, List.length_cons, bytesN_len] at h
        omega
      obtain ⟨h1, h2, h3, h4⟩ := where_at ds u hu
      rw [where_rest, hl]
      dsimp only
      rw [startI_cons, startI_cons]
      refine ⟨by simp; omega, by omega, by omega, by omega⟩
end Lec.Sg
