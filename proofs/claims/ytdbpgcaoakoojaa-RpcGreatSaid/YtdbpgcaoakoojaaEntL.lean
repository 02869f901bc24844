/- Entries and logs: how they read; what follows what. No program stands here. -/
import Derived.Test.YtdbpgcaoakoojaaRead
set_option linter.unusedVariables false
set_option linter.unusedSimpArgs false
namespace Lec
open Go Go.RowKit
/-- An entry: its index, its term, its data. -/
abbrev Ent := Int × Int × ByteArray
def entC (e : Ent) : List Value := [.int .i64 e.1, .int .i64 e.2.1, .string e.2.2]
def entV (e : Ent) : Value := .agg #[.int .i64 e.1, .int .i64 e.2.1, .string e.2.2]
def entsC (es : List Ent) : List Value := es.flatMap entC
theorem entsC_len (es : List Ent) : (entsC es).length = es.length * 3 := by
  induction es with
  | nil => rfl
  | cons e es ih => rw [show entsC (e :: es) = entC e ++ entsC es from rfl, List.length_append, ih]; simp [entC]; omega
theorem entsC_app (xs ys : List Ent) : entsC (xs ++ ys) = entsC xs ++ entsC ys := by simp [entsC]
theorem entsC_at : ∀ (es : List Ent) (i j : Nat) (h : i < es.length), j < 3 → (entsC es)[i * 3 + j]? = (entC es[i])[j]?
  | e :: es, 0, j, h, hj => by
    show (entC e ++ entsC es)[0 * 3 + j]? = _
    rw [List.getElem?_append_left (by simp [entC]; omega)]; simp
  | e :: es, i + 1, j, h, hj => by
    show (entC e ++ entsC es)[(i + 1) * 3 + j]? = _
    rw [List.getElem?_append_right (by simp [entC]; omega)]
    have := entsC_at es i j (by simpa using h) hj
    rw [show (i + 1) * 3 + j - (entC e).length = i * 3 + j by simp [entC]; omega, this]; simp
/-- The three cells of one. -/
theorem ents_cells {w : World} {A : Option Addr} {es : List Ent} (h : Rds w A (entsC es)) (i : Nat) (hi : i < es.length) :
    ∃ a, A = some a ∧ w.cell? (a.add (i * 3)) = some (.int .i64 es[i].1) ∧ w.cell? ⟨(a.add (i * 3)).block, (a.add (i * 3)).off + 1, none⟩ = some (.int .i64 es[i].2.1) ∧
      w.cell? ⟨(a.add (i * 3)).block, (a.add (i * 3)).off + 2, none⟩ = some (.string es[i].2.2) := by
  obtain ⟨a, e0, c0⟩ := h (i * 3 + 0) _ (by rw [entsC_at es i 0 hi (by omega)]; rfl)
  obtain ⟨a1, e1, c1⟩ := h (i * 3 + 1) _ (by rw [entsC_at es i 1 hi (by omega)]; rfl)
  obtain ⟨a2, e2, c2⟩ := h (i * 3 + 2) _ (by rw [entsC_at es i 2 hi (by omega)]; rfl)
  obtain rfl : a = a1 := Option.some.inj (e0.symm.trans e1)
  obtain rfl : a = a2 := Option.some.inj (e0.symm.trans e2)
  refine ⟨a, e0, c0, ?_, ?_⟩
  · rw [← add_fld _ _ _ (by omega)]; exact c1
  · rw [← add_fld _ _ _ (by omega)]; exact c2
abbrev EntRep : Rep Ent := Rep.pair (Rep.int .i64) (Rep.pair (Rep.int .i64) Rep.str)
theorem ents_row {w : World} {A : Option Addr} {es : List Ent} (h : Row EntRep w A es) : Rds w A (entsC es) := by
  intro k v hv
  have hk : k < es.length * 3 := by rw [← entsC_len]; exact (List.getElem?_eq_some_iff.1 hv).1
  have hi : k / 3 < es.length := by omega
  rw [show k = k / 3 * 3 + k % 3 by omega, entsC_at es _ _ hi (by omega)] at hv
  obtain ⟨a, cs, e, hl, hc, c1, c2, rfl, _, ⟨rfl, _⟩, d1, d2, rfl, _, ⟨rfl, _⟩, rfl, _⟩ := h (k / 3) hi
  refine ⟨a, e, ?_⟩
  have := hc (k % 3) v hv
  rwa [show k / 3 * EntRep.n + k % 3 = k from by show k / 3 * 3 + k % 3 = k; omega] at this
theorem ents_wf {w : World} {A : Option Addr} {es : List Ent} (h : Row EntRep w A es) : ∀ e ∈ es, (-9223372036854775808 ≤ e.1 ∧ e.1 ≤ 9223372036854775807) ∧ (-9223372036854775808 ≤ e.2.1 ∧ e.2.1 ≤ 9223372036854775807) ∧ e.2.2.size ≤ reachBytes := by
  intro e he
  obtain ⟨i, hi, rfl⟩ := List.getElem_of_mem he
  obtain ⟨a, cs, _, _, _, c1, c2, rfl, _, ⟨_, h1⟩, d1, d2, rfl, _, ⟨_, h2⟩, _, h3⟩ := h i hi
  simp [Lit.wf, IntKind.min, IntKind.max, IntKind.bits, IntKind.signed] at h1 h2
  exact ⟨by omega, by omega, h3⟩

/-- May it be, by itself? -/
def goodE (e : Ent) : Prop := 1 ≤ e.1 ∧ e.1 ≤ 1099511627776 ∧ 0 ≤ e.2.1 ∧ e.2.1 ≤ 1099511627775 ∧ e.2.2.size ≤ 4096
instance (e : Ent) : Decidable (goodE e) := by unfold goodE; infer_instance
/-- Entries from behind an index on, terms not falling. -/
def runsE : Int → Int → List Ent → Prop
  | _, _, [] => True
  | i, t, e :: es => goodE e ∧ e.1 = i + 1 ∧ t ≤ e.2.1 ∧ runsE e.1 e.2.1 es
instance decRuns : ∀ (i t : Int) (es : List Ent), Decidable (runsE i t es)
  | _, _, [] => .isTrue trivial
  | i, t, e :: es => by
    unfold runsE
    have := decRuns e.1 e.2.1 es
    infer_instance
/-- Where they end. -/
def endE (i t : Int) (es : List Ent) : Int × Int := match es.getLast? with | some e => (e.1, e.2.1) | none => (i, t)
theorem endE_nil (i t : Int) : endE i t [] = (i, t) := rfl
theorem endE_cons (i t : Int) (e : Ent) (es : List Ent) : endE i t (e :: es) = endE e.1 e.2.1 es := by
  unfold endE; rw [List.getLast?_cons]; cases es.getLast? <;> rfl
theorem endE_snoc (i t : Int) (es : List Ent) (e : Ent) : endE i t (es ++ [e]) = (e.1, e.2.1) := by unfold endE; simp
theorem runsE_snoc : ∀ (i t : Int) (es : List Ent) (e : Ent), runsE i t (es ++ [e]) ↔ runsE i t es ∧ goodE e ∧ e.1 = (endE i t es).1 + 1 ∧ (endE i t es).2 ≤ e.2.1
  | i, t, [], e => by simp [runsE, endE]
  | i, t, x :: es, e => by
    have h := runsE_snoc x.1 x.2.1 es e
    have he : endE i t (x :: es) = endE x.1 x.2.1 es := endE_cons i t x es
    rw [he]
    show (goodE x ∧ x.1 = i + 1 ∧ t ≤ x.2.1 ∧ runsE x.1 x.2.1 (es ++ [e])) ↔ _
    rw [h]
    show _ ↔ (goodE x ∧ x.1 = i + 1 ∧ t ≤ x.2.1 ∧ runsE x.1 x.2.1 es) ∧ _
    constructor
    · rintro ⟨a, b, c, d, e⟩; exact ⟨⟨a, b, c, d⟩, e⟩
    · rintro ⟨⟨a, b, c, d⟩, e⟩; exact ⟨a, b, c, d, e⟩
theorem runsE_app : ∀ (i t : Int) (xs ys : List Ent), runsE i t (xs ++ ys) ↔ runsE i t xs ∧ runsE (endE i t xs).1 (endE i t xs).2 ys
  | i, t, [], ys => by simp [runsE, endE]
  | i, t, x :: xs, ys => by
    have h := runsE_app x.1 x.2.1 xs ys
    have he : endE i t (x :: xs) = endE x.1 x.2.1 xs := endE_cons i t x xs
    rw [he]
    show (goodE x ∧ x.1 = i + 1 ∧ t ≤ x.2.1 ∧ runsE x.1 x.2.1 (xs ++ ys)) ↔ (goodE x ∧ x.1 = i + 1 ∧ t ≤ x.2.1 ∧ runsE x.1 x.2.1 xs) ∧ _
    rw [h]
    constructor
    · rintro ⟨a, b, c, d, e⟩; exact ⟨⟨a, b, c, d⟩, e⟩
    · rintro ⟨⟨a, b, c, d⟩, e⟩; exact ⟨a, b, c, d, e⟩
theorem endE_app (i t : Int) (xs ys : List Ent) : endE i t (xs ++ ys) = endE (endE i t xs).1 (endE i t xs).2 ys := by
  rcases List.eq_nil_or_concat ys with rfl | ⟨zs, z, rfl⟩
  · simp [endE_nil]
  · rw [List.concat_eq_append, ← List.append_assoc, endE_snoc, endE_snoc]
theorem runsE_at : ∀ (i t : Int) (es : List Ent), runsE i t es → ∀ (k : Nat) (h : k < es.length), es[k].1 = i + 1 + k ∧ goodE es[k]
  | i, t, e :: es, h, 0, hk => ⟨by simpa using h.2.1, h.1⟩
  | i, t, e :: es, h, k + 1, hk => by
    have := runsE_at e.1 e.2.1 es h.2.2.2 k (by simpa using hk)
    have h2 := h.2.1
    refine ⟨?_, this.2⟩
    have hk' : k < es.length := by simpa using hk
    show (es[k]'hk').1 = _
    rw [this.1, h2]; omega
theorem runsE_end (i t : Int) (es : List Ent) (h : runsE i t es) : (endE i t es).1 = i + es.length := by
  rcases List.eq_nil_or_concat es with rfl | ⟨zs, z, rfl⟩
  · simp [endE_nil]
  · rw [List.concat_eq_append] at h ⊢
    rw [endE_snoc]
    have := (runsE_at i t _ h zs.length (by simp)).1
    simp at this ⊢
    rw [this]; omega
/-- May a log be? -/
def mayL (b t : Int) (es : List Ent) : Prop := 0 ≤ b ∧ b ≤ 1099511625728 ∧ 0 ≤ t ∧ t ≤ 1099511627775 ∧ es.length ≤ 512 ∧ runsE b t es
instance (b t : Int) (es : List Ent) : Decidable (mayL b t es) := by unfold mayL; infer_instance
end Lec
