/- Messages, plain: their texts, how they are read, which may be. -/
import Derived.Test.YtdbpgcaoakoojaaEntL
import Derived.Test.YtdbpgcaoakoojaaCmdN
import Derived.Test.YtdbpgcaoakoojaaSeal
set_option linter.unusedVariables false
set_option linter.unusedSimpArgs false
namespace Lec
open Go Go.RowKit
structure Rpc where
  knd : Int
  frm : Int
  tto : Int
  trm : Int
  idx : Int
  lgt : Int
  com : Int
  rnd : Int
  ok : Bool
  ents : List Ent
  att : Int
  dat : ByteArray
  don : Bool
def noR : Rpc := ⟨0, 0, 0, 0, 0, 0, 0, 0, false, [], 0, ⟨#[]⟩, false⟩
def bitI (b : Bool) : Int := if b then 1 else 0
def numsR (m : Rpc) : List Int := [m.knd, m.frm, m.tto, m.trm, m.idx, m.lgt, m.com, m.rnd, m.att, bitI m.ok, bitI m.don]
def entT (e : Ent) : List ByteArray := [numS e.1, numS e.2.1, e.2.2]
def entsTx (es : List Ent) : List ByteArray := es.flatMap entT
def textsR (m : Rpc) : List ByteArray := (numsR m).map numS ++ m.dat :: entsTx m.ents
def layR (m : Rpc) : Option (List UInt8) := if (putB (textsR m)).length ≤ 1048576 then some (putB (textsR m) ++ be4 (csum 0 (putB (textsR m)))) else none
/-- What is left to be read, and whether something was wrong. -/
abbrev St := List ByteArray × Bool
def nextT : St → ByteArray × St
  | (s :: l, false) => (s, (l, false))
  | (l, _) => (⟨#[]⟩, (l, true))
def numT (st : St) : Int × St := ((rdB (nextT st).1).1, ((nextT st).2.1, (nextT st).2.2 || !(rdB (nextT st).1).2))
def numsT : Nat → St → List Int × St
  | 0, st => ([], st)
  | k + 1, st => ((numsT k st).1 ++ [(numT (numsT k st).2).1], (numT (numsT k st).2).2)
theorem numsT_len (k : Nat) (st : St) : (numsT k st).1.length = k := by
  induction k with
  | zero => rfl
  | succ k ih => rw [numsT, List.length_append, ih]; rfl
def entOne (st : St) : Ent × St := (((numsT 2 st).1.getD 0 0, (numsT 2 st).1.getD 1 0, (nextT (numsT 2 st).2).1), (nextT (numsT 2 st).2).2)
def entsT : Nat → St → List Ent × St
  | 0, st => ([], st)
  | f + 1, st => if st.1.isEmpty || st.2 then ([], st) else ((entOne st).1 :: (entsT f (entOne st).2).1, (entsT f (entOne st).2).2)
def msgOf (xs : List Int) (d : ByteArray) (es : List Ent) : Rpc :=
  ⟨xs.getD 0 0, xs.getD 1 0, xs.getD 2 0, xs.getD 3 0, xs.getD 4 0, xs.getD 5 0, xs.getD 6 0, xs.getD 7 0, xs.getD 9 0 == 1, es, xs.getD 8 0, d, xs.getD 10 0 == 1⟩
def msgT (st : St) : Rpc × St :=
  (msgOf (numsT 11 st).1 (nextT (numsT 11 st).2).1 (entsT (nextT (numsT 11 st).2).2.1.length (nextT (numsT 11 st).2).2).1, (entsT (nextT (numsT 11 st).2).2.1.length (nextT (numsT 11 st).2).2).2)
theorem nextT_le (st : St) : (nextT st).2.1.length ≤ st.1.length := by
  obtain ⟨l, b⟩ := st
  cases l with
  | nil => cases b <;> exact Nat.le_refl _
  | cons s l => cases b <;> simp [nextT]
theorem numT_le (st : St) : (numT st).2.1.length ≤ st.1.length := nextT_le st
theorem numsT_le (k : Nat) (st : St) : (numsT k st).2.1.length ≤ st.1.length := by
  induction k with
  | zero => exact Nat.le_refl _
  | succ k ih => exact Nat.le_trans (numT_le _) ih
theorem entOne_lt {st : St} (h : ¬ (st.1.isEmpty || st.2) = true) : (entOne st).2.1.length < st.1.length := by
  obtain ⟨l, b⟩ := st
  cases l with
  | nil => exact absurd rfl h
  | cons s l =>
    cases b with
    | true => exact absurd (by simp) h
    | false =>
      refine Nat.lt_of_le_of_lt (nextT_le _) ?_
      refine Nat.lt_of_le_of_lt (numT_le _) ?_
      show l.length < _
      simp
/-- What is read back. -/
theorem numT_numS {n : Int} (h : 0 ≤ n ∧ n < 9223372036854775808) (l : List ByteArray) : numT (numS n :: l, false) = (n, (l, false)) := by
  obtain ⟨k, rfl⟩ := Int.eq_ofNat_of_zero_le h.1
  have hr : readS (numS (k : Int)) = some k := by
    unfold readS numS
    rw [sb_bytesOf, bytesOf_size, Int.toNat_natCast]
    have := getB_numB k 0 0 [] (by have := numB_len9 (n := k) (by omega); omega) (by omega)
    simp at this
    rw [this]
    simp
  unfold numT nextT
  dsimp only
  rw [rdB_some hr]
  rfl
theorem numsT_numS (xs : List Int) : (∀ x ∈ xs, 0 ≤ x ∧ x < 9223372036854775808) → ∀ (k : Nat), k ≤ xs.length → ∀ l : List ByteArray, numsT k (xs.map numS ++ l, false) = (xs.take k, ((xs.drop k).map numS ++ l, false)) := by
  intro h k
  induction k with
  | zero => intro _ l; simp [numsT]
  | succ k ih =>
    intro hk l
    have hk' : k < xs.length := by omega
    rw [numsT, ih (by omega) l]
    dsimp only
    rw [List.drop_eq_getElem_cons hk', List.map_cons, List.cons_append, numT_numS (h _ (List.getElem_mem hk')), List.take_succ_eq_append_getElem hk']
theorem entsT_texts : ∀ (es : List Ent), (∀ e ∈ es, (0 ≤ e.1 ∧ e.1 < 9223372036854775808) ∧ (0 ≤ e.2.1 ∧ e.2.1 < 9223372036854775808)) → ∀ f, es.length ≤ f → entsT f (entsTx es, false) = (es, ([], false))
  | [], _, f, _ => by cases f <;> rfl
  | e :: es, h, 0, hf => by simp at hf
  | e :: es, h, f + 1, hf => by
    have h1 := (h e (by simp)).1
    have h2 := (h e (by simp)).2
    have hn := numsT_numS [e.1, e.2.1] (by intro x hx; simp at hx; rcases hx with rfl | rfl; exact h1; exact h2) 2 (by simp) (e.2.2 :: entsTx es)
    have ho : entOne (entsTx (e :: es), false) = (e, (entsTx es, false)) := by
      unfold entOne
      rw [show entsTx (e :: es) = [e.1, e.2.1].map numS ++ (e.2.2 :: entsTx es) from rfl, hn]
      rfl
    rw [entsT, if_neg (by simp [entsTx, entT]), ho]
    dsimp only
    rw [entsT_texts es (fun x hx => h x (by simp [hx])) f (by simp at hf; omega)]
theorem entsTx_len (es : List Ent) : (entsTx es).length = es.length * 3 := by
  induction es with
  | nil => rfl
  | cons e es ih => rw [show entsTx (e :: es) = entT e ++ entsTx es from rfl, List.length_append, ih]; simp [entT]; omega
/-- Numbers that can be laid. -/
def layable (m : Rpc) : Prop := (∀ x ∈ numsR m, 0 ≤ x ∧ x < 9223372036854775808) ∧ (∀ e ∈ m.ents, (0 ≤ e.1 ∧ e.1 < 9223372036854775808) ∧ (0 ≤ e.2.1 ∧ e.2.1 < 9223372036854775808))
theorem msgT_texts {m : Rpc} (h : layable m) : msgT (textsR m, false) = (m, ([], false)) := by
  have hn := numsT_numS (numsR m) h.1 11 (by simp [numsR]) (m.dat :: entsTx m.ents)
  have hd : (numsR m).drop 11 = [] := rfl
  have ht : (numsR m).take 11 = numsR m := rfl
  rw [hd, ht] at hn
  unfold msgT
  rw [show textsR m = (numsR m).map numS ++ (m.dat :: entsTx m.ents) from rfl, hn]
  have hx : nextT ([].map numS ++ (m.dat :: entsTx m.ents), false) = (m.dat, (entsTx m.ents, false)) := rfl
  dsimp only
  rw [hx]
  dsimp only
  rw [entsT_texts m.ents h.2 _ (by rw [entsTx_len]; omega)]
  obtain ⟨a1, a2, a3, a4, a5, a6, a7, a8, ok, es, a9, dt, dn⟩ := m
  cases ok <;> cases dn <;> rfl
end Lec
