/- What the law EntriesExact keeps in mind: logs in boxes, and what is told of any log. -/
import Derived.Test.YtpdnkhdnenibgaaEntZ
import Derived.Test.YtpdnkhdnenibgaaEntX
import Derived.Test.YtpdnkhdnenibgaaEntY
import Derived.Test.YtpdnkhdnenibgaaSpoilE
import Derived.Test.YtpdnkhdnenibgaaAskR23
set_option linter.unusedVariables false
set_option linter.unusedSimpArgs false
namespace Lec
open Go Go.RowKit
/-- A box with a log whose entries lie from K + 3 on. -/
def Slot (w : World) (p K : Nat) (r : Int × Int × List Ent) : Prop := ∃ (A : Option Addr) (c : Nat), Lg w p r.1 r.2.1 (.slice A r.2.2.length c) ∧ Rds w A (entsC r.2.2) ∧ ∀ a, A = some a → K + 3 ≤ a.block
theorem Slot.ext {w w' : World} {p K B : Nat} {r : Int × Int × List Ent} (h : Slot w p K r) (hb : Below B w w') (hB : w.heap.size ≤ B) : Slot w' p K r := by
  obtain ⟨A, c, h1, h2, h3⟩ := h
  exact ⟨A, c, h1.ext hb hB, h2.ext hb hB, h3⟩
theorem Lg.put_far {w : World} {p q : Nat} {b t : Int} {v : Value} (h : Lg w p b t v) (hq : p ≠ q) (b' t' : Int) (v' : Value) : Lg (put3 w q b' t' v') p b t v := ((h.far _ hq).far _ hq).far _ hq
theorem Slot.far {w : World} {p q K : Nat} {r : Int × Int × List Ent} (h : Slot w p K r) (hq : p ≠ q) (hK : q < K + 3) (b' t' : Int) (v' : Value) : Slot (put3 w q b' t' v') p K r := by
  obtain ⟨A, c, h1, h2, h3⟩ := h
  exact ⟨A, c, h1.put_far hq _ _ _, rds_put h2 (fun a ha => by have := h3 a ha; omega), h3⟩
theorem Slot.put {w : World} {p K : Nat} {r : Int × Int × List Ent} (h : Slot w p K r) (hp : p < K + 3) (b' t' : Int) (A : Option Addr) (c : Nat) (L : List Ent) (hr : Rds w A (entsC L)) (hA : ∀ a, A = some a → K + 3 ≤ a.block) : Slot (put3 w p b' t' (.slice A L.length c)) p K (b', t', L) := by
  obtain ⟨A0, c0, h1, _, _⟩ := h
  exact ⟨A, c, h1.put b' t' _, rds_put hr (fun a ha => by have := hA a ha; omega), hA⟩
/-- A part of a log that lies from K + 3 on. -/
def Part (w : World) (K : Nat) (v : Value) (L : List Ent) : Prop := ∃ (A : Option Addr) (c : Nat), v = .slice A L.length c ∧ Rds w A (entsC L) ∧ ∀ a, A = some a → K + 3 ≤ a.block
theorem Part.ext {w w' : World} {K B : Nat} {v : Value} {L : List Ent} (h : Part w K v L) (hb : Below B w w') (hB : w.heap.size ≤ B) : Part w' K v L := by
  obtain ⟨A, c, h1, h2, h3⟩ := h
  exact ⟨A, c, h1, h2.ext hb hB, h3⟩
theorem Part.far {w : World} {q K : Nat} {v : Value} {L : List Ent} (h : Part w K v L) (hK : q < K + 3) (b' t' : Int) (v' : Value) : Part (put3 w q b' t' v') K v L := by
  obtain ⟨A, c, h1, h2, h3⟩ := h
  exact ⟨A, c, h1, rds_put h2 (fun a ha => by have := h3 a ha; omega), h3⟩
def formE (b t : Int) (L : List Ent) : Int := if mayL b t L then 0 else 1
def lastX (b t : Int) (L : List Ent) : Int × Int := if mayL b t L then endE b t L else (0, 0)
def termX (b t : Int) (L : List Ent) (i : Int) : Int × Int := if mayL b t L then (match atE b t L i with | some x => (x, 0) | none => (0, 3)) else (0, 1)
def newX (b t : Int) (L : List Ent) (i s : Int) : Bool := if mayL b t L then newE (endE b t L) i s else false
theorem exact_lens (b t : Int) (L Es : List Ent) (i N : Int) (hl : L.length ≤ 600) (he : Es.length ≤ 600) : (appE b t L Es).2.2.1.length ≤ 1200 ∧ (cutE b t L i).2.2.1.length ≤ 600 ∧ (sliceE b t L i N).1.length ≤ 600 ∧ (compE b t L i).2.2.1.length ≤ 600 := by
  refine ⟨?_, ?_, ?_, ?_⟩
  · unfold appE
    split
    · split
      · split
        · show (L ++ Es).length ≤ _; rw [List.length_append]; omega
        · exact Nat.zero_le _
      · exact Nat.zero_le _
    · exact Nat.zero_le _
  · unfold cutE
    split
    · show (L.take _).length ≤ _; rw [List.length_take]; omega
    · exact Nat.zero_le _
  · unfold sliceE
    split
    · split
      · split
        · show ((L.drop _).take _).length ≤ _; rw [List.length_take, List.length_drop]; omega
        · exact Nat.zero_le _
      · exact Nat.zero_le _
    · exact Nat.zero_le _
  · unfold compE
    split
    · show (L.drop _).length ≤ _; rw [List.length_drop]; omega
    · exact Nat.zero_le _
end Lec
namespace Go.Proofs.Ytpdnkhdnenibgaa
open Go.RowKit Lec
theorem Last_all (w : World) (b t : Int) (A : Option Addr) (n c : Nat) (L : List Ent) (hn : L.length = n) (hm : n ≤ 1000000) (hr : Rds w A (entsC L)) :
    Calls Try.prog 21 #[.agg #[.int .i64 b, .int .i64 t, .slice A n c]] w fun r w' => r = .returned (.tuple #[.int .i64 (lastX b t L).1, .int .i64 (lastX b t L).2, .int .i64 (formE b t L)]) ∧ Below w.heap.size w w' := by
  unfold lastX formE
  by_cases h : mayL b t L
  · rw [if_pos h, if_pos h]; exact Last_any w b t A n c L hn (by omega) hr h
  · rw [if_neg h, if_neg h]; exact Last_no w b t A n c L hn (by omega) hr h
theorem Term_all (w : World) (b t : Int) (A : Option Addr) (n c : Nat) (L : List Ent) (hn : L.length = n) (hm : n ≤ 1000000) (hr : Rds w A (entsC L)) (i : Int) :
    Calls Try.prog 26 #[.agg #[.int .i64 b, .int .i64 t, .slice A n c], .int .i64 i] w fun r w' => r = .returned (.tuple #[.int .i64 (termX b t L i).1, .int .i64 (termX b t L i).2]) ∧ Below w.heap.size w w' := by
  unfold termX
  by_cases h : mayL b t L
  · rw [if_pos h]; exact Term_any w b t A n c L hn hm hr h i
  · rw [if_neg h]; exact Term_no w b t A n c L hn (by omega) hr h i
theorem Newer_all (w : World) (b t : Int) (A : Option Addr) (n c : Nat) (L : List Ent) (hn : L.length = n) (hm : n ≤ 1000000) (hr : Rds w A (entsC L)) (i s : Int) :
    Calls Try.prog 25 #[.agg #[.int .i64 b, .int .i64 t, .slice A n c], .int .i64 i, .int .i64 s] w fun r w' => r = .returned (.tuple #[.bool (newX b t L i s), .int .i64 (formE b t L)]) ∧ Below w.heap.size w w' := by
  unfold newX formE
  by_cases h : mayL b t L
  · rw [if_pos h, if_pos h]; exact Newer_any w b t A n c L hn (by omega) hr h i s
  · rw [if_neg h, if_neg h]; exact Newer_no w b t A n c L hn (by omega) hr h i s
end Go.Proofs.Ytpdnkhdnenibgaa
