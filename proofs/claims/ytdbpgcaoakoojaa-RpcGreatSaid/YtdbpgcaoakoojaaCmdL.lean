/- Commands: what one is, what its bytes are. Plain; and a command in memory. -/
import Derived.Test.YtdbpgcaoakoojaaBackL
set_option linter.unusedVariables false
set_option linter.unusedSimpArgs false
namespace Lec
open Go Go.RowKit
/-- A command: its kind, the session's number, the request's, an ID, a text. -/
abbrev Cmd := Int × Int × Int × ByteArray × ByteArray
def cmdV (c : Cmd) : Value := .agg #[.int .i64 c.1, .int .i64 c.2.1, .int .i64 c.2.2.1, .string c.2.2.2.1, .string c.2.2.2.2]
def noC : Cmd := (0, 0, 0, ⟨#[]⟩, ⟨#[]⟩)
def idN (n : Int) : Bool := decide (1 ≤ n ∧ n < 1099511627776)
/-- May it be? -/
def mayC (c : Cmd) : Prop := (c.1 = 1 ∧ c.2.1 = 0 ∧ c.2.2.1 = 0 ∧ c.2.2.2.1 = ⟨#[]⟩ ∧ c.2.2.2.2 = ⟨#[]⟩) ∨
  ((2 ≤ c.1 ∧ c.1 ≤ 4) ∧ idN c.2.1 = true ∧ idN c.2.2.1 = true ∧ (c.1 = 4 → c.2.2.2.1 = ⟨#[]⟩) ∧ (c.1 ≠ 2 → c.2.2.2.2 = ⟨#[]⟩) ∧ c.2.2.2.1.size ≤ 2048 ∧ c.2.2.2.1.size + c.2.2.2.2.size ≤ 2048)
instance (c : Cmd) : Decidable (mayC c) := by unfold mayC; infer_instance
/-- A number, read out of a whole text. -/
def readS (s : ByteArray) : Option Nat := match getB 0 0 (sb s) with
  | some (n, k) => if k = s.size then some n else none
  | none => none
def numS (n : Int) : ByteArray := bytesOf (numB n.toNat)
def bytesC (c : Cmd) : List UInt8 := putB [numS c.1, numS c.2.1, numS c.2.2.1, c.2.2.2.1, c.2.2.2.2]
def parseL : List ByteArray → Option Cmd
  | [a, b, c, d, e] => match readS a, readS b, readS c with
    | some x, some y, some z => if mayC ((x : Int), (y : Int), (z : Int), d, e) then some ((x : Int), (y : Int), (z : Int), d, e) else none
    | _, _, _ => none
  | _ => none
def parseC (bs : List UInt8) : Option Cmd := (getL bs).bind parseL
theorem readS_split {s : ByteArray} {n : Nat} (h : readS s = some n) : s = numS n := by
  unfold readS at h
  cases hg : getB 0 0 (sb s) with
  | none => rw [hg] at h; cases h
  | some x =>
    obtain ⟨m, k⟩ := x
    rw [hg] at h
    dsimp only at h
    split at h
    · next hk =>
      obtain rfl := Option.some.inj h
      have := (numB_getB (sb s) 0 0 _ _ (by omega) (by omega) hg).1
      simp at this
      unfold numS
      rw [Int.toNat_natCast, this, List.take_of_length_le (by rw [sb_len]; omega), bytesOf_sb]
    · cases h
theorem readS_lt {s : ByteArray} {n : Nat} (h : readS s = some n) : n < 9223372036854775808 := by
  unfold readS at h
  cases hg : getB 0 0 (sb s) with
  | none => rw [hg] at h; cases h
  | some x =>
    obtain ⟨m, k⟩ := x
    rw [hg] at h
    dsimp only at h
    split at h
    · obtain rfl := Option.some.inj h
      have := getB_bound _ 0 0 _ _ (by omega) (by omega) hg
      have h2 : (128 : Nat) ^ k ≤ 128 ^ 9 := Nat.pow_le_pow_right (by omega) this.2.2.1
      have h3 := this.1
      omega
    · cases h
theorem parse_split {bs : List UInt8} {c : Cmd} (h : parseC bs = some c) : bytesC c = bs ∧ mayC c := by
  unfold parseC at h
  cases hl : getL bs with
  | none => rw [hl] at h; cases h
  | some l =>
    rw [hl] at h
    have hs := getL_split hl
    match l, h with
    | [a, b, x, d, e], h =>
      simp only [Option.bind_some, parseL] at h
      cases ha : readS a with
      | none => rw [ha] at h; cases h
      | some na =>
        cases hb : readS b with
        | none => rw [ha, hb] at h; cases h
        | some nb =>
          cases hx : readS x with
          | none => rw [ha, hb, hx] at h; cases h
          | some nx =>
            rw [ha, hb, hx] at h
            dsimp only at h
            split at h
            · next hm =>
              obtain rfl := Option.some.inj h
              refine ⟨?_, hm⟩
              rw [hs]
              unfold bytesC
              dsimp only
              rw [← readS_split ha, ← readS_split hb, ← readS_split hx]
            · cases h
/-- A command in memory: five cells that may be written. -/
structure Cm (w : World) (p : Nat) (c : Cmd) : Prop where
  c0 : w.cell? ⟨p, 0, none⟩ = some (.int .i64 c.1)
  c1 : w.cell? ⟨p, 1, none⟩ = some (.int .i64 c.2.1)
  c2 : w.cell? ⟨p, 2, none⟩ = some (.int .i64 c.2.2.1)
  c3 : w.cell? ⟨p, 3, none⟩ = some (.string c.2.2.2.1)
  c4 : w.cell? ⟨p, 4, none⟩ = some (.string c.2.2.2.2)
  f0 : w.frozen? ⟨p, 0, none⟩ = false
  f1 : w.frozen? ⟨p, 1, none⟩ = false
  f2 : w.frozen? ⟨p, 2, none⟩ = false
  f3 : w.frozen? ⟨p, 3, none⟩ = false
  f4 : w.frozen? ⟨p, 4, none⟩ = false
  lt : p < w.heap.size
theorem Cm.ext {w w' : World} {p : Nat} {c : Cmd} {B : Nat} (h : Cm w p c) (hb : Below B w w') (hB : w.heap.size ≤ B) : Cm w' p c :=
  ⟨cell_ext hb hB h.c0, cell_ext hb hB h.c1, cell_ext hb hB h.c2, cell_ext hb hB h.c3, cell_ext hb hB h.c4,
   (hb.frozen (p := ⟨p, 0, none⟩) (Nat.lt_of_lt_of_le h.lt hB)).trans h.f0, (hb.frozen (p := ⟨p, 1, none⟩) (Nat.lt_of_lt_of_le h.lt hB)).trans h.f1, (hb.frozen (p := ⟨p, 2, none⟩) (Nat.lt_of_lt_of_le h.lt hB)).trans h.f2,
   (hb.frozen (p := ⟨p, 3, none⟩) (Nat.lt_of_lt_of_le h.lt hB)).trans h.f3, (hb.frozen (p := ⟨p, 4, none⟩) (Nat.lt_of_lt_of_le h.lt hB)).trans h.f4, Nat.lt_of_lt_of_le h.lt hb.size⟩
theorem Cm.new (w : World) (c : Cmd) (T : TypeId) : Cm (w.alloc (.cells #[.int .i64 c.1, .int .i64 c.2.1, .int .i64 c.2.2.1, .string c.2.2.2.1, .string c.2.2.2.2] T)) w.heap.size c := by
  have h := heap_alloc_new w (.cells #[.int .i64 c.1, .int .i64 c.2.1, .int .i64 c.2.2.1, .string c.2.2.2.1, .string c.2.2.2.2] T (0, 0))
  refine ⟨?_, ?_, ?_, ?_, ?_, ?_, ?_, ?_, ?_, ?_, by simp⟩
  all_goals first | (rw [cell_of_row _ _ _ _ _ _ h]; rfl) | (unfold World.frozen?; rw [h]; rfl)
theorem Cm.set0 {w : World} {p : Nat} {c : Cmd} (h : Cm w p c) (u : Int) : Cm (w.setCell ⟨p, 0, none⟩ (.int .i64 u)) p (u, c.2) :=
  ⟨cell_set_self _ h.c0, (cell_set_off _ (by decide)).trans h.c1, (cell_set_off _ (by decide)).trans h.c2, (cell_set_off _ (by decide)).trans h.c3, (cell_set_off _ (by decide)).trans h.c4, (frozen_set _).trans h.f0, (frozen_set _).trans h.f1, (frozen_set _).trans h.f2, (frozen_set _).trans h.f3, (frozen_set _).trans h.f4, by simpa using h.lt⟩
theorem Cm.set1 {w : World} {p : Nat} {c : Cmd} (h : Cm w p c) (u : Int) : Cm (w.setCell ⟨p, 1, none⟩ (.int .i64 u)) p (c.1, u, c.2.2) :=
  ⟨(cell_set_off _ (by decide)).trans h.c0, cell_set_self _ h.c1, (cell_set_off _ (by decide)).trans h.c2, (cell_set_off _ (by decide)).trans h.c3, (cell_set_off _ (by decide)).trans h.c4, (frozen_set _).trans h.f0, (frozen_set _).trans h.f1, (frozen_set _).trans h.f2, (frozen_set _).trans h.f3, (frozen_set _).trans h.f4, by simpa using h.lt⟩
theorem Cm.set2 {w : World} {p : Nat} {c : Cmd} (h : Cm w p c) (u : Int) : Cm (w.setCell ⟨p, 2, none⟩ (.int .i64 u)) p (c.1, c.2.1, u, c.2.2.2) :=
  ⟨(cell_set_off _ (by decide)).trans h.c0, (cell_set_off _ (by decide)).trans h.c1, cell_set_self _ h.c2, (cell_set_off _ (by decide)).trans h.c3, (cell_set_off _ (by decide)).trans h.c4, (frozen_set _).trans h.f0, (frozen_set _).trans h.f1, (frozen_set _).trans h.f2, (frozen_set _).trans h.f3, (frozen_set _).trans h.f4, by simpa using h.lt⟩
theorem Cm.set3 {w : World} {p : Nat} {c : Cmd} (h : Cm w p c) (u : ByteArray) : Cm (w.setCell ⟨p, 3, none⟩ (.string u)) p (c.1, c.2.1, c.2.2.1, u, c.2.2.2.2) :=
  ⟨(cell_set_off _ (by decide)).trans h.c0, (cell_set_off _ (by decide)).trans h.c1, (cell_set_off _ (by decide)).trans h.c2, cell_set_self _ h.c3, (cell_set_off _ (by decide)).trans h.c4, (frozen_set _).trans h.f0, (frozen_set _).trans h.f1, (frozen_set _).trans h.f2, (frozen_set _).trans h.f3, (frozen_set _).trans h.f4, by simpa using h.lt⟩
theorem Cm.set4 {w : World} {p : Nat} {c : Cmd} (h : Cm w p c) (u : ByteArray) : Cm (w.setCell ⟨p, 4, none⟩ (.string u)) p (c.1, c.2.1, c.2.2.1, c.2.2.2.1, u) :=
  ⟨(cell_set_off _ (by decide)).trans h.c0, (cell_set_off _ (by decide)).trans h.c1, (cell_set_off _ (by decide)).trans h.c2, (cell_set_off _ (by decide)).trans h.c3, cell_set_self _ h.c4, (frozen_set _).trans h.f0, (frozen_set _).trans h.f1, (frozen_set _).trans h.f2, (frozen_set _).trans h.f3, (frozen_set _).trans h.f4, by simpa using h.lt⟩
theorem Cm.drew {w : World} {p : Nat} {c : Cmd} (h : Cm w p c) : Cm w.drew p c := ⟨h.c0, h.c1, h.c2, h.c3, h.c4, h.f0, h.f1, h.f2, h.f3, h.f4, h.lt⟩
theorem below_drew {B : Nat} {w w' : World} (h : Below B w w') : Below B w w'.drew := ⟨h.os, h.tape, h.output, h.size, h.block⟩
theorem Cm.far {w : World} {p q o : Nat} {c : Cmd} (h : Cm w p c) (u : Value) (hq : p ≠ q) : Cm (w.setCell ⟨q, o, none⟩ u) p c :=
  ⟨(cell_set_far u hq).trans h.c0, (cell_set_far u hq).trans h.c1, (cell_set_far u hq).trans h.c2, (cell_set_far u hq).trans h.c3, (cell_set_far u hq).trans h.c4, (frozen_set u).trans h.f0, (frozen_set u).trans h.f1, (frozen_set u).trans h.f2, (frozen_set u).trans h.f3, (frozen_set u).trans h.f4, by simpa using h.lt⟩
end Lec
