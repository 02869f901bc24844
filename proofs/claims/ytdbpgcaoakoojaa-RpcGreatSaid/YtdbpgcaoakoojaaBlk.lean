/- A block that is known whole: its cells as a list. No program stands here. -/
import Derived.Test.YtdbpgcaoakoojaaQuiet
set_option linter.unusedVariables false
set_option linter.unusedSimpArgs false
namespace Lec
open Go Go.RowKit
/-- Numbers as cells. -/
abbrev natsC (xs : List Nat) : List Value := xs.map fun (x : Nat) => Value.int .i64 (x : Int)
abbrev boolsC (bs : List Bool) : List Value := bs.map Value.bool
/-- Block g holds just these cells, and may be written. -/
def Blk (w : World) (g : Nat) (T : TypeId) (xs : List Value) : Prop := w.heap[g]? = some (.cells xs.toArray T (0, 0))
section
variable {w w' : World} {g : Nat} {T : TypeId} {xs : List Value}
theorem Blk.lt (h : Blk w g T xs) : g < w.heap.size := (Array.getElem?_eq_some_iff.1 h).1
theorem Blk.cellE (h : Blk w g T xs) (o : Nat) : w.cell? ⟨g, o, none⟩ = xs[o]? := by
  rw [cell_of_row _ _ _ _ _ _ h]; simp
theorem Blk.cell (h : Blk w g T xs) {o : Nat} {v : Value} (hv : xs[o]? = some v) : w.cell? ⟨g, o, none⟩ = some v := (h.cellE o).trans hv
theorem Blk.froz (h : Blk w g T xs) (o : Nat) : w.frozen? ⟨g, o, none⟩ = false := by
  unfold World.frozen?; rw [h]; simp
theorem Blk.set (h : Blk w g T xs) (o : Nat) (u : Value) : Blk (w.setCell ⟨g, o, none⟩ u) g T (xs.set o u) := by
  unfold Blk World.setCell; simp [Array.getElem?_modify, show w.heap[g]? = _ from h]
theorem Blk.far (h : Blk w g T xs) {q o : Nat} (u : Value) (hq : g ≠ q) : Blk (w.setCell ⟨q, o, none⟩ u) g T xs := (Below.heap_setCell w ⟨q, o, none⟩ u g hq).trans h
theorem Blk.ext {B : Nat} (h : Blk w g T xs) (hb : Below B w w') (hB : w.heap.size ≤ B) : Blk w' g T xs := (hb.block g (Nat.lt_of_lt_of_le h.lt hB)).trans h
theorem Blk.extlt {B : Nat} (h : Blk w g T xs) (hb : Below B w w') (hB : g < B) : Blk w' g T xs := (hb.block g hB).trans h
theorem Blk.grown {row : Option Nat} (h : Blk w g T xs) (hg : w.grownBy w' row) (hne : row ≠ some g) : Blk w' g T xs := (hg.block g h.lt (Ne.symm hne)).trans h
theorem Blk.drew (h : Blk w g T xs) (n : Nat) : Blk (w.drewN n) g T xs := h
theorem Blk.new (w : World) (cs : Array Value) (T : TypeId) : Blk (w.alloc (.cells cs T)) w.heap.size T cs.toList := by
  unfold Blk; rw [heap_alloc_new]
theorem Blk.rds (h : Blk w g T xs) : Rds w (some ⟨g, 0, none⟩) xs := fun i v hv => ⟨_, rfl, by rw [Addr.add_lit, Nat.zero_add]; exact h.cell hv⟩
theorem Blk.own (h : Blk w g T xs) (n base : Nat) (hb : base ≤ g) (hm : n ≤ maxLen) (hl : xs.length = n) : w.ownsRow base T 1 (.slice (some ⟨g, 0, none⟩) n n) n xs :=
  ⟨by omega, .inr ⟨g, n, xs.toArray, rfl, hb, h, Nat.le_refl _, hm, by simp; omega, by rw [Nat.mul_one, ← hl]; simp⟩⟩
theorem Blk.of_own {n : Nat} {base : Nat} (h : w.ownsRow base T 1 (.slice (some ⟨g, 0, none⟩) n n) n xs) : Blk w g T xs := by
  rcases h.2 with ⟨h', _⟩ | ⟨g', cap', cur, h', _, hg, _, _, hcs, htake⟩
  · simp at h'
  · simp only [Value.slice.injEq, Option.some.injEq, Addr.mk.injEq, and_true, true_and] at h'
    obtain ⟨rfl, rfl⟩ := h'
    unfold Blk
    rw [hg, ← htake, List.take_of_length_le (by simp; omega)]
theorem Blk.one {g' : Nat} {T' : TypeId} {ys : List Value} (h : Blk w g T xs) (k : Blk w g' T' ys) (hn : T ≠ T') : g ≠ g' := by
  intro e; subst e
  have := (show w.heap[g]? = _ from h).symm.trans k
  injection this with k; injection k with _ k2 _; exact hn k2
end
theorem natsC_set (xs : List Nat) (i v : Nat) : natsC (xs.set i v) = (natsC xs).set i (.int .i64 (v : Int)) := by unfold natsC; rw [List.map_set]
theorem intsV_set (xs : List Int) (i : Nat) (v : Int) : intsV (xs.set i v) = (intsV xs).set i (.int .i64 v) := by unfold intsV; rw [List.map_set]
theorem boolsC_set (xs : List Bool) (i : Nat) (v : Bool) : boolsC (xs.set i v) = (boolsC xs).set i (.bool v) := by unfold boolsC; rw [List.map_set]
theorem natsC_at {xs : List Nat} {i v : Nat} (h : xs[i]? = some v) : (natsC xs)[i]? = some (.int .i64 (v : Int)) := by unfold natsC; rw [List.getElem?_map, h]; rfl
theorem intsV_at {xs : List Int} {i : Nat} {v : Int} (h : xs[i]? = some v) : (intsV xs)[i]? = some (.int .i64 v) := by unfold intsV; rw [List.getElem?_map, h]; rfl
theorem boolsC_at {xs : List Bool} {i : Nat} {v : Bool} (h : xs[i]? = some v) : (boolsC xs)[i]? = some (.bool v) := by unfold boolsC; rw [List.getElem?_map, h]; rfl
theorem natsC_ints (xs : List Nat) : natsC xs = intsV (xs.map fun v : Nat => (v : Int)) := by unfold natsC intsV; rw [List.map_map]; rfl
end Lec
