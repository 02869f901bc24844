/- Three rows that are filled. -/
import Derived.Test.YtkjajdhempceaaaSufR
set_option linter.unusedVariables false
namespace Go.Proofs.Ytkjajdhempceaaa
open Go.RowKit Lec
/-- Three rows that are filled. -/
structure Trip (w wr : World) (g1 g2 g3 : Nat) (x1 x2 x3 : List Nat) : Prop where
  b1 : Blk wr g1 3 (natsC x1)
  b2 : Blk wr g2 3 (natsC x2)
  b3 : Blk wr g3 3 (natsC x3)
  h2 : w.heap.size ≤ g2
  h3 : w.heap.size ≤ g3
  n12 : g1 ≠ g2
  n13 : g1 ≠ g3
  n23 : g2 ≠ g3
  bel : Below w.heap.size w wr
theorem Trip.set2 {w wr : World} {g1 g2 g3 : Nat} {x1 x2 x3 : List Nat} (h : Trip w wr g1 g2 g3 x1 x2 x3) (i v : Nat) : Trip w (wr.setCell ⟨g2, i, none⟩ (.int .i64 (v : Int))) g1 g2 g3 x1 (x2.set i v) x3 :=
  ⟨h.b1.far _ h.n12, by rw [natsC_set]; exact h.b2.set i _, h.b3.far _ (Ne.symm h.n23), h.h2, h.h3, h.n12, h.n13, h.n23, h.bel.setCell h.h2 _⟩
theorem Trip.set3 {w wr : World} {g1 g2 g3 : Nat} {x1 x2 x3 : List Nat} (h : Trip w wr g1 g2 g3 x1 x2 x3) (i v : Nat) : Trip w (wr.setCell ⟨g3, i, none⟩ (.int .i64 (v : Int))) g1 g2 g3 x1 x2 (x3.set i v) :=
  ⟨h.b1.far _ h.n13, h.b2.far _ h.n23, by rw [natsC_set]; exact h.b3.set i _, h.h2, h.h3, h.n12, h.n13, h.n23, h.bel.setCell h.h3 _⟩

end Go.Proofs.Ytkjajdhempceaaa
