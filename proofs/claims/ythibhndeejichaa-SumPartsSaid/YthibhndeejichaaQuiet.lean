/- A region that draws its order, whose calls make memory: one walk, in the class of all worlds that have what was there. -/
import Derived.Test.YthibhndeejichaaBase
import Derived.StillTailTactics
set_option linter.unusedVariables false
set_option linter.unusedSimpArgs false
namespace Lec
open Go Go.RowKit

/-- w' has all that w has. -/
def Ext (w w' : World) : Prop := Below w.heap.size w w'
theorem Ext.refl (w : World) : Ext w w := Below.refl _ _
theorem Ext.drawn (w : World) : Ext w { w with drawn := w.drawn + 1 } := ⟨rfl, rfl, rfl, Nat.le_refl _, fun _ _ => rfl⟩
theorem Ext.trans {a b c : World} (h : Ext a b) (k : Below b.heap.size b c) : Ext a c := Below.trans h (k.mono h.size)
theorem Ext.cell {w w' : World} (h : Ext w w') {p : Addr} {v : Value} (hc : w.cell? p = some v) : w'.cell? p = some v := cell_ext (B := w.heap.size) h (Nat.le_refl _) hc
theorem Ext.rds {w w' : World} (h : Ext w w') {A : Option Addr} {vs : List Value} (hr : Rds w A vs) : Rds w' A vs := hr.ext (B := w.heap.size) h (Nat.le_refl _)
theorem Ext.below {w w' : World} (h : Ext w w') : Below w.heap.size w w' := h

theorem wp_region_cls {P : Program} {id : Nat} {Q : Exit → Act → World → Prop} {a : Act} {w : World} {l : List Oper} (C : World → Prop) (hm : P.follows .mixedOrders = true) (hB : Region.lexB .any l.toArray = true)
    (hC : C { w with drawn := w.drawn + 1 }) (h : wpQuiet P l.toArray C (fun a' => ∀ w', C w' → Q .normal a' w') l a) : (Code.region id l.toArray true).wp P Q a w :=
  wp_region_quiet hm hB hC (by simpa using h)

/-- A callee that makes memory and answers a value that hangs on nothing but what was there. -/
theorem Calls.cls {P : Program} {f : FuncId} {args : Array Value} {w0 w : World} {v : Value} (hw : Ext w0 w)
    (h : Calls P f args w fun e w' => e = .returned v ∧ Below w.heap.size w w') : Calls P f args w fun e w' => e = .returned v ∧ Ext w0 w' :=
  h.mono fun _ _ ⟨he, hb⟩ => ⟨he, hw.trans hb⟩
theorem Calls.cls_same {P : Program} {f : FuncId} {args : Array Value} {w0 w : World} {v : Value} (hw : Ext w0 w)
    (h : Calls P f args w fun e w' => e = .returned v ∧ w = w') : Calls P f args w fun e w' => e = .returned v ∧ Ext w0 w' :=
  h.mono fun _ _ ⟨he, hb⟩ => ⟨he, hb ▸ hw⟩
theorem Calls.cls_drawn {P : Program} {f : FuncId} {args : Array Value} {w0 w : World} {v : Value} (hw : Ext w0 w)
    (h : Calls P f args w fun e w' => e = .returned v ∧ ∃ q, w.drewN q = w') : Calls P f args w fun e w' => e = .returned v ∧ Ext w0 w' :=
  h.mono fun _ _ ⟨he, q, hb⟩ => ⟨he, hb ▸ hw.trans (drawn_below _ _)⟩
theorem Calls.still {P : Program} {f : FuncId} {args : Array Value} {w : World} {v : Value} (h : Calls P f args w fun e w' => e = .returned v ∧ w = w') : Calls P f args w fun e w' => e = .returned v ∧ w' = w :=
  h.mono fun _ _ ⟨he, hb⟩ => ⟨he, hb.symm⟩
end Lec
