/- A region that draws its order, whose calls make memory: one walk, in the class of all worlds that have what was there. -/
import Derived.Test.YtdbpgcaoakoojaaBase
import Derived.StillTailTactics
set_option linter.unusedVariables false
set_option linter.unusedSimpArgs false
namespace Lec
open Go Go.RowKit

/-- w' has all that w has. -/
def Ext (w w' : World) : Prop := Below w.heap.size w w'
theorem Ext.refl (w : World) : Ext w w := Below.refl _ _
theorem Ext.drawn (w : World) : Ext w { w with drawn := w.drawn + 1 } := ⟨rfl, rfl, rfl, Nat.le_refl _, fun _ _ => rfl⟩
theorem Ext.trans {a b c : World} (h : Ext a b) (k : Below b.heap.size b c) : Ext a c := Below.trans h (k.mono h.size)
theorem Ext.cell {w w' : World} (h : Ext w w') {p : Addr} {v : Value} (hc : w.cell? p = some v) : w'.cell? p = some v := cell_ext (B := w.heap.size) h (Nat.le_refl _) hc
theorem Ext.rds {w w' : World} (h : Ext w w') {A : Option Addr} {vs : List Value} (hr : Rds w A vs) : Rds w' A vs := hr.ext (B := w.heap.size) h (Nat.le_refl _)
theorem Ext.below {w w' : World} (h : Ext w w') : Below w.heap.size w w' := h

theorem wp_region_cls {P : Program} {id : Nat} {Q : Exit → Act → World → Prop} {a : Act} {w : World} {l : List Oper} (C : World → Prop) (hm : P.follows .mixedOrders = true) (hB : Region.lexB .any l.toArray = true)
    (hC : C { w with drawn := w.drawn + 1 }) (h : wpQuiet P l.toArray C (fun a' => ∀ w', C w' → Q .normal a' w') l a) : (Code.region id l.toArray true).wp P Q a w :=
  wp_region_quiet hm hB hC (by simpa using h)

/-- A callee that makes memory and answers a value that hangs on nothing but what was there. -/
theorem Calls.cls {P : Program} {f : FuncId} {args : Array Value} {w0 w : World} {v : Value} (hw : Ext w0 w)
    (h : Calls P f args w fun e w' => e = .returned v ∧ Below w.heap.size w w') : Calls P f args w fun e w' => e = .returned v ∧ Ext w0 w' :=
  h.mono fun _ _ ⟨he, hb⟩ => ⟨he, hw.trans hb⟩
theorem Calls.cls_same {P : Program} {f : FuncId} {args : Array Value} {w0 w : World} {v : Value} (hw : Ext w0 w)
    (h : Calls P f args w fun e w' => e = .returned v ∧ w = w') : Calls P f args w fun e w' => e = .returned v ∧ Ext w0 w' :=
  h.mono fun _ _ ⟨he, hb⟩ => ⟨he, hb ▸ hw⟩
theorem Calls.cls_drawn {P : Program} {f : FuncId} {args : Array Value} {w0 w : World} {v : Value} (hw : Ext w0 w)
    (h : Calls P f args w fun e w' => e = .returned v ∧ ∃ q, w.drewN q = w') : Calls P f args w fun e w' => e = .returned v ∧ Ext w0 w' :=
  h.mono fun _ _ ⟨he, q, hb⟩ => ⟨he, hb ▸ hw.trans (drawn_below _ _)⟩
/-- append(s, xs...) inside a region that draws. -/
theorem op_app {P : Program} {w : World} {o : Oper} {a : Act} {K : Act → World → Prop} {Q : Exit → Act → World → Prop} (s x : Operand) (t : TypeId)
    (ho : o.op = .call { callee := .builtin .append, args := #[s, x], argTypes := #[t, t] })
    (base : Nat) (e : TypeId) (z : Value) (size bytes : Nat) (ht : P.underlying t = some (.slice e)) (hinfo : (P.info? e).map (fun i => (i.zero, i.size, i.bytes)) = some (some z, size, bytes))
    (hzs : z.cells.size = size) (hsz : 0 < size) (hby : 0 < bytes)
    (v : Value) (n : Nat) (xs : List Value) (hs : a.eval s = v) (hown : w.ownsRow base e size v n xs)
    (A : Option Addr) (m c : Nat) (news : List Value) (hx : a.eval x = .slice A m c) (hA : A = none → m = 0 ∧ c = 0) (hl : news.length = m * size) (hnews : Rds w A news) (h1 : ∀ u ∈ news, u.oneCell' = true)
    (hbytes : (n + m) * bytes ≤ 140737488355328) (hbase : base ≤ w.heap.size)
    (h : ∀ v' w', w'.ownsRow base e size v' (n + m) (xs ++ news) → w.grownBy w' v.ownBlock → K (a.put o.dst v') w') : o.wp P a w K Q := by
  obtain ⟨i, hi, hz0, hz1, hz2⟩ := info_parts hinfo
  have hmax : n + m ≤ maxLen := by
    have : (n + m) * 1 ≤ (n + m) * bytes := Nat.mul_le_mul_left _ hby
    simp only [maxLen]; omega
  cases A with
  | some ad =>
    refine wp_append_own w s x t ho base e i z size bytes ht hi hz0 hz1 hz2 hzs hsz v n xs hs hown ad m c news hx hl ?_ h1 hmax hbytes hbase (fun v' w' p q _ => h v' w' p q)
    intro j u hu
    obtain ⟨ad', e', hc⟩ := hnews j u hu
    rw [Option.some.inj e']; exact hc
  | none =>
    obtain ⟨rfl, rfl⟩ := hA rfl
    have hn : news = [] := List.eq_nil_of_length_eq_zero (by simpa using hl)
    subst hn
    have hrun := run_append_owned_none (P := P) w base t o.type e i size ht hi v n xs hown
    unfold Oper.wp
    simp [execOp, ho, resolve, invoke, builtin, hs, hx, hrun, Result.andThen]
    have := h v w (by simpa using hown) (World.grownBy.refl _ _)
    exact this
theorem step_app {P : Program} {w : World} {ops : Array Oper} {o : Oper} {a : Act} {K : Act → World → Prop} {Q : Exit → Act → World → Prop} {E : Prop} (hgd : o.guard = none) (s x : Operand) (t : TypeId)
    (ho : o.op = .call { callee := .builtin .append, args := #[s, x], argTypes := #[t, t] })
    (base : Nat) (e : TypeId) (z : Value) (size bytes : Nat) (ht : P.underlying t = some (.slice e)) (hinfo : (P.info? e).map (fun i => (i.zero, i.size, i.bytes)) = some (some z, size, bytes))
    (hzs : z.cells.size = size) (hsz : 0 < size) (hby : 0 < bytes)
    (v : Value) (n : Nat) (xs : List Value) (hs : a.eval s = v) (hown : w.ownsRow base e size v n xs)
    (A : Option Addr) (m c : Nat) (news : List Value) (hx : a.eval x = .slice A m c) (hA : A = none → m = 0 ∧ c = 0) (hl : news.length = m * size) (hnews : Rds w A news) (h1 : ∀ u ∈ news, u.oneCell' = true)
    (hbytes : (n + m) * bytes ≤ 140737488355328) (hbase : base ≤ w.heap.size)
    (h : ∀ v' w', w'.ownsRow base e size v' (n + m) (xs ++ news) → w.grownBy w' v.ownBlock → K (a.put o.dst v') w') : if Region.wanted o (yielded ops a.tmps) = true then Oper.wp P o a w K Q else E := by
  have hw : Region.wanted o (yielded ops a.tmps) = true := by simp [Region.wanted, hgd]
  rw [if_pos hw]
  exact op_app s x t ho base e z size bytes ht hinfo hzs hsz hby v n xs hs hown A m c news hx hA hl hnews h1 hbytes hbase h
theorem grown_cell {w w' : World} {base : Nat} {e : TypeId} {size : Nat} {v : Value} {n : Nat} {xs : List Value} (hg : w.grownBy w' v.ownBlock) (hown : w.ownsRow base e size v n xs) {p : Addr} {u : Value} (hc : w.cell? p = some u) (hp : p.block < base) : w'.cell? p = some u :=
  hg.cell hc (fun e => by have := (hown.lt _ e.symm).1; omega)
theorem grown_rds {w w' : World} {base : Nat} {e : TypeId} {size : Nat} {v : Value} {n : Nat} {xs : List Value} (hg : w.grownBy w' v.ownBlock) (hown : w.ownsRow base e size v n xs) {A : Option Addr} {vs : List Value} (h : Rds w A vs) (hp : ∀ a, A = some a → 0 < vs.length → a.block < base) : Rds w' A vs := fun i u hu => by
  obtain ⟨a, e, hc⟩ := h i u hu
  have hl : 0 < vs.length := by have := (List.getElem?_eq_some_iff.1 hu).1; omega
  exact ⟨a, e, grown_cell hg hown hc (by rw [add_block]; exact hp a e hl)⟩
theorem bytes_one (bs : List UInt8) : ∀ u ∈ bytesV bs, u.oneCell' = true := fun u hu => by simp [bytesV] at hu; obtain ⟨_, _, rfl⟩ := hu; rfl
theorem bytes_app {w : World} {A : Option Addr} {xs ys : List UInt8} (h : Rds w A (bytesV xs ++ bytesV ys)) : Rds w A (bytesV (xs ++ ys)) := by unfold bytesV; rw [List.map_append]; exact h
theorem Calls.still {P : Program} {f : FuncId} {args : Array Value} {w : World} {v : Value} (h : Calls P f args w fun e w' => e = .returned v ∧ w = w') : Calls P f args w fun e w' => e = .returned v ∧ w' = w :=
  h.mono fun _ _ ⟨he, hb⟩ => ⟨he, hb.symm⟩
end Lec
