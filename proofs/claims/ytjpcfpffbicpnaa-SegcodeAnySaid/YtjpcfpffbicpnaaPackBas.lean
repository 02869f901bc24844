/- Several texts in one. The words of this session's walks: what a slice's cells read as; small laws. No program stands here. | A region that draws its order, whose calls make memory: one walk, in the class of all worlds that have what was there. | Texts one behind the other: where they begin, whose a place is. No program stands here. | A block that is known whole: its cells as a list. No program stands here. | A region that draws its order and ends with a store: its head by the cheap step. No program stands here. | Pieces of a slice that is read. | The walks of bounds. | What a law's argument reads as: lists, pairs, numbers; from the form's own reading. No program stands here. | Bits of an int that is not below nought. | New rows of numbers; small facts about blocks. | The walk of math/bits.Len for numbers below 512. -/
import Derived.WalkKit
import Derived.WalkSpells
import Derived.WalkLawsBesides
import Derived.Outline
import Derived.Deep.LoopGhost
import Derived.Deep.DeepCutAuto
import Derived.Below
import Derived.Lib.Hide
import Derived.Laws.BitsAllLaws
import Derived.IntWalk
import Derived.Lib.SlBytesConst
import Derived.Deep.RegionWith
import Derived.Deep.RegionLaw
import Derived.BigRegion
import Derived.StillTailTactics
import Derived.Laws.CopyOwn
import Derived.Laws.BitsLemmas
import Derived.OrdersHeld
import Derived.Laws.IdiomCopy
import Derived.ArgAppend
import Derived.Lib.AppendStr
import Derived.Laws.Rows
import Derived.Deep.RegionHeld3
import Derived.Deep.CutBlock
import Derived.WideLaws
import Derived.BigQuiet
import Derived.Deep.QuietTactic
import Derived.RowKit3
import Derived.KernelRfl
import Derived.Laws.Slices
import Derived.Lib.ConvBytes
import Derived.Tactics
import Derived.Deep.OwnRows
import Derived.Laws.OwnMore
import Derived.Laws.MakeOwn
import Derived.Laws.BytesArg
import Derived.OwnWalk
import Derived.Maps.AppendAt
import Derived.Deep.AppendLies
import Derived.Deep.Draws
import Derived.Test.YtjpcfpffbicpnaaProg
import Derived.SizedLaws
import Derived.Deep.DrawnRows
section
set_option linter.unusedVariables false
set_option linter.unusedSimpArgs false
namespace Lec
open Go Go.RowKit

/-- The cells from A on read as these values. -/
def Rds (w : World) (A : Option Addr) (vs : List Value) : Prop := ∀ i v, vs[i]? = some v → ∃ a, A = some a ∧ w.cell? (a.add i) = some v

theorem Rds.nil (w : World) (A : Option Addr) : Rds w A [] := fun i v h => by simp at h

/-- What was there reads as it did. -/
theorem cell_ext {w w' : World} {B : Nat} (h : Below B w w') (hB : w.heap.size ≤ B) {a : Addr} {v : Value} (hc : w.cell? a = some v) : w'.cell? a = some v :=
  (h.cell (Nat.lt_of_lt_of_le (World.block_lt_of_cell? w a hc) hB)).trans hc

theorem Rds.ext {w w' : World} {B : Nat} {A : Option Addr} {vs : List Value} (h : Rds w A vs) (hb : Below B w w') (hB : w.heap.size ≤ B) : Rds w' A vs :=
  fun i v hv => let ⟨a, ha, hc⟩ := h i v hv; ⟨a, ha, cell_ext hb hB hc⟩

theorem Rds.take {w : World} {A : Option Addr} {vs : List Value} (h : Rds w A vs) (n : Nat) : Rds w A (vs.take n) := fun i v hv => by
  rw [List.getElem?_take] at hv
  split at hv
  · exact h i v hv
  · cases hv

theorem add_add (a : Addr) (i j : Nat) : (a.add i).add j = a.add (i + j) := by
  unfold Addr.add
  split <;> split <;> simp_all <;> omega

theorem add_fld (a : Addr) (m j : Nat) (h : 0 < j) : a.add (m + j) = ⟨(a.add m).block, (a.add m).off + j, none⟩ := by
  rw [← add_add]
  unfold Addr.add
  rw [if_neg (by omega)]

abbrev bytesV (bs : List UInt8) : List Value := bs.map fun b => Value.int .u8 (b.toNat : Int)
abbrev intsV (xs : List Int) : List Value := xs.map (Value.int .i64)

theorem Rds.byte {w : World} {A : Option Addr} {bs : List UInt8} (h : Rds w A (bytesV bs)) (i : Nat) (hi : i < bs.length) : ∃ a, A = some a ∧ w.cell? (a.add i) = some (.int .u8 (bs[i].toNat : Int)) :=
  h i _ (by simp [bytesV, hi])

theorem setCell_twice (w : World) (g o : Nat) (v u : Value) : (w.setCell ⟨g, o, none⟩ v).setCell ⟨g, o, none⟩ u = w.setCell ⟨g, o, none⟩ u := by
  simp only [World.setCell]
  congr 1
  apply Array.ext_getElem?
  intro i
  simp only [Array.getElem?_modify]
  split
  · rename_i h; subst h
    cases w.heap[g]? with
    | none => rfl
    | some ob => cases ob <;> simp
  · rfl

theorem setCell_same (w : World) (g o : Nat) (v : Value) (h : w.cell? ⟨g, o, none⟩ = some v) : w.setCell ⟨g, o, none⟩ v = w := by
  have : (w.setCell ⟨g, o, none⟩ v).heap = w.heap := by
    simp only [World.setCell]
    apply Array.ext_getElem?
    intro i
    simp only [Array.getElem?_modify]
    split
    · rename_i hi; subst hi
      unfold World.cell? at h
      cases hh : w.heap[g]? with
      | none => rfl
      | some ob =>
        cases ob <;> simp_all
        rename_i c e f
        obtain ⟨hlt, hv⟩ := Array.getElem?_eq_some_iff.1 h
        apply Array.ext_getElem?
        intro j
        rw [Array.getElem?_setIfInBounds]
        split
        · rename_i hj; subst hj; simp [hlt, hv]
        · rfl
    · rfl
  cases w
  simp only [World.setCell] at this ⊢
  simp only [World.mk.injEq, and_true, true_and]
  exact this

theorem cell_set_self {w : World} {g o : Nat} {v : Value} (u : Value) (h : w.cell? ⟨g, o, none⟩ = some v) : (w.setCell ⟨g, o, none⟩ u).cell? ⟨g, o, none⟩ = some u := by
  unfold World.cell? World.setCell at *
  cases hh : w.heap[g]? with
  | none => simp [hh] at h
  | some ob =>
    cases ob <;> simp_all [Array.getElem?_modify]
    rw [Array.getElem?_setIfInBounds, if_pos rfl, if_pos (Array.getElem?_eq_some_iff.1 h).1]

theorem cell_set_far {w : World} {p a : Addr} (u : Value) (h : a.block ≠ p.block) : (w.setCell p u).cell? a = w.cell? a :=
  World.cell?_of_block (Below.heap_setCell w p u a.block h)

theorem cell_set_off {w : World} {g o i : Nat} (u : Value) (h : i ≠ o) : (w.setCell ⟨g, o, none⟩ u).cell? ⟨g, i, none⟩ = w.cell? ⟨g, i, none⟩ := by
  unfold World.cell? World.setCell
  simp only [Array.getElem?_modify, if_true]
  cases hh : w.heap[g]? with
  | none => rfl
  | some ob =>
    cases ob <;> simp
    rw [Array.getElem?_setIfInBounds, if_neg (fun e => h e.symm)]

theorem frozen_set {w : World} {p a : Addr} (u : Value) : (w.setCell p u).frozen? a = w.frozen? a := by
  by_cases h : a.block = p.block
  · unfold World.frozen? World.setCell
    simp only [Array.getElem?_modify, h, if_true]
    cases hh : w.heap[p.block]? with
    | none => rfl
    | some ob => cases ob <;> rfl
  · exact World.frozen?_of_block (Below.heap_setCell w p u a.block h)

theorem add_block (a : Addr) (n : Nat) : (a.add n).block = a.block := by unfold Addr.add; split <;> rfl

theorem u32_not (a : Nat) (ha : a < 4294967296) : bits .xor .u32 4294967295 (a : Int) = ((4294967295 - a : Nat) : Int) := by
  have e := u32_xor_nat 4294967295 a (by omega) ha
  have h : (4294967295 : Nat) ^^^ a = 4294967295 - a := by
    have := BitVec.allOnes_xor (x := BitVec.ofNat 32 a)
    have h2 := congrArg BitVec.toNat this
    rw [BitVec.toNat_xor, BitVec.toNat_not, BitVec.toNat_ofNat, BitVec.toNat_allOnes, Nat.mod_eq_of_lt (by omega)] at h2
    omega
  rw [h] at e
  exact e

theorem Rds.blk {w : World} {A : Option Addr} {vs : List Value} (h : Rds w A vs) {a : Addr} (ha : A = some a) (h0 : 0 < vs.length) : a.block < w.heap.size := by
  obtain ⟨a', e, hc⟩ := h 0 _ (List.getElem?_eq_getElem h0)
  rw [ha] at e
  obtain rfl := Option.some.inj e
  have := World.block_lt_of_cell? w _ hc
  rwa [add_block] at this

/-! Rows of the call's own. -/
theorem own_grown {w w' : World} {base : Nat} {e : TypeId} {size : Nat} {v : Value} {n : Nat} {xs : List Value} {row : Option Nat} (h : w.ownsRow base e size v n xs) (hg : w.grownBy w' row)
    (hne : ∀ k, v.ownBlock = some k → row ≠ some k) : w'.ownsRow base e size v n xs :=
  h.kept hg (by cases hv : v.ownBlock with | none => exact .inl rfl | some k => exact .inr (fun e => hne k hv e.symm))

theorem grown_below {w w' : World} {row : Option Nat} {B : Nat} (hb : Below B w w') (hB : w.heap.size ≤ B) : w.grownBy w' row :=
  ⟨hb.os, hb.tape, hb.output, hb.size, fun k hk _ => hb.block k (Nat.lt_of_lt_of_le hk hB)⟩

theorem own_ext {w w' : World} {base : Nat} {e : TypeId} {size : Nat} {v : Value} {n : Nat} {xs : List Value} {B : Nat} (h : w.ownsRow base e size v n xs) (hb : Below B w w') (hB : w.heap.size ≤ B) : w'.ownsRow base e size v n xs :=
  own_grown (row := none) h (grown_below hb hB) (fun _ _ e => by cases e)

theorem own_rds {w : World} {base : Nat} {e : TypeId} {size : Nat} {v : Value} {n : Nat} {xs : List Value} (h : w.ownsRow base e size v n xs) :
    ∃ A c, v = .slice A n c ∧ n ≤ c ∧ c ≤ maxLen ∧ (A = none → n = 0 ∧ c = 0) ∧ Rds w A xs ∧ (∀ a, A = some a → ∃ g, a = ⟨g, 0, none⟩ ∧ base ≤ g ∧ g < w.heap.size) := by
  rcases h.2 with ⟨rfl, rfl⟩ | ⟨g, cap, cur, rfl, hbg, hg, hnc, hcm, hcs, htake⟩
  · refine ⟨none, 0, rfl, Nat.le_refl _, by decide, fun _ => ⟨rfl, rfl⟩, ?_, fun a ha => by cases ha⟩
    have : xs = [] := List.eq_nil_of_length_eq_zero (by simpa using h.1)
    subst this; exact Rds.nil _ _
  · refine ⟨_, cap, rfl, hnc, hcm, fun e => (by cases e), ?_, fun a ha => ⟨g, (Option.some.inj ha).symm, hbg, (Array.getElem?_eq_some_iff.1 hg).1⟩⟩
    intro i u hu
    exact ⟨_, rfl, h.cells (g := g) rfl i u hu⟩

theorem own_len {w : World} {base : Nat} {e : TypeId} {size : Nat} {v : Value} {n : Nat} {xs : List Value} (h : w.ownsRow base e size v n xs) : xs.length = n * size := h.1

theorem own_lower {w : World} {base base' : Nat} {e : TypeId} {size : Nat} {v : Value} {n : Nat} {xs : List Value} (h : w.ownsRow base e size v n xs) (hb : base' ≤ base) : w.ownsRow base' e size v n xs := by
  refine ⟨h.1, ?_⟩
  rcases h.2 with hn | ⟨g, cap, cur, rfl, hbg, rest⟩
  · exact .inl hn
  · exact .inr ⟨g, cap, cur, rfl, Nat.le_trans hb hbg, rest⟩

section append
variable {P : Program} {w : World} {ops : Array Oper} {rest : List Oper} {o : Oper} {a : Act} {Q : Exit → Act → World → Prop}

/-- append(s, xs...), s the call's own, whatever the row of xs. -/
theorem wp_app (hgd : o.guard = none) (s x : Operand) (t : TypeId)
    (ho : o.op = .call { callee := .builtin .append, args := #[s, x], argTypes := #[t, t] })
    (base : Nat) (e : TypeId) (z : Value) (size bytes : Nat) (ht : P.underlying t = some (.slice e)) (hinfo : (P.info? e).map (fun i => (i.zero, i.size, i.bytes)) = some (some z, size, bytes))
    (hzs : z.cells.size = size) (hsz : 0 < size) (hby : 0 < bytes)
    (v : Value) (n : Nat) (xs : List Value) (hs : a.eval s = v) (hown : w.ownsRow base e size v n xs)
    (A : Option Addr) (m c : Nat) (news : List Value) (hx : a.eval x = .slice A m c) (hA : A = none → m = 0 ∧ c = 0) (hl : news.length = m * size) (hnews : Rds w A news) (h1 : ∀ u ∈ news, u.oneCell' = true)
    (hbytes : (n + m) * bytes ≤ 140737488355328) (hbase : base ≤ w.heap.size)
    (h : ∀ v' w', w'.ownsRow base e size v' (n + m) (xs ++ news) → w.grownBy w' v.ownBlock → wpList P ops Q rest (a.put o.dst v') w') : wpList P ops Q (o :: rest) a w := by
  obtain ⟨i, hi, hz0, hz1, hz2⟩ := info_parts hinfo
  have hmax : n + m ≤ maxLen := by
    have : (n + m) * 1 ≤ (n + m) * bytes := Nat.mul_le_mul_left _ hby
    simp only [maxLen]; omega
  cases A with
  | some ad =>
    refine wpList_append_own w hgd s x t ho base e i z size bytes ht hi hz0 hz1 hz2 hzs hsz v n xs hs hown ad m c news hx hl ?_ h1 hmax hbytes hbase (fun v' w' p q _ => h v' w' p q)
    intro j u hu
    obtain ⟨ad', e', hc⟩ := hnews j u hu
    rw [Option.some.inj e']; exact hc
  | none =>
    obtain ⟨rfl, rfl⟩ := hA rfl
    have hn : news = [] := List.eq_nil_of_length_eq_zero (by simpa using hl)
    subst hn
    refine wpList_plain hgd fun K hK' => ?_
    have hrun := run_append_owned_none (P := P) w base t o.type e i size ht hi v n xs hown
    unfold Oper.wp
    simp [execOp, ho, resolve, invoke, builtin, hs, hx, hrun, Result.andThen]
    exact hK' _ _ (by simpa using h v w (by simpa using hown) (World.grownBy.refl _ _))

/-- append(s, x): one element, laid just before into a block of its own. -/
theorem wp_app1 {w0 : World} {t' : TypeId} {cs : Array Value} (hw : w = w0.alloc (.cells cs t')) (hgd : o.guard = none) (s x : Operand) (t : TypeId)
    (ho : o.op = .call { callee := .builtin .append, args := #[s, x], argTypes := #[t, t] })
    (base : Nat) (e : TypeId) (z : Value) (size bytes : Nat) (ht : P.underlying t = some (.slice e)) (hinfo : (P.info? e).map (fun i => (i.zero, i.size, i.bytes)) = some (some z, size, bytes))
    (hzs : z.cells.size = size) (hsz : 0 < size) (hby : 0 < bytes)
    (v : Value) (n : Nat) (xs : List Value) (hs : a.eval s = v) (hown : w0.ownsRow base e size v n xs)
    (hx : a.eval x = .slice (some ⟨w0.heap.size, 0, none⟩) 1 1) (hl : cs.size = size) (h1 : ∀ u ∈ cs.toList, u.oneCell' = true)
    (hbytes : (n + 1) * bytes ≤ 140737488355328) (hbase : base ≤ w0.heap.size)
    (h : ∀ v' w', w'.ownsRow base e size v' (n + 1) (xs ++ cs.toList) → w.grownBy w' v.ownBlock → Below base w0 w' → wpList P ops Q rest (a.put o.dst v') w') : wpList P ops Q (o :: rest) a w := by
  subst hw
  have hb0 : Below w0.heap.size w0 (w0.alloc (.cells cs t')) := (Below.refl _ _).alloc (Nat.le_refl _) _
  refine wp_app hgd s x t ho base e z size bytes ht hinfo hzs hsz hby v n xs hs (own_ext hown hb0 (Nat.le_refl _)) (some ⟨w0.heap.size, 0, none⟩) 1 1 cs.toList hx (fun e => by cases e) (by simp [hl]) ?_ h1 hbytes (by simp; omega) ?_
  · intro i u hu
    refine ⟨_, rfl, ?_⟩
    rw [Addr.add_lit, cell_of_row _ w0.heap.size _ cs t' (0, 0) (heap_alloc_new _ _)]
    simpa using hu
  · intro v' w' p q
    refine h v' w' p q ?_
    refine (hb0.mono hbase).grown q (by simp; omega) ?_
    intro k hk
    exact (hown.lt k hk).1
end append

theorem map_take_snoc {α β : Type} (f : α → β) (xs : List α) (k : Nat) (h : k < xs.length) : (xs.take (k + 1)).map f = (xs.take k).map f ++ [f xs[k]] := by
  rw [List.take_succ_eq_append_getElem h, List.map_append]; rfl

/-- A slice of elements of one cell. -/
theorem Rds.map {α : Type} {f : α → Value} {w : World} {A : Option Addr} {xs : List α} (h : Rds w A (xs.map f)) (i : Nat) (hi : i < xs.length) : ∃ a, A = some a ∧ w.cell? (a.add i) = some (f xs[i]) :=
  h i _ (by simp [hi])

theorem one_cell1 {v : Value} (hv : v.oneCell' = true) : ∀ u ∈ (#[v] : Array Value).toList, u.oneCell' = true := by intro u hu; simp at hu; subst hu; exact hv

theorem eq_of_getElem {α : Type} {xs ys : List α} (hl : xs.length = ys.length) (h : ∀ i (h1 : i < xs.length) (h2 : i < ys.length), xs[i] = ys[i]) : xs = ys := List.ext_getElem hl h

theorem drawn1 (w : World) (q : Nat) : ∃ p, w.drewN p = w.drewN q := ⟨q, rfl⟩
theorem drawn0 (w : World) : ∃ p, w.drewN p = w := ⟨0, rfl⟩
theorem drawn2 (w : World) (q n : Nat) : ∃ p, w.drewN p = (w.drewN q).drewN n := ⟨q + n, by simp [World.drewN, Nat.add_assoc]⟩
theorem drawn_below (w : World) (q : Nat) : Below w.heap.size w (w.drewN q) := ⟨rfl, rfl, rfl, Nat.le_refl _, fun _ _ => rfl⟩

theorem str_inj {s t : ByteArray} (h : s.toList = t.toList) : s = t := by
  rw [ByteArray.toList_eq, ByteArray.toList_eq] at h
  cases s; cases t; simp_all [Array.toList_inj]

end Lec

end
section
set_option linter.unusedVariables false
set_option linter.unusedSimpArgs false
namespace Lec
open Go Go.RowKit

/-- w' has all that w has. -/
def Ext (w w' : World) : Prop := Below w.heap.size w w'
theorem Ext.refl (w : World) : Ext w w := Below.refl _ _
theorem Ext.drawn (w : World) : Ext w { w with drawn := w.drawn + 1 } := ⟨rfl, rfl, rfl, Nat.le_refl _, fun _ _ => rfl⟩
theorem Ext.trans {a b c : World} (h : Ext a b) (k : Below b.heap.size b c) : Ext a c := Below.trans h (k.mono h.size)
theorem Ext.cell {w w' : World} (h : Ext w w') {p : Addr} {v : Value} (hc : w.cell? p = some v) : w'.cell? p = some v := cell_ext (B := w.heap.size) h (Nat.le_refl _) hc
theorem Ext.rds {w w' : World} (h : Ext w w') {A : Option Addr} {vs : List Value} (hr : Rds w A vs) : Rds w' A vs := hr.ext (B := w.heap.size) h (Nat.le_refl _)
theorem Ext.below {w w' : World} (h : Ext w w') : Below w.heap.size w w' := h

theorem wp_region_cls {P : Program} {id : Nat} {Q : Exit → Act → World → Prop} {a : Act} {w : World} {l : List Oper} (C : World → Prop) (hm : P.follows .mixedOrders = true) (hB : Region.lexB .any l.toArray = true)
    (hC : C { w with drawn := w.drawn + 1 }) (h : wpQuiet P l.toArray C (fun a' => ∀ w', C w' → Q .normal a' w') l a) : (Code.region id l.toArray true).wp P Q a w :=
  wp_region_quiet hm hB hC (by simpa using h)

/-- A callee that makes memory and answers a value that hangs on nothing but what was there. -/
theorem Calls.cls {P : Program} {f : FuncId} {args : Array Value} {w0 w : World} {v : Value} (hw : Ext w0 w)
    (h : Calls P f args w fun e w' => e = .returned v ∧ Below w.heap.size w w') : Calls P f args w fun e w' => e = .returned v ∧ Ext w0 w' :=
  h.mono fun _ _ ⟨he, hb⟩ => ⟨he, hw.trans hb⟩
theorem Calls.cls_same {P : Program} {f : FuncId} {args : Array Value} {w0 w : World} {v : Value} (hw : Ext w0 w)
    (h : Calls P f args w fun e w' => e = .returned v ∧ w = w') : Calls P f args w fun e w' => e = .returned v ∧ Ext w0 w' :=
  h.mono fun _ _ ⟨he, hb⟩ => ⟨he, hb ▸ hw⟩
theorem Calls.cls_drawn {P : Program} {f : FuncId} {args : Array Value} {w0 w : World} {v : Value} (hw : Ext w0 w)
    (h : Calls P f args w fun e w' => e = .returned v ∧ ∃ q, w.drewN q = w') : Calls P f args w fun e w' => e = .returned v ∧ Ext w0 w' :=
  h.mono fun _ _ ⟨he, q, hb⟩ => ⟨he, hb ▸ hw.trans (drawn_below _ _)⟩
/-- append(s, xs...) inside a region that draws. -/
theorem op_app {P : Program} {w : World} {o : Oper} {a : Act} {K : Act → World → Prop} {Q : Exit → Act → World → Prop} (s x : Operand) (t : TypeId)
    (ho : o.op = .call { callee := .builtin .append, args := #[s, x], argTypes := #[t, t] })
    (base : Nat) (e : TypeId) (z : Value) (size bytes : Nat) (ht : P.underlying t = some (.slice e)) (hinfo : (P.info? e).map (fun i => (i.zero, i.size, i.bytes)) = some (some z, size, bytes))
    (hzs : z.cells.size = size) (hsz : 0 < size) (hby : 0 < bytes)
    (v : Value) (n : Nat) (xs : List Value) (hs : a.eval s = v) (hown : w.ownsRow base e size v n xs)
    (A : Option Addr) (m c : Nat) (news : List Value) (hx : a.eval x = .slice A m c) (hA : A = none → m = 0 ∧ c = 0) (hl : news.length = m * size) (hnews : Rds w A news) (h1 : ∀ u ∈ news, u.oneCell' = true)
    (hbytes : (n + m) * bytes ≤ 140737488355328) (hbase : base ≤ w.heap.size)
    (h : ∀ v' w', w'.ownsRow base e size v' (n + m) (xs ++ news) → w.grownBy w' v.ownBlock → K (a.put o.dst v') w') : o.wp P a w K Q := by
  obtain ⟨i, hi, hz0, hz1, hz2⟩ := info_parts hinfo
  have hmax : n + m ≤ maxLen := by
    have : (n + m) * 1 ≤ (n + m) * bytes := Nat.mul_le_mul_left _ hby
    simp only [maxLen]; omega
  cases A with
  | some ad =>
    refine wp_append_own w s x t ho base e i z size bytes ht hi hz0 hz1 hz2 hzs hsz v n xs hs hown ad m c news hx hl ?_ h1 hmax hbytes hbase (fun v' w' p q _ => h v' w' p q)
    intro j u hu
    obtain ⟨ad', e', hc⟩ := hnews j u hu
    rw [Option.some.inj e']; exact hc
  | none =>
    obtain ⟨rfl, rfl⟩ := hA rfl
    have hn : news = [] := List.eq_nil_of_length_eq_zero (by simpa using hl)
    subst hn
    have hrun := run_append_owned_none (P := P) w base t o.type e i size ht hi v n xs hown
    unfold Oper.wp
    simp [execOp, ho, resolve, invoke, builtin, hs, hx, hrun, Result.andThen]
    have := h v w (by simpa using hown) (World.grownBy.refl _ _)
    exact this
theorem step_app {P : Program} {w : World} {ops : Array Oper} {o : Oper} {a : Act} {K : Act → World → Prop} {Q : Exit → Act → World → Prop} {E : Prop} (hgd : o.guard = none) (s x : Operand) (t : TypeId)
    (ho : o.op = .call { callee := .builtin .append, args := #[s, x], argTypes := #[t, t] })
    (base : Nat) (e : TypeId) (z : Value) (size bytes : Nat) (ht : P.underlying t = some (.slice e)) (hinfo : (P.info? e).map (fun i => (i.zero, i.size, i.bytes)) = some (some z, size, bytes))
    (hzs : z.cells.size = size) (hsz : 0 < size) (hby : 0 < bytes)
    (v : Value) (n : Nat) (xs : List Value) (hs : a.eval s = v) (hown : w.ownsRow base e size v n xs)
    (A : Option Addr) (m c : Nat) (news : List Value) (hx : a.eval x = .slice A m c) (hA : A = none → m = 0 ∧ c = 0) (hl : news.length = m * size) (hnews : Rds w A news) (h1 : ∀ u ∈ news, u.oneCell' = true)
    (hbytes : (n + m) * bytes ≤ 140737488355328) (hbase : base ≤ w.heap.size)
    (h : ∀ v' w', w'.ownsRow base e size v' (n + m) (xs ++ news) → w.grownBy w' v.ownBlock → K (a.put o.dst v') w') : if Region.wanted o (yielded ops a.tmps) = true then Oper.wp P o a w K Q else E := by
  have hw : Region.wanted o (yielded ops a.tmps) = true := by simp [Region.wanted, hgd]
  rw [if_pos hw]
  exact op_app s x t ho base e z size bytes ht hinfo hzs hsz hby v n xs hs hown A m c news hx hA hl hnews h1 hbytes hbase h
theorem grown_cell {w w' : World} {base : Nat} {e : TypeId} {size : Nat} {v : Value} {n : Nat} {xs : List Value} (hg : w.grownBy w' v.ownBlock) (hown : w.ownsRow base e size v n xs) {p : Addr} {u : Value} (hc : w.cell? p = some u) (hp : p.block < base) : w'.cell? p = some u :=
  hg.cell hc (fun e => by have := (hown.lt _ e.symm).1; omega)
theorem grown_rds {w w' : World} {base : Nat} {e : TypeId} {size : Nat} {v : Value} {n : Nat} {xs : List Value} (hg : w.grownBy w' v.ownBlock) (hown : w.ownsRow base e size v n xs) {A : Option Addr} {vs : List Value} (h : Rds w A vs) (hp : ∀ a, A = some a → 0 < vs.length → a.block < base) : Rds w' A vs := fun i u hu => by
  obtain ⟨a, e, hc⟩ := h i u hu
  have hl : 0 < vs.length := by have := (List.getElem?_eq_some_iff.1 hu).1; omega
  exact ⟨a, e, grown_cell hg hown hc (by rw [add_block]; exact hp a e hl)⟩
theorem bytes_one (bs : List UInt8) : ∀ u ∈ bytesV bs, u.oneCell' = true := fun u hu => by simp [bytesV] at hu; obtain ⟨_, _, rfl⟩ := hu; rfl
theorem bytes_app {w : World} {A : Option Addr} {xs ys : List UInt8} (h : Rds w A (bytesV xs ++ bytesV ys)) : Rds w A (bytesV (xs ++ ys)) := by unfold bytesV; rw [List.map_append]; exact h
theorem Calls.still {P : Program} {f : FuncId} {args : Array Value} {w : World} {v : Value} (h : Calls P f args w fun e w' => e = .returned v ∧ w = w') : Calls P f args w fun e w' => e = .returned v ∧ w' = w :=
  h.mono fun _ _ ⟨he, hb⟩ => ⟨he, hb.symm⟩
end Lec

end
section
set_option linter.unusedVariables false
set_option linter.unusedSimpArgs false
namespace Lec
def startI (L : List Int) (i : Nat) : Int := ((L.take i).map (· + 1)).sum
theorem startI_zero (L : List Int) : startI L 0 = 0 := by simp [startI]
theorem startI_step {L : List Int} {i : Nat} (h : i < L.length) : startI L (i + 1) = startI L i + (L[i] + 1) := by
  unfold startI; rw [List.take_succ_eq_append_getElem h, List.map_append, List.sum_append]; simp
def nonneg (L : List Int) : Prop := ∀ x ∈ L, 0 ≤ x
instance (L : List Int) : Decidable (nonneg L) := by unfold nonneg; infer_instance
def lensI (L : List Int) : Int := if ¬ nonneg L then 1 else if 64 < L.length ∨ 131072 < startI L L.length then 2 else 0
theorem nonneg_at {L : List Int} (h : nonneg L) {i : Nat} (hi : i < L.length) : 0 ≤ L[i] := h _ (List.getElem_mem hi)
theorem nonneg_take_snoc {L : List Int} {i : Nat} (hi : i < L.length) (h : nonneg (L.take i)) (h0 : 0 ≤ L[i]) : nonneg (L.take (i + 1)) := by
  intro x hx
  rw [List.take_succ_eq_append_getElem hi, List.mem_append] at hx
  rcases hx with hx | hx
  · exact h x hx
  · simp at hx; subst hx; exact h0
theorem nonneg_take {L : List Int} (h : nonneg L) (i : Nat) : nonneg (L.take i) := fun x hx => h x (List.mem_of_mem_take hx)
/-- Texts begin one behind the other. -/
theorem startI_mono {L : List Int} : ∀ (j : Nat) (i : Nat), nonneg (L.take j) → i ≤ j → j ≤ L.length → startI L i + (j - i : Nat) ≤ startI L j
  | 0, i, h, hij, hj => by obtain rfl : i = 0 := by omega
                           simp
  | j + 1, i, h, hij, hj => by
    by_cases e : i = j + 1
    · subst e; simp
    · have h' : nonneg (L.take j) := by
        have := nonneg_take h j
        rwa [List.take_take, Nat.min_eq_left (by omega)] at this
      have := startI_mono j i h' (by omega) (by omega)
      have h0 : 0 ≤ L[j] := h _ (by rw [List.take_succ_eq_append_getElem (by omega)]; exact List.mem_append_right _ (List.mem_singleton.2 rfl))
      rw [startI_step (by omega)]
      omega
theorem startI_nonneg {L : List Int} (h : nonneg L) {i : Nat} (hi : i ≤ L.length) : (i : Int) ≤ startI L i := by
  have := startI_mono i 0 (nonneg_take h i) (by omega) hi
  rw [startI_zero] at this; omega
theorem startI_le {L : List Int} (h : nonneg L) {i j : Nat} (hij : i ≤ j) (hj : j ≤ L.length) : startI L i + (j - i : Nat) ≤ startI L j := startI_mono j i (nonneg_take h j) hij hj
/-- The places where texts begin, and where all end. -/
def startsI (L : List Int) (n : Nat) : List Int := (List.range n).map (startI L)
theorem startsI_len (L : List Int) (n : Nat) : (startsI L n).length = n := by simp [startsI]
theorem startsI_at (L : List Int) (n i : Nat) (h : i < (startsI L n).length) : (startsI L n)[i] = startI L i := by simp [startsI]
theorem startsI_snoc (L : List Int) (n : Nat) : startsI L (n + 1) = startsI L n ++ [startI L n] := by simp [startsI, List.range_succ]
/-- Lengths that may be. -/
def okI (L : List Int) : Prop := nonneg L ∧ L.length ≤ 64 ∧ startI L L.length ≤ 131072
theorem lensI_ok {L : List Int} (h : okI L) : lensI L = 0 := by
  unfold lensI; rw [if_neg (by simpa using h.1), if_neg (by rintro (h' | h') <;> have := h.2 <;> omega)]
theorem lensI_neg {L : List Int} (h : ¬ nonneg L) : lensI L = 1 := by unfold lensI; rw [if_pos h]
theorem lensI_much {L : List Int} (h : nonneg L) (h' : 64 < L.length ∨ 131072 < startI L L.length) : lensI L = 2 := by
  unfold lensI; rw [if_neg (by simpa using h), if_pos h']
theorem lensI_cases (L : List Int) : (lensI L = 0 ∧ okI L) ∨ (lensI L = 1 ∧ ¬ okI L) ∨ (lensI L = 2 ∧ ¬ okI L) := by
  by_cases h : nonneg L
  · by_cases h' : 64 < L.length ∨ 131072 < startI L L.length
    · exact .inr (.inr ⟨lensI_much h h', fun o => by rcases h' with h' | h' <;> have := o.2 <;> omega⟩)
    · have o : okI L := ⟨h, by omega, by omega⟩
      exact .inl ⟨lensI_ok o, o⟩
  · exact .inr (.inl ⟨lensI_neg h, fun o => h o.1⟩)
/-- Whose a place is: the text i with startI i ≤ at < startI (i + 1). -/
theorem where_one {L : List Int} (h : nonneg L) {i j : Nat} {p : Int} (hi : i < L.length) (hj : j < L.length) (h1 : startI L i ≤ p) (h2 : p < startI L (i + 1)) (h3 : startI L j ≤ p) (h4 : p < startI L (j + 1)) : i = j := by
  rcases Nat.lt_trichotomy i j with hh | hh | hh
  · have := startI_le h (show i + 1 ≤ j by omega) (by omega); omega
  · exact hh
  · have := startI_le h (show j + 1 ≤ i by omega) (by omega); omega
end Lec

end
section
set_option linter.unusedVariables false
set_option linter.unusedSimpArgs false
namespace Lec
open Go Go.RowKit
/-- Numbers as cells. -/
abbrev natsC (xs : List Nat) : List Value := xs.map fun (x : Nat) => Value.int .i64 (x : Int)
abbrev boolsC (bs : List Bool) : List Value := bs.map Value.bool
/-- Block g holds just these cells, and may be written. -/
def Blk (w : World) (g : Nat) (T : TypeId) (xs : List Value) : Prop := w.heap[g]? = some (.cells xs.toArray T (0, 0))
section
variable {w w' : World} {g : Nat} {T : TypeId} {xs : List Value}
theorem Blk.lt (h : Blk w g T xs) : g < w.heap.size := (Array.getElem?_eq_some_iff.1 h).1
theorem Blk.cellE (h : Blk w g T xs) (o : Nat) : w.cell? ⟨g, o, none⟩ = xs[o]? := by
  rw [cell_of_row _ _ _ _ _ _ h]; simp
theorem Blk.cell (h : Blk w g T xs) {o : Nat} {v : Value} (hv : xs[o]? = some v) : w.cell? ⟨g, o, none⟩ = some v := (h.cellE o).trans hv
theorem Blk.froz (h : Blk w g T xs) (o : Nat) : w.frozen? ⟨g, o, none⟩ = false := by
  unfold World.frozen?; rw [h]; simp
theorem Blk.set (h : Blk w g T xs) (o : Nat) (u : Value) : Blk (w.setCell ⟨g, o, none⟩ u) g T (xs.set o u) := by
  unfold Blk World.setCell; simp [Array.getElem?_modify, show w.heap[g]? = _ from h]
theorem Blk.far (h : Blk w g T xs) {q o : Nat} (u : Value) (hq : g ≠ q) : Blk (w.setCell ⟨q, o, none⟩ u) g T xs := (Below.heap_setCell w ⟨q, o, none⟩ u g hq).trans h
theorem Blk.ext {B : Nat} (h : Blk w g T xs) (hb : Below B w w') (hB : w.heap.size ≤ B) : Blk w' g T xs := (hb.block g (Nat.lt_of_lt_of_le h.lt hB)).trans h
theorem Blk.extlt {B : Nat} (h : Blk w g T xs) (hb : Below B w w') (hB : g < B) : Blk w' g T xs := (hb.block g hB).trans h
theorem Blk.grown {row : Option Nat} (h : Blk w g T xs) (hg : w.grownBy w' row) (hne : row ≠ some g) : Blk w' g T xs := (hg.block g h.lt (Ne.symm hne)).trans h
theorem Blk.drew (h : Blk w g T xs) (n : Nat) : Blk (w.drewN n) g T xs := h
theorem Blk.new (w : World) (cs : Array Value) (T : TypeId) : Blk (w.alloc (.cells cs T)) w.heap.size T cs.toList := by
  unfold Blk; rw [heap_alloc_new]
theorem Blk.rds (h : Blk w g T xs) : Rds w (some ⟨g, 0, none⟩) xs := fun i v hv => ⟨_, rfl, by rw [Addr.add_lit, Nat.zero_add]; exact h.cell hv⟩
theorem Blk.own (h : Blk w g T xs) (n base : Nat) (hb : base ≤ g) (hm : n ≤ maxLen) (hl : xs.length = n) : w.ownsRow base T 1 (.slice (some ⟨g, 0, none⟩) n n) n xs :=
  ⟨by omega, .inr ⟨g, n, xs.toArray, rfl, hb, h, Nat.le_refl _, hm, by simp; omega, by rw [Nat.mul_one, ← hl]; simp⟩⟩
theorem Blk.of_own {n : Nat} {base : Nat} (h : w.ownsRow base T 1 (.slice (some ⟨g, 0, none⟩) n n) n xs) : Blk w g T xs := by
  rcases h.2 with ⟨h', _⟩ | ⟨g', cap', cur, h', _, hg, _, _, hcs, htake⟩
  · simp at h'
  · simp only [Value.slice.injEq, Option.some.injEq, Addr.mk.injEq, and_true, true_and] at h'
    obtain ⟨rfl, rfl⟩ := h'
    unfold Blk
    rw [hg, ← htake, List.take_of_length_le (by simp; omega)]
theorem Blk.one {g' : Nat} {T' : TypeId} {ys : List Value} (h : Blk w g T xs) (k : Blk w g' T' ys) (hn : T ≠ T') : g ≠ g' := by
  intro e; subst e
  have := (show w.heap[g]? = _ from h).symm.trans k
  injection this with k; injection k with _ k2 _; exact hn k2
end
theorem natsC_set (xs : List Nat) (i v : Nat) : natsC (xs.set i v) = (natsC xs).set i (.int .i64 (v : Int)) := by unfold natsC; rw [List.map_set]
theorem intsV_set (xs : List Int) (i : Nat) (v : Int) : intsV (xs.set i v) = (intsV xs).set i (.int .i64 v) := by unfold intsV; rw [List.map_set]
theorem boolsC_set (xs : List Bool) (i : Nat) (v : Bool) : boolsC (xs.set i v) = (boolsC xs).set i (.bool v) := by unfold boolsC; rw [List.map_set]
theorem natsC_at {xs : List Nat} {i v : Nat} (h : xs[i]? = some v) : (natsC xs)[i]? = some (.int .i64 (v : Int)) := by unfold natsC; rw [List.getElem?_map, h]; rfl
theorem intsV_at {xs : List Int} {i : Nat} {v : Int} (h : xs[i]? = some v) : (intsV xs)[i]? = some (.int .i64 v) := by unfold intsV; rw [List.getElem?_map, h]; rfl
theorem boolsC_at {xs : List Bool} {i : Nat} {v : Bool} (h : xs[i]? = some v) : (boolsC xs)[i]? = some (.bool v) := by unfold boolsC; rw [List.getElem?_map, h]; rfl
theorem natsC_ints (xs : List Nat) : natsC xs = intsV (xs.map fun v : Nat => (v : Int)) := by unfold natsC intsV; rw [List.map_map]; rfl
end Lec

end
section
set_option linter.unusedVariables false
set_option linter.unusedSimpArgs false
namespace Lec
open Go
theorem still_of_quiet {P : Program} {ops : Array Oper} {w : World} {Q : Act → Prop} : ∀ (l : List Oper) (a : Act), wpQuiet P ops (fun w' => w' = w) Q l a → wpStill P ops w Q l a
  | [], a, h => h
  | o :: rest, a, h => by
    unfold wpQuiet at h
    unfold wpStill
    split
    · rename_i hw
      rw [if_pos hw] at h
      obtain ⟨v, h1, h2⟩ := h
      have h3 := h1 w rfl
      have h4 := still_of_quiet rest _ h2
      unfold Oper.quietAt at h3
      unfold Oper.still
      generalize (execOp a.eval o).run P w = r at *
      cases r with
      | ok n w' =>
        cases n <;> simp only [Oper.quietUpon] at h3 <;> simp only [Oper.stillUpon]
        case value u => obtain ⟨e1, e2⟩ := h3; subst e1 e2; exact ⟨rfl, h4⟩
        case skip => obtain ⟨e1, e2⟩ := h3; subst e1 e2; exact ⟨rfl, h4⟩
        case enter f args => exact ⟨h3.1, v, h3.2, h4⟩
      | halt x w' => simp only [Oper.quietUpon] at h3
    · rename_i hw
      rw [if_neg hw] at h
      exact still_of_quiet rest _ h
theorem wp_region_qtail {P : Program} {id : Nat} {Q : Exit → Act → World → Prop} {a : Act} {w : World} {l : List Oper} (n : Nat) (hm : P.follows .mixedOrders = true) (hB : Region.lexTailB .any l.toArray n = true)
    (h : wpQuiet P l.toArray (fun w' => w' = w.drewN 1) (fun a' => wpList P l.toArray Q (l.drop n) a' (w.drewN 1)) (l.take n) a) : (Code.region id l.toArray true).wp P Q a w :=
  wp_region_still_tail n hm hB (still_of_quiet _ _ h)
end Lec

end
section
set_option linter.unusedVariables false
set_option linter.unusedSimpArgs false
namespace Lec
open Go Go.RowKit

theorem Rds.drop1 {w : World} {A : Option Addr} {vs : List Value} {c k : Nat} (h : Rds w A vs) (hk : k ≤ vs.length) (hc : vs.length ≤ c) : Rds w (if c = k then A else A.map (·.add k)) (vs.drop k) := by
  intro i v hv
  rw [List.getElem?_drop] at hv
  obtain ⟨a, e, hcell⟩ := h (k + i) v hv
  have hlt : k + i < vs.length := (List.getElem?_eq_some_iff.1 hv).1
  rw [if_neg (by omega), e]
  exact ⟨_, rfl, by rw [add_add]; exact hcell⟩

theorem map_take {α β : Type} (f : α → β) (xs : List α) (k : Nat) : (xs.map f).take k = (xs.take k).map f := List.map_take.symm
theorem map_drop {α β : Type} (f : α → β) (xs : List α) (k : Nat) : (xs.map f).drop k = (xs.drop k).map f := List.map_drop.symm
end Lec

end
section
set_option linter.unusedVariables false
set_option linter.unusedSimpArgs false
namespace Lec
open Go Go.RowKit
theorem wrap_idB {n : Int} (h : -9223372036854775808 ≤ n ∧ n ≤ 9223372036854775807) : IntKind.i64.wrap n = n := by
  rw [IntWalk.i64_left]; exact IntWalk.wrap64_in n h
abbrev intsI (xs : List Int) : List Value := xs.map (Value.int .i64)
/-- Bounds that lie at p: the places. -/
def Bnd (w : World) (p : Nat) (xs : List Int) : Prop := ∃ A c, w.cell? ⟨p, 0, none⟩ = some (.slice A xs.length c) ∧ xs.length ≤ 65 ∧ Rds w A (intsI xs)
theorem Bnd.ext {w w' : World} {p B : Nat} {xs : List Int} (h : Bnd w p xs) (hb : Below B w w') (hB : w.heap.size ≤ B) : Bnd w' p xs := by
  obtain ⟨A, c, h1, h3, h2⟩ := h
  exact ⟨A, c, cell_ext hb hB h1, h3, h2.ext hb hB⟩
end Lec
namespace Go.Proofs.Ytjpcfpffbicpnaa
open Go.RowKit Lec

theorem info_i64 : (Try.prog.info? 3).map (fun i => (i.zero, i.size, i.bytes)) = some (some (.int .i64 0), 1, 8) := by kernel_rfl

theorem bCount_any (w : World) (p : Nat) (xs : List Int) (hb : Bnd w p xs) :
    Calls Try.prog 70 #[.pointer (some ⟨p, 0, none⟩)] w fun e w' => e = .returned (.int .i64 ((xs.length : Int) - 1)) ∧ w = w' := by
  obtain ⟨A, c, h1, h3, h2⟩ := hb
  clear h2
  go_enter Try.func70, Try.ntmps70
  go_wp2
  go_ret
  exact ⟨rfl, rfl⟩
theorem bAll_any (w : World) (p : Nat) (xs : List Int) (x : Int) (hx : xs.getLast? = some x) (hb : Bnd w p xs) :
    Calls Try.prog 68 #[.pointer (some ⟨p, 0, none⟩)] w fun e w' => e = .returned (.int .i64 x) ∧ ∃ q, w.drewN q = w' := by
  obtain ⟨A, c, h1, h3, h2⟩ := hb
  have hl : 0 < xs.length := by cases xs with | nil => simp at hx | cons _ _ => simp
  obtain ⟨a, rfl, hc⟩ := h2.map (xs.length - 1) (by omega)
  have hxe : xs[xs.length - 1]'(by omega) = x := by
    rw [List.getLast?_eq_getElem?, List.getElem?_eq_getElem (by omega)] at hx; exact Option.some.inj hx
  rw [hxe] at hc
  have hn : ((xs.length : Int) - 1).toNat = xs.length - 1 := by omega
  clear h2 hxe hx
  go_enter Try.func68, Try.ntmps68
  go_wp2
  go_quiet (fail)
  go_wp2
  go_ret
  exact ⟨rfl, nq, rfl⟩
theorem bHas_any (w : World) (p : Nat) (xs : List Int) (i : Int) (t : Bool) (ht : decide (0 ≤ i ∧ i < (xs.length : Int) - 1) = t) (hb : Bnd w p xs) :
    Calls Try.prog 90 #[.pointer (some ⟨p, 0, none⟩), .int .i64 i] w fun e w' => e = .returned (.bool t) ∧ w = w' := by
  have HB := Lib.hid hb
  have HT := Lib.hid ht
  clear hb ht
  go_enter Try.func90, Try.ntmps90
  by_cases h0 : 0 ≤ i
  · by_cases h1 : i < (xs.length : Int) - 1
    · have HE : Hid (t = true) := by show _ = _; rw [← HT.out]; exact decide_eq_true ⟨h0, h1⟩
      clear HT
      go_wp2_with (go_at_call 70; refine (bCount_any w p xs HB.out).mono ?_; rintro e wq ⟨rfl, rfl⟩)
      go_ret
      exact ⟨by rw [HE.out]; rfl, rfl⟩
    · have HE : Hid (t = false) := by show _ = _; rw [← HT.out]; exact decide_eq_false (fun h => h1 h.2)
      clear HT
      go_wp2_with (go_at_call 70; refine (bCount_any w p xs HB.out).mono ?_; rintro e wq ⟨rfl, rfl⟩)
      go_ret
      exact ⟨by rw [HE.out]; show Ending.returned (.bool (decide _)) = _; rw [decide_eq_false (by omega)], rfl⟩
  · have HE : Hid (t = false) := by show _ = _; rw [← HT.out]; exact decide_eq_false (fun h => h0 h.1)
    clear HT
    go_wp2
    go_ret
    exact ⟨by rw [HE.out]; rfl, rfl⟩

theorem bStart_none (w : World) (p : Nat) (xs : List Int) (i : Int) (hi : ¬ (0 ≤ i ∧ i < (xs.length : Int) - 1)) (hb : Bnd w p xs) :
    Calls Try.prog 64 #[.pointer (some ⟨p, 0, none⟩), .int .i64 i] w fun e w' => e = .returned (.tuple #[.int .i64 0, .int .i64 3]) ∧ w = w' := by
  have HB := Lib.hid hb
  have HE := Lib.hid (decide_eq_false hi)
  clear hb hi
  go_enter Try.func64, Try.ntmps64
  go_wp2_with fail
  refine (bHas_any w p xs i _ HE.out HB.out).mono ?_
  rintro e wq ⟨rfl, rfl⟩
  go_wp2
  go_ret2
  exact ⟨rfl, rfl⟩

theorem bStart_any (w : World) (p : Nat) (xs : List Int) (i : Nat) (hi : i + 1 < xs.length) (hb : Bnd w p xs) :
    Calls Try.prog 64 #[.pointer (some ⟨p, 0, none⟩), .int .i64 i] w fun e w' => e = .returned (.tuple #[.int .i64 xs[i], .int .i64 0]) ∧ w = w' := by
  have HB := Lib.hid hb
  have HE : Hid (decide (0 ≤ (i : Int) ∧ (i : Int) < (xs.length : Int) - 1) = true) := decide_eq_true (by omega)
  obtain ⟨A, c, h1, h3, h2⟩ := hb
  obtain ⟨a, rfl, hc⟩ := h2.map i (by omega)
  have hil : (i : Int) < (xs.length : Int) := by omega
  clear h2
  generalize xs[i] = x at *
  go_enter Try.func64, Try.ntmps64
  go_wp2_with fail
  refine (bHas_any w p xs i _ HE.out HB.out).mono ?_
  rintro e wq ⟨rfl, rfl⟩
  go_wp2
  go_ret2
  exact ⟨rfl, rfl⟩

theorem bSize_none (w : World) (p : Nat) (xs : List Int) (i : Int) (hi : ¬ (0 ≤ i ∧ i < (xs.length : Int) - 1)) (hb : Bnd w p xs) :
    Calls Try.prog 65 #[.pointer (some ⟨p, 0, none⟩), .int .i64 i] w fun e w' => e = .returned (.tuple #[.int .i64 0, .int .i64 3]) ∧ w = w' := by
  have HB := Lib.hid hb
  have HE := Lib.hid (decide_eq_false hi)
  clear hb hi
  go_enter Try.func65, Try.ntmps65
  go_wp2_with fail
  refine (bHas_any w p xs i _ HE.out HB.out).mono ?_
  rintro e wq ⟨rfl, rfl⟩
  go_wp2
  go_ret2
  exact ⟨rfl, rfl⟩

theorem bSize_any (w : World) (p : Nat) (xs : List Int) (i : Nat) (hi : i + 1 < xs.length) (x y : Int) (hx : xs[i] = x) (hy : xs[i + 1] = y) (hr : 0 ≤ x ∧ x < y ∧ y ≤ 1000000000) (hb : Bnd w p xs) :
    Calls Try.prog 65 #[.pointer (some ⟨p, 0, none⟩), .int .i64 i] w fun e w' => e = .returned (.tuple #[.int .i64 (y - x - 1), .int .i64 0]) ∧ ∃ q, w.drewN q = w' := by
  have HB := Lib.hid hb
  have HE : Hid (decide (0 ≤ (i : Int) ∧ (i : Int) < (xs.length : Int) - 1) = true) := decide_eq_true (by omega)
  obtain ⟨A, c, h1, h3, h2⟩ := hb
  obtain ⟨a, rfl, hc⟩ := h2.map i (by omega)
  obtain ⟨a', e, hc'⟩ := h2.map (i + 1) (by omega)
  obtain rfl := Option.some.inj e
  rw [hx] at hc
  rw [hy] at hc'
  have hil : (i : Int) < (xs.length : Int) := by omega
  have hil2 : (i : Int) + 1 < (xs.length : Int) := by omega
  have hnn : (0 : Int) ≤ (i : Int) + 1 := by omega
  have hc2 : w.cell? ⟨a.block, a.off + (i + 1), none⟩ = some (.int .i64 y) := by
    rw [← hc']; unfold Addr.add; rw [if_neg (by omega)]
  have hin : ((i : Int) + 1).toNat = i + 1 := by omega
  have hw : IntKind.i64.wrap ((i : Int) + 1) = (i : Int) + 1 := wrap_idB (by omega)
  have hw1 : IntKind.i64.wrap (y - x) = y - x := wrap_idB (by omega)
  have hw2 : IntKind.i64.wrap (y - x - 1) = y - x - 1 := wrap_idB (by omega)
  clear h2 hx hy
  go_enter Try.func65, Try.ntmps65
  go_wp2_with fail
  refine (bHas_any w p xs i _ HE.out HB.out).mono ?_
  rintro e wq ⟨rfl, rfl⟩
  go_wp2
  go_quiet (fail)
  go_wp2
  go_ret2
  exact ⟨rfl, nq, rfl⟩
end Go.Proofs.Ytjpcfpffbicpnaa

end
section
set_option linter.unusedVariables false
set_option linter.unusedSimpArgs false
namespace Lec
open Go Go.RowKit

/-- How cells read as an x. -/
structure Rep (α : Type) where
  n : Nat
  R : World → List Value → α → Prop
  ext : ∀ {w w' : World} {cs : List Value} {x : α} {B : Nat}, R w cs x → Below B w w' → w.heap.size ≤ B → R w' cs x

/-- One cell that is a value of its own. -/
def Rep.one {α : Type} (f : α → Value) (p : α → Prop) : Rep α := ⟨1, fun _ cs x => cs = [f x] ∧ p x, fun h _ _ => h⟩

/-- A slice's elements, one behind the other. -/
def Row {α : Type} (r : Rep α) (w : World) (A : Option Addr) (xs : List α) : Prop :=
  ∀ i (h : i < xs.length), ∃ a cs, A = some a ∧ cs.length = r.n ∧ (∀ j v, cs[j]? = some v → w.cell? (a.add (i * r.n + j)) = some v) ∧ r.R w cs xs[i]

theorem Row.ext {α : Type} {r : Rep α} {w w' : World} {A : Option Addr} {xs : List α} {B : Nat} (h : Row r w A xs) (hb : Below B w w') (hB : w.heap.size ≤ B) : Row r w' A xs := fun i hi => by
  obtain ⟨a, cs, e, hl, hc, hr⟩ := h i hi
  exact ⟨a, cs, e, hl, fun j v hv => cell_ext hb hB (hc j v hv), r.ext hr hb hB⟩

theorem Row.rds {α : Type} {f : α → Value} {p : α → Prop} {w : World} {A : Option Addr} {xs : List α} (h : Row (Rep.one f p) w A xs) : Rds w A (xs.map f) := by
  intro i v hv
  obtain ⟨hi, e⟩ := List.getElem?_eq_some_iff.1 hv
  obtain ⟨a, cs, e1, _, hc, e2, _⟩ := h i (by simpa using hi)
  subst e2
  have := hc 0 _ rfl
  refine ⟨a, e1, ?_⟩
  simp only [Rep.one, Nat.mul_one, Nat.add_zero] at this
  rw [this, ← e]; simp

theorem Row.all {α : Type} {f : α → Value} {p : α → Prop} {w : World} {A : Option Addr} {xs : List α} (h : Row (Rep.one f p) w A xs) : ∀ x ∈ xs, p x := by
  intro x hx
  obtain ⟨i, hi, e⟩ := List.getElem_of_mem hx
  obtain ⟨_, _, _, _, _, _, hp⟩ := h i hi
  exact e ▸ hp

def Rep.slice {α : Type} (r : Rep α) (bytes : Nat) : Rep (List α) :=
  ⟨1, fun w cs xs => ∃ A c, cs = [.slice A xs.length c] ∧ xs.length ≤ c ∧ c ≤ maxLen ∧ (A = none → xs.length = 0 ∧ c = 0) ∧ c * bytes ≤ reachBytes ∧ Row r w A xs,
   fun ⟨A, c, h1, h2, h3, h4, h5, h6⟩ hb hB => ⟨A, c, h1, h2, h3, h4, h5, h6.ext hb hB⟩⟩

def Rep.pair {α β : Type} (r : Rep α) (s : Rep β) : Rep (α × β) :=
  ⟨r.n + s.n, fun w cs x => ∃ c1 c2, cs = c1 ++ c2 ∧ c1.length = r.n ∧ r.R w c1 x.1 ∧ s.R w c2 x.2,
   fun ⟨c1, c2, h1, h0, h2, h3⟩ hb hB => ⟨c1, c2, h1, h0, r.ext h2 hb hB, s.ext h3 hb hB⟩⟩

abbrev Rep.int (k : IntKind) : Rep Int := Rep.one (Value.int k) (fun x => (Lit.int k x).wf = true)
abbrev Rep.u8 : Rep UInt8 := Rep.one (fun x => Value.int .u8 (x.toNat : Int)) (fun _ => True)
abbrev Rep.u32 : Rep Nat := Rep.one (fun x => Value.int .u32 (x : Int)) (fun x => x < 4294967296)
abbrev Rep.u64 : Rep Nat := Rep.one (fun x => Value.int .u64 (x : Int)) (fun x => x < 18446744073709551616)
abbrev Rep.bool : Rep Bool := Rep.one Value.bool (fun _ => True)
abbrev Rep.str : Rep ByteArray := Rep.one Value.string (fun s => s.size ≤ reachBytes)

/-- Data of this type reads so. -/
structure Rep.Of {α : Type} (r : Rep α) (P : Program) (t : TypeId) : Prop where
  out : ∀ (H : Type) (enc : TypeId × Value → H) (w : World) (base : Nat) (spare : Nat → Bool) (held : Bool) (fuel : Nat) (cs : List Value) (d : DataW H) (ps : List MemPlace),
    (∀ b, spare b = true) → DataW.trod enc P w base spare held fuel t cs = some (d, ps) → (∀ n ∈ d.weights P t, n ≤ reachBytes) → ∃ x, r.R w cs x

section
variable {P : Program} {t : TypeId}

theorem Rep.int_of {k : IntKind} (ht : P.underlying t = some (.int k)) : (Rep.int k).Of P t := by
  constructor
  intro H enc w base spare held fuel cs d ps _ h _
  obtain ⟨n, rfl, _, hw⟩ := DataW.trod_int ht h
  exact ⟨n, rfl, hw⟩

theorem Rep.of_int {k : IntKind} {α : Type} (r : Rep α) (ht : P.underlying t = some (.int k)) (hr : ∀ w n, (Lit.int k n).wf = true → ∃ x, r.R w [.int k n] x) : r.Of P t := by
  constructor
  intro H enc w base spare held fuel cs d ps hs h hz
  obtain ⟨n, rfl, _, hw⟩ := DataW.trod_int ht h
  exact hr w n hw

theorem Rep.u8_of (ht : P.underlying t = some (.int .u8)) : Rep.u8.Of P t := Rep.of_int _ ht (fun w n h => by
  have hb : 0 ≤ n ∧ n < 256 := by simp [Lit.wf, IntKind.min, IntKind.max, IntKind.bits, IntKind.signed] at h; omega
  refine ⟨UInt8.ofNat n.toNat, ?_, trivial⟩
  have : (UInt8.ofNat n.toNat).toNat = n.toNat := UInt8.toNat_ofNat_of_lt' (by show n.toNat < 256; omega)
  show _ = [Value.int .u8 _]
  rw [this, Int.toNat_of_nonneg hb.1])
theorem Rep.u32_of (ht : P.underlying t = some (.int .u32)) : Rep.u32.Of P t := Rep.of_int _ ht (fun w n h => by
  have hb : 0 ≤ n ∧ n < 4294967296 := by simp [Lit.wf, IntKind.min, IntKind.max, IntKind.bits, IntKind.signed] at h; omega
  refine ⟨n.toNat, ?_, by omega⟩
  show _ = [Value.int .u32 _]
  rw [Int.toNat_of_nonneg hb.1])
theorem Rep.u64_of (ht : P.underlying t = some (.int .u64)) : Rep.u64.Of P t := Rep.of_int _ ht (fun w n h => by
  have hb : 0 ≤ n ∧ n < 18446744073709551616 := by simp [Lit.wf, IntKind.min, IntKind.max, IntKind.bits, IntKind.signed] at h; omega
  refine ⟨n.toNat, ?_, by omega⟩
  show _ = [Value.int .u64 _]
  rw [Int.toNat_of_nonneg hb.1])

theorem Rep.bool_of (ht : P.underlying t = some .bool) : Rep.bool.Of P t := by
  constructor
  intro H enc w base spare held fuel cs d ps _ h _
  obtain ⟨b, rfl, _⟩ := DataW.trod_bool ht h
  exact ⟨b, rfl, trivial⟩

theorem Rep.str_of (ht : P.underlying t = some .string) : Rep.str.Of P t := by
  constructor
  intro H enc w base spare held fuel cs d ps _ h hz
  obtain ⟨s, rfl, e, _⟩ := DataW.trod_string ht h
  obtain ⟨rfl, _⟩ := Prod.mk.inj e
  have := hz s.data.toList.length (by simp [DataW.weights])
  exact ⟨s, rfl, by rw [Array.length_toList] at this; exact this⟩

theorem weightsAll_mem {H : Type} {e : TypeId} : ∀ {ds : List (DataW H)} {d : DataW H}, d ∈ ds → ∀ n ∈ d.weights P e, n ∈ DataW.weightsAll P e ds
  | d0 :: ds, d, hd, n, hn => by
    rw [DataW.weightsAll, List.mem_append]
    rcases List.mem_cons.1 hd with rfl | h
    · exact .inl hn
    · exact .inr (weightsAll_mem h n hn)

theorem pick_list {α : Type} {R : Nat → α → Prop} : ∀ (n : Nat), (∀ i, i < n → ∃ x, R i x) → ∃ xs : List α, xs.length = n ∧ ∀ i (h : i < xs.length), R i xs[i]
  | 0, _ => ⟨[], rfl, fun i h => by simp at h⟩
  | n + 1, h => by
    obtain ⟨xs, hl, hx⟩ := pick_list n (fun i hi => h i (by omega))
    obtain ⟨x, hxn⟩ := h n (by omega)
    refine ⟨xs ++ [x], by simp [hl], fun i hi => ?_⟩
    by_cases e : i < xs.length
    · rw [List.getElem_append_left e]; exact hx i e
    · have : i = xs.length := by simp at hi; omega
      subst this
      rw [List.getElem_append_right (by omega)]
      simpa [hl] using hxn

theorem Rep.slice_of {α : Type} {r : Rep α} {e : TypeId} {bytes : Nat} (ht : P.underlying t = some (.slice e)) (hn : P.cellsOf e = r.n) (hb : P.bytesOf e = bytes) (hr : r.Of P e) : (Rep.slice r bytes).Of P t := by
  constructor
  intro H enc w base spare held fuel cs d ps hs h hz
  rcases DataW.trod_slice ht h with ⟨rfl, _⟩ | ⟨a, len, cap, elems, rest, n, _, rfl, hx, _, hl, hm, hlen, hel, hsp, _⟩
  · exact ⟨[], none, 0, rfl, by simp, by decide, fun _ => ⟨rfl, rfl⟩, by simp, fun i h => by simp at h⟩
  · obtain ⟨rfl, _⟩ := Prod.mk.inj hx
    have hrest := (hsp (hs _)).1
    have hz0 : (elems.length + rest.length) * bytes ≤ reachBytes := by
      have := hz ((elems.length + rest.length) * P.bytesOf e) (by simp [DataW.weights, ht])
      rwa [hb] at this
    have hzi : ∀ d ∈ elems.map (·.1), ∀ n ∈ d.weights P e, n ≤ reachBytes := fun d hd n hn => hz n (by
      simp only [DataW.weights, ht, List.mem_cons, List.mem_append]
      exact .inr (.inl (weightsAll_mem hd n hn)))
    obtain ⟨xs, hxl, hxs⟩ := pick_list (R := fun i x => ∃ cs, cs.length = r.n ∧ (∀ j v, cs[j]? = some v → w.cell? (a.add (i * r.n + j)) = some v) ∧ r.R w cs x) len (fun i hi => by
      have hi' : i < elems.length := by omega
      have h1 := hel i hi
      rw [List.getElem?_eq_getElem hi'] at h1
      obtain ⟨cs, hc, ht2⟩ := Option.bind_eq_some_iff.1 h1
      obtain ⟨_, hcl, hcc⟩ := World.cells?_some hc
      obtain ⟨x, hx⟩ := hr.out H enc w base spare held n cs elems[i].1 elems[i].2 hs ht2 (hzi _ (List.mem_map.2 ⟨_, List.getElem_mem hi', rfl⟩))
      refine ⟨x, cs, by rw [hcl, hn], fun j v hv => ?_, hx⟩
      have hj : j < cs.length := (List.getElem?_eq_some_iff.1 hv).1
      rw [← hn, ← add_add, hcc j (by omega)]; exact hv)
    refine ⟨xs, some a, cap, by rw [hxl], by omega, hm, (fun e => by cases e), ?_, fun i hi => ?_⟩
    · rw [hlen, hrest] at hz0
      have : len + (cap - len) = cap := by omega
      rwa [this] at hz0
    · obtain ⟨cs, h1, h2, h3⟩ := hxs i hi
      exact ⟨a, cs, rfl, h1, h2, h3⟩

/-- The fields from one on. -/
structure FieldsOf {α : Type} (r : Rep α) (P : Program) (fs : List Field) (off : Nat) : Prop where
  out : ∀ (H : Type) (enc : TypeId × Value → H) (w : World) (base : Nat) (spare : Nat → Bool) (held : Bool) (fuel : Nat) (cs : List Value) (ds : List (DataW H × List MemPlace)),
    (∀ b, spare b = true) → cs.length = off + r.n → ds.length = fs.length →
    (∀ (i : Nat) (f : Field), fs[i]? = some f → DataW.trod enc P w base spare held fuel f.type ((cs.drop f.offset).take (P.cellsOf f.type)) = ds[i]?) →
    (∀ n ∈ DataW.weightsEach P (fs.map (·.type)) (ds.map (·.1)), n ≤ reachBytes) → ∃ x, r.R w (cs.drop off) x

theorem FieldsOf.one {α : Type} {r : Rep α} {f : Field} {off : Nat} (ho : f.offset = off) (hn : P.cellsOf f.type = r.n) (hr : r.Of P f.type) : FieldsOf r P [f] off := by
  constructor
  intro H enc w base spare held fuel cs ds hs hl hd hf hz
  match ds, hd with
  | [d], _ =>
    have h := hf 0 f rfl
    rw [ho, hn, List.take_of_length_le (by rw [List.length_drop]; omega)] at h
    exact hr.out H enc w base spare held fuel _ d.1 d.2 hs h (fun n hn => hz n (by simp [DataW.weightsEach, hn]))

theorem FieldsOf.cons {α β : Type} {r : Rep α} {s : Rep β} {f : Field} {fs : List Field} {off : Nat} (ho : f.offset = off) (hn : P.cellsOf f.type = r.n) (hr : r.Of P f.type) (hrest : FieldsOf s P fs (off + r.n)) : FieldsOf (Rep.pair r s) P (f :: fs) off := by
  constructor
  intro H enc w base spare held fuel cs ds hs hl hd hf hz
  match ds, hd with
  | d :: ds, hd =>
    have h := hf 0 f rfl
    rw [ho, hn] at h
    obtain ⟨x, hx⟩ := hr.out H enc w base spare held fuel _ d.1 d.2 hs h (fun n hn => hz n (by simp [DataW.weightsEach, hn]))
    obtain ⟨y, hy⟩ := hrest.out H enc w base spare held fuel cs ds hs (by rw [hl]; simp [Rep.pair]; omega) (by simpa using hd) (fun i f' hf' => hf (i + 1) f' hf') (fun n hn => hz n (by simp only [List.map_cons, DataW.weightsEach, List.mem_append]; exact .inr hn))
    refine ⟨(x, y), _, _, ?_, ?_, hx, hy⟩
    · rw [← List.drop_drop, List.take_append_drop]
    · rw [List.length_take, List.length_drop, hl]; simp only [Rep.pair]; omega

theorem Rep.struct_of {α : Type} {r : Rep α} {fs : Array Field} (ht : P.underlying t = some (.struct fs)) (hn : P.cellsOf t = r.n) (hf : FieldsOf r P fs.toList 0) : r.Of P t := by
  constructor
  intro H enc w base spare held fuel cs d ps hs h hz
  obtain ⟨xs, n, _, hx, hl, hxl, hxs⟩ := DataW.trod_struct ht h
  obtain ⟨rfl, _⟩ := Prod.mk.inj hx
  have := hf.out H enc w base spare held n cs xs hs (by rw [hl, hn, Nat.zero_add]) (by simpa using hxl) (fun i f hf => hxs i f (by simpa using hf)) (fun n hn => hz n (by simp only [DataW.weights, ht]; exact hn))
  simpa using this
end
end Lec

end
section
set_option linter.unusedVariables false
set_option linter.unusedSimpArgs false
namespace Lec
open Go Go.RowKit
theorem i64_wrap_nat (a : Nat) (h : a < 9223372036854775808) : IntKind.i64.wrap (a : Int) = a := by
  rw [IntKind.wrap_i64]; omega
theorem i64_or_nat (a b : Nat) (ha : a < 9223372036854775808) (hb : b < 9223372036854775808) : bits .or .i64 (a : Int) (b : Int) = ((a ||| b : Nat) : Int) := by
  show IntKind.i64.wrap ((BitVec.ofInt 64 (a : Int) ||| BitVec.ofInt 64 (b : Int)).toNat : Int) = _
  rw [BitVec.toNat_or, ofInt_u64 a (by omega), ofInt_u64 b (by omega)]
  exact i64_wrap_nat _ (Nat.or_lt_two_pow (n := 63) ha hb)
theorem i64_and_nat (a b : Nat) (ha : a < 9223372036854775808) (hb : b < 9223372036854775808) : bits .and .i64 (a : Int) (b : Int) = ((a &&& b : Nat) : Int) := by
  show IntKind.i64.wrap ((BitVec.ofInt 64 (a : Int) &&& BitVec.ofInt 64 (b : Int)).toNat : Int) = _
  rw [BitVec.toNat_and, ofInt_u64 a (by omega), ofInt_u64 b (by omega)]
  exact i64_wrap_nat _ (Nat.and_lt_two_pow (n := 63) a hb)
end Lec

end
section
set_option linter.unusedVariables false
set_option linter.unusedSimpArgs false
namespace Lec
open Go Go.RowKit
theorem own_set {w : World} {base : Nat} {e : TypeId} {size : Nat} {v : Value} {n : Nat} {xs : List Value} {p o : Nat} (h : w.ownsRow base e size v n xs) (hp : p < base) (u : Value) : (w.setCell ⟨p, o, none⟩ u).ownsRow base e size v n xs := by
  refine ⟨h.1, ?_⟩
  rcases h.2 with h0 | ⟨g, cap, cur, rfl, hbg, hg, rest⟩
  · exact .inl h0
  · exact .inr ⟨g, cap, cur, rfl, hbg, (Below.heap_setCell w ⟨p, o, none⟩ u g (by show g ≠ p; omega)).trans hg, rest⟩
theorem wrapI {n : Int} (h : -9223372036854775808 ≤ n ∧ n ≤ 9223372036854775807) : IntKind.i64.wrap n = n := by
  rw [IntWalk.i64_left]; exact IntWalk.wrap64_in n h
theorem Blk.allocA {w : World} {g : Nat} {T : TypeId} {xs : List Value} (h : Blk w g T xs) (o : Obj) : Blk (w.alloc o) g T xs := h.ext ((Below.refl _ _).alloc (Nat.le_refl _) o) (Nat.le_refl _)
theorem add_pos (a : Addr) (j : Nat) (h : 0 < j) : a.add j = ⟨a.block, a.off + j, none⟩ := by unfold Addr.add; rw [if_neg (by omega)]
theorem Blk.drew1 {w : World} {g : Nat} {T : TypeId} {xs : List Value} (h : Blk w g T xs) : Blk w.drew g T xs := h
theorem Below.drew1 {w w' : World} {B : Nat} (h : Below B w w') : Below B w w'.drew := ⟨h.os, h.tape, h.output, h.size, h.block⟩
theorem Blk.newL (w : World) (cs : Array Value) (T : TypeId) (g : Nat) (xs : List Value) (hg : g = w.heap.size) (hx : cs.toList = xs) : Blk (w.alloc (.cells cs T)) g T xs := by
  subst hg hx; exact Blk.new w cs T
theorem Below.allocA {w w' : World} {B : Nat} (h : Below B w w') (hB : B ≤ w.heap.size) (o : Obj) : Below B w (w'.alloc o) := h.alloc (Nat.le_trans hB h.size) o
/-- append in a region that draws its order: the row that is owned grows. -/
theorem app_opM {P : Program} {ops : Array Oper} {o : Oper} {a : Act} {w : World} {K : Act → World → Prop} {Q : Exit → Act → World → Prop} (hgd : o.guard = none) (s x : Operand) (t : TypeId)
    (ho : o.op = .call { callee := .builtin .append, args := #[s, x], argTypes := #[t, t] })
    (base : Nat) (e : TypeId) (z : Value) (size bytes : Nat) (ht : P.underlying t = some (.slice e)) (hinfo : (P.info? e).map (fun i => (i.zero, i.size, i.bytes)) = some (some z, size, bytes))
    (hzs : z.cells.size = size) (hsz : 0 < size) (hby : 0 < bytes)
    (v : Value) (n : Nat) (xs : List Value) (hs : a.eval s = v) (hown : w.ownsRow base e size v n xs)
    (ad : Addr) (m c : Nat) (news : List Value) (hx : a.eval x = .slice (some ad) m c) (hl : news.length = m * size) (hnews : Rds w (some ad) news) (h1 : ∀ u ∈ news, u.oneCell' = true)
    (hbytes : (n + m) * bytes ≤ 140737488355328) (hbase : base ≤ w.heap.size)
    (h : ∀ v' w', w'.ownsRow base e size v' (n + m) (xs ++ news) → w.grownBy w' v.ownBlock → K (a.put o.dst v') w') :
    if Region.wanted o (yielded ops a.tmps) = true then Oper.wp P o a w K Q else K (a.put o.dst undef) w := by
  obtain ⟨i, hi, hz0, hz1, hz2⟩ := info_parts hinfo
  have hmax : n + m ≤ maxLen := by
    have : (n + m) * 1 ≤ (n + m) * bytes := Nat.mul_le_mul_left _ hby
    simp only [maxLen]; omega
  rw [if_pos (by simp [Region.wanted, hgd])]
  exact wp_append_own w s x t ho base e i z size bytes ht hi hz0 hz1 hz2 hzs hsz v n xs hs hown ad m c news hx hl (fun j u hu => by obtain ⟨a', e', hc⟩ := hnews j u hu; cases e'; exact hc) h1 hmax hbytes hbase (fun v' w' p q _ => h v' w' p q)
theorem rds_litM (w : World) (cs : Array Value) (T : TypeId) : Rds (w.alloc (.cells cs T)) (some ⟨w.heap.size, 0, none⟩) cs.toList := by
  intro i u hu
  refine ⟨_, rfl, ?_⟩
  rw [Addr.add_lit, cell_of_row _ w.heap.size _ cs T (0, 0) (heap_alloc_new _ _)]
  simpa using hu
end Lec
namespace Go.Proofs.Ytjpcfpffbicpnaa
open Go.RowKit Lec
theorem info_intM : (Try.prog.info? 3).map (fun i => (i.zero, i.size, i.bytes)) = some (some (.int .i64 0), 1, 8) := by kernel_rfl
theorem info_boolM : (Try.prog.info? 4).map (fun i => (i.zero, i.size, i.bytes)) = some (some (.bool false), 1, 1) := by kernel_rfl
/-- make([]int, n). -/
theorem mk_ints (n : Nat) (hn : n ≤ 1000000000) (w : World) : (Instr.makeSlice 57 (.int .i64 (n : Int)) (.int .i64 (n : Int))).run Try.prog w = .ok (.slice (some ⟨w.heap.size, 0, none⟩) n n) (w.alloc (.cells (List.replicate n (Value.int .i64 0)).toArray 3)) := by
  obtain ⟨i, hi, hz, hs, hy⟩ := info_parts info_intM
  have h := run_make w 57 3 i (.int .i64 0) Try.underlying57 hi hz .i64 .i64 (n : Int) (n : Int) (by omega) (by omega) (by rw [hy]; omega) (by omega)
  rw [h, hs]
  simp only [Int.toNat_natCast, Nat.mul_one]
  rw [show madeCells (Value.int .i64 0).cells n = (List.replicate n (Value.int .i64 0)).toArray from by rw [← toList_madeCells_one]; rfl]
theorem mk_bools (n : Nat) (hn : n ≤ 1000000000) (w : World) : (Instr.makeSlice 131 (.int .i64 (n : Int)) (.int .i64 (n : Int))).run Try.prog w = .ok (.slice (some ⟨w.heap.size, 0, none⟩) n n) (w.alloc (.cells (List.replicate n (Value.bool false)).toArray 4)) := by
  obtain ⟨i, hi, hz, hs, hy⟩ := info_parts info_boolM
  have h := run_make w 131 4 i (.bool false) Try.underlying131 hi hz .i64 .i64 (n : Int) (n : Int) (by omega) (by omega) (by rw [hy]; omega) (by omega)
  rw [h, hs]
  simp only [Int.toNat_natCast, Nat.mul_one]
  rw [show madeCells (Value.bool false).cells n = (List.replicate n (Value.bool false)).toArray from by rw [← toList_madeCells_one]; rfl]

end Go.Proofs.Ytjpcfpffbicpnaa

end
section
set_option linter.unusedVariables false
set_option linter.unusedSimpArgs false
namespace Lec
open Go Go.RowKit
theorem wrap_two (n : Nat) (h : n < 256) : wrap64 (wrap64 (n : Int)) = (n : Int) := by
  rw [IntWalk.wrap64_in (n : Int) (by omega), IntWalk.wrap64_in (n : Int) (by omega)]
theorem wrap_eight (n : Nat) (h : n < 256) : wrap64 (8 + wrap64 (n : Int)) = ((8 + n : Nat) : Int) := by
  rw [IntWalk.wrap64_in (n : Int) (by omega), IntWalk.wrap64_in _ (by omega)]; omega
theorem tab_at (b : ByteArray) (x : Nat) (h : x < b.size) (hall : ((List.range 256).all fun z => decide (z < 2 ^ (b.get! z).toNat) && decide ((b.get! z).toNat ≤ 8)) = true) (hx : x < 256) : x < 2 ^ (b.get x h).toNat ∧ (b.get x h).toNat ≤ 8 := by
  have h1 := List.all_eq_true.1 hall x (List.mem_range.2 hx)
  have h2 : b.get! x = b.get x h := by
    show b.data[x]! = b.data[x]
    rw [getElem!_pos b.data x h]
  rw [h2, Bool.and_eq_true, decide_eq_true_iff, decide_eq_true_iff] at h1
  exact h1
theorem tab_one (b : ByteArray) (x : Nat) (h : x < b.size) (hx : x = 1) (hb : (b.get! 1).toNat = 1) : (b.get x h).toNat = 1 := by
  subst hx
  have h2 : b.get! 1 = b.get 1 h := by
    show b.data[1]! = b.data[1]
    rw [getElem!_pos b.data 1 h]
  rw [← h2, hb]
end Lec
namespace Go.Proofs.Ytjpcfpffbicpnaa
open Go.RowKit Lec
set_option maxRecDepth 100000 in
theorem Len64_any (w : World) (x : Nat) (hx : x < 512) :
    Calls Try.prog 112 #[.int .u64 (x : Int)] w fun e w' => (∃ n : Nat, e = .returned (.int .i64 (n : Int)) ∧ x < 2 ^ n ∧ n ≤ 9) ∧ w = w' := by
  have h1 : ¬ (4294967296 : Int) ≤ (x : Int) := by omega
  have h2 : ¬ (65536 : Int) ≤ (x : Int) := by omega
  go_enter Try.func112, Try.ntmps112
  by_cases h3 : (256 : Int) ≤ (x : Int)
  · obtain ⟨y, hy⟩ : ∃ y : Nat, (x : Int) / 256 = (y : Int) := ⟨x / 256, by omega⟩
    have hy2 : (y : Int) < 256 := by omega
    have HY : Hid (y = 1) := by show _ = _; omega
    have HX : Hid (x < 512) := hx
    clear hx
    go_wp2
    go_ret
    refine ⟨⟨8 + (ByteArray.get _ y _).toNat, congrArg (fun z => Ending.returned (.int .i64 z)) (wrap_eight _ (UInt8.toNat_lt _)), ?_, ?_⟩, rfl⟩
    · rw [tab_one _ _ _ HY.out (by kernel_rfl)]; have := HX.out; omega
    · rw [tab_one _ _ _ HY.out (by kernel_rfl)]; omega
  · go_wp2
    go_ret
    refine ⟨⟨(ByteArray.get _ x _).toNat, congrArg (fun z => Ending.returned (.int .i64 z)) (wrap_two _ (UInt8.toNat_lt _)), ?_, ?_⟩, rfl⟩
    · exact (tab_at _ _ _ (by kernel_rfl) (by omega)).1
    · exact Nat.le_trans (tab_at _ _ _ (by kernel_rfl) (by omega)).2 (by omega)
theorem mbLen_any (w : World) (x : Nat) (hx : x < 512) :
    Calls Try.prog 83 #[.int .u64 (x : Int)] w fun e w' => (∃ n : Nat, e = .returned (.int .i64 (n : Int)) ∧ x < 2 ^ n ∧ n ≤ 9) ∧ w = w' := by
  have HC := Lib.hid (Len64_any w x hx)
  go_enter Try.func83, Try.ntmps83
  go_wp2_with fail
  refine HC.out.mono ?_
  rintro e w1 ⟨⟨n, rfl, hn, hn9⟩, rfl⟩
  go_wp2
  go_ret
  exact ⟨⟨n, rfl, hn, hn9⟩, rfl⟩
end Go.Proofs.Ytjpcfpffbicpnaa

end