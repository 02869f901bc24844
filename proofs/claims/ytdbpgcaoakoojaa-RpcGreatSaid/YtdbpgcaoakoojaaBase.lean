/- The words of this session's walks: what a slice's cells read as; small laws. No program stands here. -/
import Derived.WalkKit
import Derived.WalkSpells
import Derived.WalkLawsBesides
import Derived.Outline
import Derived.Deep.LoopGhost
import Derived.Deep.DeepCutAuto
import Derived.Below
import Derived.Lib.Hide
import Derived.Laws.BitsAllLaws
import Derived.IntWalk
import Derived.Lib.SlBytesConst
import Derived.Deep.RegionWith
import Derived.Deep.RegionLaw
import Derived.BigRegion
import Derived.StillTailTactics
import Derived.Laws.CopyOwn
import Derived.Laws.BitsLemmas
import Derived.OrdersHeld
import Derived.Laws.IdiomCopy
import Derived.ArgAppend
import Derived.Lib.AppendStr
import Derived.Laws.Rows
import Derived.Deep.RegionHeld3
import Derived.Deep.CutBlock
import Derived.WideLaws
import Derived.BigQuiet
import Derived.Deep.QuietTactic
import Derived.RowKit3
import Derived.KernelRfl
import Derived.Laws.Slices
import Derived.Lib.ConvBytes
import Derived.Tactics
import Derived.Deep.OwnRows
import Derived.Laws.OwnMore
import Derived.Laws.MakeOwn
import Derived.Laws.BytesArg
import Derived.OwnWalk
import Derived.Maps.AppendAt
import Derived.Deep.AppendLies
import Derived.Deep.Draws
set_option linter.unusedVariables false
set_option linter.unusedSimpArgs false
namespace Lec
open Go Go.RowKit

/-- The cells from A on read as these values. -/
def Rds (w : World) (A : Option Addr) (vs : List Value) : Prop := ∀ i v, vs[i]? = some v → ∃ a, A = some a ∧ w.cell? (a.add i) = some v

theorem Rds.nil (w : World) (A : Option Addr) : Rds w A [] := fun i v h => by simp at h

/-- What was there reads as it did. -/
theorem cell_ext {w w' : World} {B : Nat} (h : Below B w w') (hB : w.heap.size ≤ B) {a : Addr} {v : Value} (hc : w.cell? a = some v) : w'.cell? a = some v :=
  (h.cell (Nat.lt_of_lt_of_le (World.block_lt_of_cell? w a hc) hB)).trans hc

theorem Rds.ext {w w' : World} {B : Nat} {A : Option Addr} {vs : List Value} (h : Rds w A vs) (hb : Below B w w') (hB : w.heap.size ≤ B) : Rds w' A vs :=
  fun i v hv => let ⟨a, ha, hc⟩ := h i v hv; ⟨a, ha, cell_ext hb hB hc⟩

theorem Rds.take {w : World} {A : Option Addr} {vs : List Value} (h : Rds w A vs) (n : Nat) : Rds w A (vs.take n) := fun i v hv => by
  rw [List.getElem?_take] at hv
  split at hv
  · exact h i v hv
  · cases hv

theorem add_add (a : Addr) (i j : Nat) : (a.add i).add j = a.add (i + j) := by
  unfold Addr.add
  split <;> split <;> simp_all <;> omega

theorem add_fld (a : Addr) (m j : Nat) (h : 0 < j) : a.add (m + j) = ⟨(a.add m).block, (a.add m).off + j, none⟩ := by
  rw [← add_add]
  unfold Addr.add
  rw [if_neg (by omega)]

abbrev bytesV (bs : List UInt8) : List Value := bs.map fun b => Value.int .u8 (b.toNat : Int)
abbrev intsV (xs : List Int) : List Value := xs.map (Value.int .i64)

theorem Rds.byte {w : World} {A : Option Addr} {bs : List UInt8} (h : Rds w A (bytesV bs)) (i : Nat) (hi : i < bs.length) : ∃ a, A = some a ∧ w.cell? (a.add i) = some (.int .u8 (bs[i].toNat : Int)) :=
  h i _ (by simp [bytesV, hi])

theorem setCell_twice (w : World) (g o : Nat) (v u : Value) : (w.setCell ⟨g, o, none⟩ v).setCell ⟨g, o, none⟩ u = w.setCell ⟨g, o, none⟩ u := by
  simp only [World.setCell]
  congr 1
  apply Array.ext_getElem?
  intro i
  simp only [Array.getElem?_modify]
  split
  · rename_i h; subst h
    cases w.heap[g]? with
    | none => rfl
    | some ob => cases ob <;> simp
  · rfl

theorem setCell_same (w : World) (g o : Nat) (v : Value) (h : w.cell? ⟨g, o, none⟩ = some v) : w.setCell ⟨g, o, none⟩ v = w := by
  have : (w.setCell ⟨g, o, none⟩ v).heap = w.heap := by
    simp only [World.setCell]
    apply Array.ext_getElem?
    intro i
    simp only [Array.getElem?_modify]
    split
    · rename_i hi; subst hi
      unfold World.cell? at h
      cases hh : w.heap[g]? with
      | none => rfl
      | some ob =>
        cases ob <;> simp_all
        rename_i c e f
        obtain ⟨hlt, hv⟩ := Array.getElem?_eq_some_iff.1 h
        apply Array.ext_getElem?
        intro j
        rw [Array.getElem?_setIfInBounds]
        split
        · rename_i hj; subst hj; simp [hlt, hv]
        · rfl
    · rfl
  cases w
  simp only [World.setCell] at this ⊢
  simp only [World.mk.injEq, and_true, true_and]
  exact this

theorem cell_set_self {w : World} {g o : Nat} {v : Value} (u : Value) (h : w.cell? ⟨g, o, none⟩ = some v) : (w.setCell ⟨g, o, none⟩ u).cell? ⟨g, o, none⟩ = some u := by
  unfold World.cell? World.setCell at *
  cases hh : w.heap[g]? with
  | none => simp [hh] at h
  | some ob =>
    cases ob <;> simp_all [Array.getElem?_modify]
    rw [Array.getElem?_setIfInBounds, if_pos rfl, if_pos (Array.getElem?_eq_some_iff.1 h).1]

theorem cell_set_far {w : World} {p a : Addr} (u : Value) (h : a.block ≠ p.block) : (w.setCell p u).cell? a = w.cell? a :=
  World.cell?_of_block (Below.heap_setCell w p u a.block h)

theorem cell_set_off {w : World} {g o i : Nat} (u : Value) (h : i ≠ o) : (w.setCell ⟨g, o, none⟩ u).cell? ⟨g, i, none⟩ = w.cell? ⟨g, i, none⟩ := by
  unfold World.cell? World.setCell
  simp only [Array.getElem?_modify, if_true]
  cases hh : w.heap[g]? with
  | none => rfl
  | some ob =>
    cases ob <;> simp
    rw [Array.getElem?_setIfInBounds, if_neg (fun e => h e.symm)]

theorem frozen_set {w : World} {p a : Addr} (u : Value) : (w.setCell p u).frozen? a = w.frozen? a := by
  by_cases h : a.block = p.block
  · unfold World.frozen? World.setCell
    simp only [Array.getElem?_modify, h, if_true]
    cases hh : w.heap[p.block]? with
    | none => rfl
    | some ob => cases ob <;> rfl
  · exact World.frozen?_of_block (Below.heap_setCell w p u a.block h)

theorem add_block (a : Addr) (n : Nat) : (a.add n).block = a.block := by unfold Addr.add; split <;> rfl

theorem u32_not (a : Nat) (ha : a < 4294967296) : bits .xor .u32 4294967295 (a : Int) = ((4294967295 - a : Nat) : Int) := by
  have e := u32_xor_nat 4294967295 a (by omega) ha
  have h : (4294967295 : Nat) ^^^ a = 4294967295 - a := by
    have := BitVec.allOnes_xor (x := BitVec.ofNat 32 a)
    have h2 := congrArg BitVec.toNat this
    rw [BitVec.toNat_xor, BitVec.toNat_not, BitVec.toNat_ofNat, BitVec.toNat_allOnes, Nat.mod_eq_of_lt (by omega)] at h2
    omega
  rw [h] at e
  exact e

theorem Rds.blk {w : World} {A : Option Addr} {vs : List Value} (h : Rds w A vs) {a : Addr} (ha : A = some a) (h0 : 0 < vs.length) : a.block < w.heap.size := by
  obtain ⟨a', e, hc⟩ := h 0 _ (List.getElem?_eq_getElem h0)
  rw [ha] at e
  obtain rfl := Option.some.inj e
  have := World.block_lt_of_cell? w _ hc
  rwa [add_block] at this

/-! Rows of the call's own. -/
theorem own_grown {w w' : World} {base : Nat} {e : TypeId} {size : Nat} {v : Value} {n : Nat} {xs : List Value} {row : Option Nat} (h : w.ownsRow base e size v n xs) (hg : w.grownBy w' row)
    (hne : ∀ k, v.ownBlock = some k → row ≠ some k) : w'.ownsRow base e size v n xs :=
  h.kept hg (by cases hv : v.ownBlock with | none => exact .inl rfl | some k => exact .inr (fun e => hne k hv e.symm))

theorem grown_below {w w' : World} {row : Option Nat} {B : Nat} (hb : Below B w w') (hB : w.heap.size ≤ B) : w.grownBy w' row :=
  ⟨hb.os, hb.tape, hb.output, hb.size, fun k hk _ => hb.block k (Nat.lt_of_lt_of_le hk hB)⟩

theorem own_ext {w w' : World} {base : Nat} {e : TypeId} {size : Nat} {v : Value} {n : Nat} {xs : List Value} {B : Nat} (h : w.ownsRow base e size v n xs) (hb : Below B w w') (hB : w.heap.size ≤ B) : w'.ownsRow base e size v n xs :=
  own_grown (row := none) h (grown_below hb hB) (fun _ _ e => by cases e)

theorem own_rds {w : World} {base : Nat} {e : TypeId} {size : Nat} {v : Value} {n : Nat} {xs : List Value} (h : w.ownsRow base e size v n xs) :
    ∃ A c, v = .slice A n c ∧ n ≤ c ∧ c ≤ maxLen ∧ (A = none → n = 0 ∧ c = 0) ∧ Rds w A xs ∧ (∀ a, A = some a → ∃ g, a = ⟨g, 0, none⟩ ∧ base ≤ g ∧ g < w.heap.size) := by
  rcases h.2 with ⟨rfl, rfl⟩ | ⟨g, cap, cur, rfl, hbg, hg, hnc, hcm, hcs, htake⟩
  · refine ⟨none, 0, rfl, Nat.le_refl _, by decide, fun _ => ⟨rfl, rfl⟩, ?_, fun a ha => by cases ha⟩
    have : xs = [] := List.eq_nil_of_length_eq_zero (by simpa using h.1)
    subst this; exact Rds.nil _ _
  · refine ⟨_, cap, rfl, hnc, hcm, fun e => (by cases e), ?_, fun a ha => ⟨g, (Option.some.inj ha).symm, hbg, (Array.getElem?_eq_some_iff.1 hg).1⟩⟩
    intro i u hu
    exact ⟨_, rfl, h.cells (g := g) rfl i u hu⟩

theorem own_len {w : World} {base : Nat} {e : TypeId} {size : Nat} {v : Value} {n : Nat} {xs : List Value} (h : w.ownsRow base e size v n xs) : xs.length = n * size := h.1

theorem own_lower {w : World} {base base' : Nat} {e : TypeId} {size : Nat} {v : Value} {n : Nat} {xs : List Value} (h : w.ownsRow base e size v n xs) (hb : base' ≤ base) : w.ownsRow base' e size v n xs := by
  refine ⟨h.1, ?_⟩
  rcases h.2 with hn | ⟨g, cap, cur, rfl, hbg, rest⟩
  · exact .inl hn
  · exact .inr ⟨g, cap, cur, rfl, Nat.le_trans hb hbg, rest⟩

section append
variable {P : Program} {w : World} {ops : Array Oper} {rest : List Oper} {o : Oper} {a : Act} {Q : Exit → Act → World → Prop}

/-- append(s, xs...), s the call's own, whatever the row of xs. -/
theorem wp_app (hgd : o.guard = none) (s x : Operand) (t : TypeId)
    (ho : o.op = .call { callee := .builtin .append, args := #[s, x], argTypes := #[t, t] })
    (base : Nat) (e : TypeId) (z : Value) (size bytes : Nat) (ht : P.underlying t = some (.slice e)) (hinfo : (P.info? e).map (fun i => (i.zero, i.size, i.bytes)) = some (some z, size, bytes))
    (hzs : z.cells.size = size) (hsz : 0 < size) (hby : 0 < bytes)
    (v : Value) (n : Nat) (xs : List Value) (hs : a.eval s = v) (hown : w.ownsRow base e size v n xs)
    (A : Option Addr) (m c : Nat) (news : List Value) (hx : a.eval x = .slice A m c) (hA : A = none → m = 0 ∧ c = 0) (hl : news.length = m * size) (hnews : Rds w A news) (h1 : ∀ u ∈ news, u.oneCell' = true)
    (hbytes : (n + m) * bytes ≤ 140737488355328) (hbase : base ≤ w.heap.size)
    (h : ∀ v' w', w'.ownsRow base e size v' (n + m) (xs ++ news) → w.grownBy w' v.ownBlock → wpList P ops Q rest (a.put o.dst v') w') : wpList P ops Q (o :: rest) a w := by
  obtain ⟨i, hi, hz0, hz1, hz2⟩ := info_parts hinfo
  have hmax : n + m ≤ maxLen := by
    have : (n + m) * 1 ≤ (n + m) * bytes := Nat.mul_le_mul_left _ hby
    simp only [maxLen]; omega
  cases A with
  | some ad =>
    refine wpList_append_own w hgd s x t ho base e i z size bytes ht hi hz0 hz1 hz2 hzs hsz v n xs hs hown ad m c news hx hl ?_ h1 hmax hbytes hbase (fun v' w' p q _ => h v' w' p q)
    intro j u hu
    obtain ⟨ad', e', hc⟩ := hnews j u hu
    rw [Option.some.inj e']; exact hc
  | none =>
    obtain ⟨rfl, rfl⟩ := hA rfl
    have hn : news = [] := List.eq_nil_of_length_eq_zero (by simpa using hl)
    subst hn
    refine wpList_plain hgd fun K hK' => ?_
    have hrun := run_append_owned_none (P := P) w base t o.type e i size ht hi v n xs hown
    unfold Oper.wp
    simp [execOp, ho, resolve, invoke, builtin, hs, hx, hrun, Result.andThen]
    exact hK' _ _ (by simpa using h v w (by simpa using hown) (World.grownBy.refl _ _))

/-- append(s, x): one element, laid just before into a block of its own. -/
theorem wp_app1 {w0 : World} {t' : TypeId} {cs : Array Value} (hw : w = w0.alloc (.cells cs t')) (hgd : o.guard = none) (s x : Operand) (t : TypeId)
    (ho : o.op = .call { callee := .builtin .append, args := #[s, x], argTypes := #[t, t] })
    (base : Nat) (e : TypeId) (z : Value) (size bytes : Nat) (ht : P.underlying t = some (.slice e)) (hinfo : (P.info? e).map (fun i => (i.zero, i.size, i.bytes)) = some (some z, size, bytes))
    (hzs : z.cells.size = size) (hsz : 0 < size) (hby : 0 < bytes)
    (v : Value) (n : Nat) (xs : List Value) (hs : a.eval s = v) (hown : w0.ownsRow base e size v n xs)
    (hx : a.eval x = .slice (some ⟨w0.heap.size, 0, none⟩) 1 1) (hl : cs.size = size) (h1 : ∀ u ∈ cs.toList, u.oneCell' = true)
    (hbytes : (n + 1) * bytes ≤ 140737488355328) (hbase : base ≤ w0.heap.size)
    (h : ∀ v' w', w'.ownsRow base e size v' (n + 1) (xs ++ cs.toList) → w.grownBy w' v.ownBlock → Below base w0 w' → wpList P ops Q rest (a.put o.dst v') w') : wpList P ops Q (o :: rest) a w := by
  subst hw
  have hb0 : Below w0.heap.size w0 (w0.alloc (.cells cs t')) := (Below.refl _ _).alloc (Nat.le_refl _) _
  refine wp_app hgd s x t ho base e z size bytes ht hinfo hzs hsz hby v n xs hs (own_ext hown hb0 (Nat.le_refl _)) (some ⟨w0.heap.size, 0, none⟩) 1 1 cs.toList hx (fun e => by cases e) (by simp [hl]) ?_ h1 hbytes (by simp; omega) ?_
  · intro i u hu
    refine ⟨_, rfl, ?_⟩
    rw [Addr.add_lit, cell_of_row _ w0.heap.size _ cs t' (0, 0) (heap_alloc_new _ _)]
    simpa using hu
  · intro v' w' p q
    refine h v' w' p q ?_
    refine (hb0.mono hbase).grown q (by simp; omega) ?_
    intro k hk
    exact (hown.lt k hk).1
end append

theorem map_take_snoc {α β : Type} (f : α → β) (xs : List α) (k : Nat) (h : k < xs.length) : (xs.take (k + 1)).map f = (xs.take k).map f ++ [f xs[k]] := by
  rw [List.take_succ_eq_append_getElem h, List.map_append]; rfl

/-- A slice of elements of one cell. -/
theorem Rds.map {α : Type} {f : α → Value} {w : World} {A : Option Addr} {xs : List α} (h : Rds w A (xs.map f)) (i : Nat) (hi : i < xs.length) : ∃ a, A = some a ∧ w.cell? (a.add i) = some (f xs[i]) :=
  h i _ (by simp [hi])

theorem one_cell1 {v : Value} (hv : v.oneCell' = true) : ∀ u ∈ (#[v] : Array Value).toList, u.oneCell' = true := by intro u hu; simp at hu; subst hu; exact hv

theorem eq_of_getElem {α : Type} {xs ys : List α} (hl : xs.length = ys.length) (h : ∀ i (h1 : i < xs.length) (h2 : i < ys.length), xs[i] = ys[i]) : xs = ys := List.ext_getElem hl h

theorem drawn1 (w : World) (q : Nat) : ∃ p, w.drewN p = w.drewN q := ⟨q, rfl⟩
theorem drawn0 (w : World) : ∃ p, w.drewN p = w := ⟨0, rfl⟩
theorem drawn2 (w : World) (q n : Nat) : ∃ p, w.drewN p = (w.drewN q).drewN n := ⟨q + n, by simp [World.drewN, Nat.add_assoc]⟩
theorem drawn_below (w : World) (q : Nat) : Below w.heap.size w (w.drewN q) := ⟨rfl, rfl, rfl, Nat.le_refl _, fun _ _ => rfl⟩

theorem str_inj {s t : ByteArray} (h : s.toList = t.toList) : s = t := by
  rw [ByteArray.toList_eq, ByteArray.toList_eq] at h
  cases s; cases t; simp_all [Array.toList_inj]

end Lec
