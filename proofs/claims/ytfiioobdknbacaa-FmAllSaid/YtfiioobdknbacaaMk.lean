/- New rows of numbers; small facts about blocks. -/
import Derived.Test.YtfiioobdknbacaaBlk
import Derived.Test.YtfiioobdknbacaaProg
import Derived.Deep.DrawnRows
import Derived.Test.YtfiioobdknbacaaQTail
set_option linter.unusedVariables false
set_option linter.unusedSimpArgs false
namespace Lec
open Go Go.RowKit
theorem own_set {w : World} {base : Nat} {e : TypeId} {size : Nat} {v : Value} {n : Nat} {xs : List Value} {p o : Nat} (h : w.ownsRow base e size v n xs) (hp : p < base) (u : Value) : (w.setCell ⟨p, o, none⟩ u).ownsRow base e size v n xs := by
  refine ⟨h.1, ?_⟩
  rcases h.2 with h0 | ⟨g, cap, cur, rfl, hbg, hg, rest⟩
  · exact .inl h0
  · exact .inr ⟨g, cap, cur, rfl, hbg, (Below.heap_setCell w ⟨p, o, none⟩ u g (by show g ≠ p; omega)).trans hg, rest⟩
theorem wrapI {n : Int} (h : -9223372036854775808 ≤ n ∧ n ≤ 9223372036854775807) : IntKind.i64.wrap n = n := by
  rw [IntWalk.i64_left]; exact IntWalk.wrap64_in n h
theorem Blk.allocA {w : World} {g : Nat} {T : TypeId} {xs : List Value} (h : Blk w g T xs) (o : Obj) : Blk (w.alloc o) g T xs := h.ext ((Below.refl _ _).alloc (Nat.le_refl _) o) (Nat.le_refl _)
theorem add_pos (a : Addr) (j : Nat) (h : 0 < j) : a.add j = ⟨a.block, a.off + j, none⟩ := by unfold Addr.add; rw [if_neg (by omega)]
theorem Blk.drew1 {w : World} {g : Nat} {T : TypeId} {xs : List Value} (h : Blk w g T xs) : Blk w.drew g T xs := h
theorem Below.drew1 {w w' : World} {B : Nat} (h : Below B w w') : Below B w w'.drew := ⟨h.os, h.tape, h.output, h.size, h.block⟩
theorem Blk.newL (w : World) (cs : Array Value) (T : TypeId) (g : Nat) (xs : List Value) (hg : g = w.heap.size) (hx : cs.toList = xs) : Blk (w.alloc (.cells cs T)) g T xs := by
  subst hg hx; exact Blk.new w cs T
theorem Below.allocA {w w' : World} {B : Nat} (h : Below B w w') (hB : B ≤ w.heap.size) (o : Obj) : Below B w (w'.alloc o) := h.alloc (Nat.le_trans hB h.size) o
/-- append in a region that draws its order: the row that is owned grows. -/
theorem app_opM {P : Program} {ops : Array Oper} {o : Oper} {a : Act} {w : World} {K : Act → World → Prop} {Q : Exit → Act → World → Prop} (hgd : o.guard = none) (s x : Operand) (t : TypeId)
    (ho : o.op = .call { callee := .builtin .append, args := #[s, x], argTypes := #[t, t] })
    (base : Nat) (e : TypeId) (z : Value) (size bytes : Nat) (ht : P.underlying t = some (.slice e)) (hinfo : (P.info? e).map (fun i => (i.zero, i.size, i.bytes)) = some (some z, size, bytes))
    (hzs : z.cells.size = size) (hsz : 0 < size) (hby : 0 < bytes)
    (v : Value) (n : Nat) (xs : List Value) (hs : a.eval s = v) (hown : w.ownsRow base e size v n xs)
    (ad : Addr) (m c : Nat) (news : List Value) (hx : a.eval x = .slice (some ad) m c) (hl : news.length = m * size) (hnews : Rds w (some ad) news) (h1 : ∀ u ∈ news, u.oneCell' = true)
    (hbytes : (n + m) * bytes ≤ 140737488355328) (hbase : base ≤ w.heap.size)
    (h : ∀ v' w', w'.ownsRow base e size v' (n + m) (xs ++ news) → w.grownBy w' v.ownBlock → K (a.put o.dst v') w') :
    if Region.wanted o (yielded ops a.tmps) = true then Oper.wp P o a w K Q else K (a.put o.dst undef) w := by
  obtain ⟨i, hi, hz0, hz1, hz2⟩ := info_parts hinfo
  have hmax : n + m ≤ maxLen := by
    have : (n + m) * 1 ≤ (n + m) * bytes := Nat.mul_le_mul_left _ hby
    simp only [maxLen]; omega
  rw [if_pos (by simp [Region.wanted, hgd])]
  exact wp_append_own w s x t ho base e i z size bytes ht hi hz0 hz1 hz2 hzs hsz v n xs hs hown ad m c news hx hl (fun j u hu => by obtain ⟨a', e', hc⟩ := hnews j u hu; cases e'; exact hc) h1 hmax hbytes hbase (fun v' w' p q _ => h v' w' p q)
theorem rds_litM (w : World) (cs : Array Value) (T : TypeId) : Rds (w.alloc (.cells cs T)) (some ⟨w.heap.size, 0, none⟩) cs.toList := by
  intro i u hu
  refine ⟨_, rfl, ?_⟩
  rw [Addr.add_lit, cell_of_row _ w.heap.size _ cs T (0, 0) (heap_alloc_new _ _)]
  simpa using hu
end Lec
namespace Go.Proofs.Ytfiioobdknbacaa
open Go.RowKit Lec
theorem info_intM : (Try.prog.info? 3).map (fun i => (i.zero, i.size, i.bytes)) = some (some (.int .i64 0), 1, 8) := by kernel_rfl
theorem info_boolM : (Try.prog.info? 4).map (fun i => (i.zero, i.size, i.bytes)) = some (some (.bool false), 1, 1) := by kernel_rfl
/-- make([]int, n). -/
theorem mk_ints (n : Nat) (hn : n ≤ 1000000000) (w : World) : (Instr.makeSlice 45 (.int .i64 (n : Int)) (.int .i64 (n : Int))).run Try.prog w = .ok (.slice (some ⟨w.heap.size, 0, none⟩) n n) (w.alloc (.cells (List.replicate n (Value.int .i64 0)).toArray 3)) := by
  obtain ⟨i, hi, hz, hs, hy⟩ := info_parts info_intM
  have h := run_make w 45 3 i (.int .i64 0) Try.underlying45 hi hz .i64 .i64 (n : Int) (n : Int) (by omega) (by omega) (by rw [hy]; omega) (by omega)
  rw [h, hs]
  simp only [Int.toNat_natCast, Nat.mul_one]
  rw [show madeCells (Value.int .i64 0).cells n = (List.replicate n (Value.int .i64 0)).toArray from by rw [← toList_madeCells_one]; rfl]
theorem mk_bools (n : Nat) (hn : n ≤ 1000000000) (w : World) : (Instr.makeSlice 104 (.int .i64 (n : Int)) (.int .i64 (n : Int))).run Try.prog w = .ok (.slice (some ⟨w.heap.size, 0, none⟩) n n) (w.alloc (.cells (List.replicate n (Value.bool false)).toArray 4)) := by
  obtain ⟨i, hi, hz, hs, hy⟩ := info_parts info_boolM
  have h := run_make w 104 4 i (.bool false) Try.underlying104 hi hz .i64 .i64 (n : Int) (n : Int) (by omega) (by omega) (by rw [hy]; omega) (by omega)
  rw [h, hs]
  simp only [Int.toNat_natCast, Nat.mul_one]
  rw [show madeCells (Value.bool false).cells n = (List.replicate n (Value.bool false)).toArray from by rw [← toList_madeCells_one]; rfl]

end Go.Proofs.Ytfiioobdknbacaa
