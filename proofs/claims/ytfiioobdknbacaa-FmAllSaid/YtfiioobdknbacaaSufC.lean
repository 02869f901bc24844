/- The walk of induce's closure put. -/
import Derived.Test.YtfiioobdknbacaaSufB
set_option linter.unusedVariables false
set_option linter.unusedSimpArgs false
namespace Go.Proofs.Ytfiioobdknbacaa
open Go.RowKit Lec
/-- What inducing works on: three boxes, the answer's cells, where the next ones go. -/
structure IndW (w wx : World) (p ga gn cap b2 b6 b8 n K B : Nat) (a : List Int) (nx : List Nat) : Prop where
  c2 : Blk wx b2 172 [.pointer (some ⟨p, 0, none⟩)]
  c6 : Blk wx b6 45 [.slice (some ⟨ga, 0, none⟩) n n]
  c8 : Blk wx b8 45 [.slice (some ⟨gn, 0, none⟩) (K + 1) cap]
  ba : Blk wx ga 3 (intsV a)
  own : wx.ownsRow B 3 1 (.slice (some ⟨gn, 0, none⟩) (K + 1) cap) (K + 1) (natsC nx)
  hn : ga < B
  h2 : w.heap.size ≤ b2
  h6 : w.heap.size ≤ b6 ∧ b6 < B
  h8 : w.heap.size ≤ b8
  n68 : b6 ≠ b8
  ha : w.heap.size ≤ ga
  bel : Below w.heap.size w wx
section
variable {w wx : World} {p ga gn cap b2 b6 b8 n K B : Nat} {a : List Int} {nx : List Nat}
theorem IndW.bgn (h : IndW w wx p ga gn cap b2 b6 b8 n K B a nx) : B ≤ gn := (h.own.lt gn rfl).1
theorem IndW.drewN (h : IndW w wx p ga gn cap b2 b6 b8 n K B a nx) (q : Nat) : IndW w (wx.drewN q) p ga gn cap b2 b6 b8 n K B a nx :=
  ⟨h.c2, h.c6, h.c8, h.ba, h.own, h.hn, h.h2, h.h6, h.h8, h.n68, h.ha, h.bel.trans ((drawn_below wx q).mono h.bel.size)⟩
theorem IndW.setA (h : IndW w wx p ga gn cap b2 b6 b8 n K B a nx) (i : Nat) (u : Int) : IndW w (wx.setCell ⟨ga, i, none⟩ (.int .i64 u)) p ga gn cap b2 b6 b8 n K B (a.set i u) nx :=
  ⟨h.c2.far _ (h.c2.one h.ba (by decide)), h.c6.far _ (h.c6.one h.ba (by decide)), h.c8.far _ (h.c8.one h.ba (by decide)), by rw [intsV_set]; exact h.ba.set i _, own_set h.own h.hn _, h.hn, h.h2, h.h6, h.h8, h.n68, h.ha, h.bel.setCell h.ha _⟩
theorem blk_own {w : World} {g g' n c B : Nat} {T e : TypeId} {xs ys : List Value} (h : Blk w g T xs) (k : w.ownsRow B e 1 (.slice (some ⟨g', 0, none⟩) n c) n ys) (hne : T ≠ e) : g ≠ g' := by
  intro hg
  subst hg
  rcases k.2 with ⟨k', _⟩ | ⟨g', cap', cur, k', _, kg, _⟩
  · simp at k'
  · simp only [Value.slice.injEq, Option.some.injEq, Addr.mk.injEq, and_true, true_and] at k'
    obtain ⟨rfl, rfl⟩ := k'
    have := (show w.heap[g]? = _ from h).symm.trans kg
    injection this with h1; injection h1 with _ h2 _; exact hne h2
theorem IndW.setN (h : IndW w wx p ga gn cap b2 b6 b8 n K B a nx) (i u : Nat) : IndW w (wx.setCell ⟨gn, i, none⟩ (.int .i64 (u : Int))) p ga gn cap b2 b6 b8 n K B a (nx.set i u) :=
  ⟨h.c2.far _ (blk_own h.c2 h.own (by decide)), h.c6.far _ (blk_own h.c6 h.own (by decide)), h.c8.far _ (blk_own h.c8 h.own (by decide)), h.ba.far _ (by have := h.bgn; have := h.hn; omega), by rw [natsC_set]; exact (h.own.stored i _).1, h.hn, h.h2, h.h6, h.h8, h.n68, h.ha, h.bel.setCell (show w.heap.size ≤ gn by have := h.bgn; have := h.hn; have := h.ha; omega) _⟩
end


theorem put_any (w wx : World) (p ga gn cap b2 b6 b8 K B : Nat) (s : List Nat) (a : List Int) (nx : List Nat) (hW : IndW w wx p ga gn cap b2 b6 b8 s.length K B a nx) (hf : Frm w p s K) (hm : s.length ≤ 131072) (hk : K ≤ 200000)
    (v : Nat) (hv : v < s.length) (hx : Sa.sy s v < K) (q : Nat) (hq : nx[Sa.sy s v]? = some q) (hqn : q < s.length) (hal : a.length = s.length) (hnl : nx.length = K + 1) :
    Calls Try.prog 138 #[.int .i64 (v : Int), .pointer (some ⟨b6, 0, none⟩), .pointer (some ⟨b8, 0, none⟩), .pointer (some ⟨b2, 0, none⟩)] wx fun e w' => e = .returned (.tuple #[]) ∧ IndW w w' p ga gn cap b2 b6 b8 s.length K B (a.set q (v : Int)) (nx.set (Sa.sy s v) (q + 1)) := by
  obtain ⟨A, c, a1, a2, a3, a4, c4, a5, xs3, h0, h1, h2, h3, h4, h5, r0, _⟩ := hf.out
  obtain ⟨aa, rfl, c0⟩ := r0 v _ (natsC_at (v := Sa.sy s v) (by rw [List.getElem?_eq_getElem hv]; simp [Sa.sy, List.getD_eq_getElem?_getD, hv]))
  obtain ⟨y, hy⟩ : ∃ y, a[q]? = some y := ⟨_, List.getElem?_eq_getElem (by omega)⟩
  have HP := Lib.hid h0
  have HC1 := Lib.hid c0
  clear h0 h1 h2 h3 h4 h5 r0 c0 hf
  have hvi : (v : Int) < (s.length : Int) := by omega
  have hv0 : (0 : Int) ≤ (v : Int) := by omega
  generalize hsx : Sa.sy s v = x at *
  clear hsx
  have hxi : (x : Int) < (K : Int) + 1 := by omega
  have hx0 : (0 : Int) ≤ (x : Int) := by omega
  have hqi : (q : Int) < (s.length : Int) := by omega
  have hq0 : (0 : Int) ≤ (q : Int) := by omega
  have HQ := Lib.hid hq
  have HY := Lib.hid hy
  have HAL := Lib.hid hal
  have HNL := Lib.hid hnl
  clear hq hy hal hnl
  go_enter Try.func138, Try.ntmps138
  go_wp2
  have HW := hW
  have k2 := HW.c2.cell (o := 0) rfl
  have k6 := HW.c6.cell (o := 0) rfl
  have k8 := HW.c8.cell (o := 0) rfl
  have vn := (HW.own.cellAt x (by omega)).trans (natsC_at HQ.out)
  have fn := HW.own.frozenAt x
  have va := hW.ba.cell (intsV_at HY.out)
  have fa := hW.ba.froz q
  have kp := cell_ext hW.bel (Nat.le_refl _) HP.out
  have c1 := cell_ext hW.bel (Nat.le_refl _) HC1.out
  refine wp_region_qtail 13 (by kernel_rfl) (by kernel_rfl) ?_
  simp only [List.take_succ_cons, List.take_zero, List.drop_succ_cons, List.drop_zero]
  repeat (go_big_quiet_step (fail))
  refine wpQuiet_nil ?_
  go_upto_region 1 with (fail)
  have hW2 := (hW.drewN 1).setA q (v : Int)
  obtain ⟨wY, hwY⟩ : ∃ wY, wY = (wx.drewN 1).setCell ⟨ga, q, none⟩ (.int .i64 (v : Int)) := ⟨_, rfl⟩
  rw [← hwY] at hW2 ⊢
  clear hwY k2 k6 k8 vn fn va fa kp c1 HW hW
  have HW := hW2
  have k2 := HW.c2.cell (o := 0) rfl
  have k6 := HW.c6.cell (o := 0) rfl
  have k8 := HW.c8.cell (o := 0) rfl
  have vn := (HW.own.cellAt x (by omega)).trans (natsC_at HQ.out)
  have fn := HW.own.frozenAt x
  have kp := cell_ext hW2.bel (Nat.le_refl _) HP.out
  have c1 := cell_ext hW2.bel (Nat.le_refl _) HC1.out
  refine wp_region_qtail 12 (by kernel_rfl) (by kernel_rfl) ?_
  simp only [List.take_succ_cons, List.take_zero, List.drop_succ_cons, List.drop_zero]
  repeat (go_big_quiet_step (fail))
  refine wpQuiet_nil ?_
  go_wp2
  go_end0
  refine ⟨rfl, ?_⟩
  have h := (hW2.drewN 1).setN x (q + 1)
  rw [show ((q + 1 : Nat) : Int) = (q : Int) + 1 by omega] at h
  exact h
end Go.Proofs.Ytfiioobdknbacaa
