/- The walk of a frame's induce. -/
import Derived.Test.YtfiioobdknbacaaSufC
set_option linter.unusedVariables false
set_option linter.unusedSimpArgs false
namespace Lec
open Go Go.RowKit
theorem nats_one (xs : List Nat) : ∀ u ∈ natsC xs, u.oneCell' = true := fun u hu => by simp [natsC] at hu; obtain ⟨_, _, rfl⟩ := hu; rfl
/-- Next places, as a list and as a function. -/
def NxT (nx : List Nat) (K : Nat) (f : Nat → Nat) : Prop := nx.length = K + 1 ∧ ∀ c, c < K → nx[c]? = some (f c)
theorem NxT.put {nx : List Nat} {K : Nat} {f : Nat → Nat} (h : NxT nx K f) (x : Nat) : NxT (nx.set x (f x + 1)) K (fun c => if c = x then f c + 1 else f c) := by
  refine ⟨by rw [List.length_set]; exact h.1, fun c hc => ?_⟩
  rw [List.getElem?_set]
  by_cases e : x = c
  · subst e; simp [h.1]; omega
  · rw [if_neg e, h.2 c hc, show (fun c => if c = x then f c + 1 else f c) c = f c from if_neg (fun k => e k.symm)]
/-- Ends of symbols, as a list and as a function. -/
def NxE (nx : List Nat) (K : Nat) (e : Nat → Nat) : Prop := nx.length = K + 1 ∧ ∀ c, c < K → nx[c + 1]? = some (e c)
theorem NxE.put {nx : List Nat} {K : Nat} {e : Nat → Nat} (h : NxE nx K e) (x : Nat) : NxE (nx.set (x + 1) (e x - 1)) K (fun c => if c = x then e c - 1 else e c) := by
  refine ⟨by rw [List.length_set]; exact h.1, fun c hc => ?_⟩
  rw [List.getElem?_set]
  by_cases k : x = c
  · subst k; simp [h.1]; omega
  · rw [if_neg (by omega), h.2 c hc, show (fun c => if c = x then e c - 1 else e c) c = e c from if_neg (fun k' => k k'.symm)]
end Lec
namespace Go.Proofs.Ytfiioobdknbacaa
open Go.RowKit Lec
/-- Before the next places are laid. -/
structure IndP (w wx : World) (p ga b2 b6 n : Nat) (a : List Int) : Prop where
  c2 : Blk wx b2 172 [.pointer (some ⟨p, 0, none⟩)]
  c6 : Blk wx b6 45 [.slice (some ⟨ga, 0, none⟩) n n]
  ba : Blk wx ga 3 (intsV a)
  h2 : w.heap.size ≤ b2
  h6 : w.heap.size ≤ b6
  ha : w.heap.size ≤ ga
  bel : Below w.heap.size w wx
theorem IndP.setA {w wx : World} {p ga b2 b6 n : Nat} {a : List Int} (h : IndP w wx p ga b2 b6 n a) (i : Nat) (u : Int) : IndP w (wx.setCell ⟨ga, i, none⟩ (.int .i64 u)) p ga b2 b6 n (a.set i u) :=
  ⟨h.c2.far _ (h.c2.one h.ba (by decide)), h.c6.far _ (h.c6.one h.ba (by decide)), by rw [intsV_set]; exact h.ba.set i _, h.h2, h.h6, h.ha, h.bel.setCell h.ha _⟩

theorem blk_row {w : World} {g k : Nat} {T : TypeId} {xs : List Value} (h : Blk w g T xs) (cs : Array Value) (hne : g ≠ k) : Blk (w.setRow k cs) g T xs := (setRow_other w k g cs hne).trans h
theorem IndW.row {w wx : World} {p ga gn cap b2 b6 b8 n K B : Nat} {a : List Int} {nx : List Nat} (h : IndW w wx p ga gn cap b2 b6 b8 n K B a nx) :
    ∃ cur : Array Value, wx.heap[gn]? = some (.cells cur 3 (0, 0)) ∧ K + 1 ≤ cur.size ∧ ∀ nx' : List Nat, nx'.length = K + 1 →
      IndW w (wx.setRow gn (cur.toList.take 0 ++ (natsC nx' ++ cur.toList.drop (0 + (natsC nx').length))).toArray) p ga gn cap b2 b6 b8 n K B a nx' := by
  rcases h.own.2 with ⟨k', _⟩ | ⟨g', cap', cur, k', hB, hg, hnc, hcm, hcs, htk⟩
  · simp at k'
  · simp only [Value.slice.injEq, Option.some.injEq, Addr.mk.injEq, and_true, true_and] at k'
    obtain ⟨rfl, rfl⟩ := k'
    refine ⟨cur, hg, by omega, fun nx' hl => ?_⟩
    have hgn := h.bgn
    have hhn := h.hn
    have hha := h.ha
    have hln : (natsC nx').length = K + 1 := by simp [hl]
    refine ⟨blk_row h.c2 _ (blk_own h.c2 h.own (by decide)), blk_row h.c6 _ (blk_own h.c6 h.own (by decide)), blk_row h.c8 _ (blk_own h.c8 h.own (by decide)), blk_row h.ba _ (by omega), ?_, h.hn, h.h2, h.h6, h.h8, h.n68, h.ha, below_setRow h.bel (by omega) _⟩
    refine ⟨by omega, .inr ⟨gn, cap, _, rfl, hB, setRow_heap _ _ _ _ _ _ hg, hnc, hcm, ?_, ?_⟩⟩
    · simp; omega
    · simp [hl]

def IndPost (w : World) (s d : List Nat) (K : Nat) (e : Ending) (w' : World) : Prop :=
  ∃ (g : Nat) (b : List Nat), e = .returned (.slice (some ⟨g, 0, none⟩) s.length s.length) ∧ Blk w' g 3 (natsC b) ∧ w.heap.size ≤ g ∧ Sa.Induced s d K (b.map fun v : Nat => (v : Int)) ∧ Below w.heap.size w w'

set_option maxRecDepth 100000 in
set_option maxHeartbeats 4000000 in
theorem induce_any (w : World) (p : Nat) (s d : List Nat) (K : Nat) (hf : Frm w p s K) (hm : s.length ≤ 131072) (hk : K ≤ 200000) (z : Sa.Lay s d K) (D : Option Addr) (c' : Nat) (hd : Rds w D (natsC d)) :
    Calls Try.prog 124 #[.pointer (some ⟨p, 0, none⟩), .slice D d.length c'] w (IndPost w s d K) := by
  obtain ⟨A, c, a1, a2, a3, a4, c4, a5, xs3, h0, h1, h2, h3, h4, h5, r0, r1, r2, r3, r4, r5, h6, h7⟩ := hf.out
  obtain ⟨a3', rfl⟩ : ∃ x, a3 = some x := by obtain ⟨x, e, _⟩ := r3 0 _ (List.getElem?_eq_getElem (show 0 < (natsC xs3).length by simp [h6])); exact ⟨x, e⟩
  have HK0 := Lib.hid h0
  have HK1 := Lib.hid h1
  have HK2 := Lib.hid h2
  have HK3 := Lib.hid h3
  have HR0 := Lib.hid r0
  have HR1 := Lib.hid r1
  have HR2 := Lib.hid r2
  have HR3 := Lib.hid r3
  have HD := Lib.hid hd
  have HX3 := Lib.hid h6
  have HX4 := Lib.hid h7
  have hpos := z.pos
  have hdl : d.length ≤ s.length := by have := Sa.nodup_len z.nod (m := List.range s.length) (fun x hx => List.mem_range.2 ((z.mem x).1 hx).2.1); simpa using this
  have hmn := mk_ints s.length (by omega)
  clear h0 h1 h2 h3 h4 h5 r0 r1 r2 r3 r4 r5 h6 h7 hd
  go_enter Try.func124, Try.ntmps124
  go_upto_region 1 with (fail)
  obtain ⟨w1, hw1⟩ : ∃ w1, w1 = w.alloc (.cells #[.pointer (some ⟨p, 0, none⟩)] 172) := ⟨_, rfl⟩
  have hb2 : Blk w1 w.heap.size 172 [.pointer (some ⟨p, 0, none⟩)] := by rw [hw1]; exact Blk.new _ _ _
  have hbe : Below w.heap.size w w1 := by rw [hw1]; exact (Below.refl _ _).alloc (Nat.le_refl _) _
  have hs1 : w1.heap.size = w.heap.size + 1 := by rw [hw1]; simp
  rw [← hw1]
  have HS1 := Lib.hid hs1
  clear hw1 hs1
  have kp := cell_ext hbe (Nat.le_refl _) HK0.out
  have k2 := hb2.cell (o := 0) rfl
  go_upto_region 3 with (fail)
  obtain ⟨w2, hw2⟩ : ∃ w2, w2 = (w1.alloc (.cells (Array.replicate s.length (.int .i64 0)) 3)).alloc (.cells #[.slice (some ⟨w1.heap.size, 0, none⟩) s.length s.length] 45) := ⟨_, rfl⟩
  have hP : IndP w w2 p w1.heap.size w.heap.size (w1.heap.size + 1) s.length (List.replicate s.length 0) := by
    rw [hw2]
    exact ⟨(hb2.allocA _).allocA _, Blk.newL _ _ _ _ _ (by simp) rfl, (Blk.newL _ _ _ _ _ rfl (by simp [intsV])).allocA _, Nat.le_refl _, by have := HS1.out; omega, by have := HS1.out; omega, Below.allocA (Below.allocA hbe (Nat.le_refl _) _) (Nat.le_refl _) _⟩
  rw [← hw2]
  clear hw2 hbe hb2 kp k2 hmn HS1
  generalize w1.heap.size + 1 = b6 at *
  generalize w1.heap.size = ga at *
  generalize w.heap.size = b2 at hP ⊢
  have k6 := hP.c6.cell (o := 0) rfl
  go_wp2
  clear k6
  go_loopw [26] (fun i wr => ∃ (m : Nat) (a : List Int), i = .int .i64 (m : Int) ∧ m ≤ s.length ∧ Hid (a.length = s.length) ∧ Hid (∀ j, j < m → a[j]? = some (-1)) ∧ IndP w wr p ga b2 b6 s.length a) (fun i _ => s.length - (intOf i).toNat)
  case atStart => exact ⟨0, _, rfl, by omega, Lib.hid (by simp), Lib.hid (fun j hj => by omega), hP⟩
  case round =>
    clear hP
    obtain ⟨m, a, rfl, hmn, HAL, HA, hP⟩ := hrel
    by_cases h0 : m < s.length
    · have h0i : (m : Int) < (s.length : Int) := by omega
      have hm0 : (0 : Int) ≤ (m : Int) := by omega
      have k6 := hP.c6.cell (o := 0) rfl
      obtain ⟨y, hy⟩ : ∃ y, a[m]? = some y := ⟨_, List.getElem?_eq_getElem (by rw [HAL.out]; exact h0)⟩
      have va := hP.ba.cell (intsV_at hy)
      have fa := hP.ba.froz m
      clear hy
      go_wp2
      go_roundw
      case rel =>
        refine ⟨m + 1, a.set m (-1), by go_num, by omega, Lib.hid (by rw [List.length_set]; exact HAL.out), Lib.hid (fun j hj => ?_), hP.setA m (-1)⟩
        rw [List.getElem?_set]
        by_cases e : m = j
        · subst e; simp [HAL.out, h0]
        · rw [if_neg e]; exact HA.out j (by omega)
      case measure => first | (simp [intOf]; done) | (simp [intOf]; omega)
    · obtain rfl : m = s.length := by omega
      have h0i : ¬ (s.length : Int) < (s.length : Int) := by omega
      have ha : a = List.replicate s.length (-1) := List.ext_getElem? (fun j => by
        by_cases hj : j < s.length
        · rw [HA.out j hj, List.getElem?_replicate, if_pos hj]
        · rw [List.getElem?_eq_none (by rw [HAL.out]; omega), List.getElem?_eq_none (by simp; omega)])
      subst ha
      have k2 := hP.c2.cell (o := 0) rfl
      have kp3 := cell_ext hP.bel (Nat.le_refl _) HK3.out
      have HR3' := Lib.hid (HR3.out.ext hP.bel (Nat.le_refl _))
      have hbz := Nat.le_refl wr.heap.size
      go_wp2_with (at_builtin; refine wp_app rfl _ _ 45 rfl wr.heap.size 3 (.int .i64 0) 1 8 Try.underlying45 info_int rfl (by decide) (by decide) (.slice none 0 0) 0 [] rfl (World.ownsRow_nil _ _ _ _) (some a3') (K + 1) (K + 1) (natsC xs3) rfl (fun e => by cases e) (by simp; exact HX3.out) HR3'.out (nats_one _) (by omega) hbz ?_; intro v' w3 hown' hg'; obtain ⟨A6, c6, rfl, _, _, p5, _, p7⟩ := own_rds hown'; have HO := Lib.hid hown'; have HG := Lib.hid hg'; clear hown' hg'; have HP7 := Lib.hid p7; have HP5 := Lib.hid p5; clear p5 p7)
      obtain ⟨gn, rfl, hgn⟩ : ∃ gn, A6 = some ⟨gn, 0, none⟩ ∧ gn < w3.heap.size := by
        cases hA : A6 with
        | none => have := (HP5.out hA).1; omega
        | some x => obtain ⟨g, rfl, _, h⟩ := HP7.out x hA; exact ⟨g, rfl, h⟩
      obtain ⟨w4, hw4⟩ : ∃ w4, w4 = w3.alloc (.cells #[.slice (some ⟨gn, 0, none⟩) (K + 1) c6] 45) := ⟨_, rfl⟩
      have hW : ∃ b8, b8 = w3.heap.size ∧ IndW w w4 p ga gn c6 b2 b6 b8 s.length K wr.heap.size (List.replicate s.length (-1)) xs3 := by
        have hg := HG.out
        have hb : Below wr.heap.size wr w3 := ⟨hg.os, hg.tape, hg.output, hg.size, fun k hk => hg.block k hk (by simp [Value.ownBlock])⟩
        have ho := HO.out
        rw [Nat.zero_add, List.nil_append] at ho
        have hs3 := hg.size
        have h6lt := hP.c6.lt
        have h8 := hP.bel.size
        refine ⟨_, rfl, ?_⟩
        rw [hw4]
        exact ⟨(hP.c2.ext hb (Nat.le_refl _)).allocA _, (hP.c6.ext hb (Nat.le_refl _)).allocA _, Blk.newL _ _ _ _ _ rfl rfl, (hP.ba.ext hb (Nat.le_refl _)).allocA _, own_ext ho ((Below.refl w3.heap.size w3).alloc (Nat.le_refl _) _) (Nat.le_refl _), hP.ba.lt, hP.h2, ⟨hP.h6, h6lt⟩, by omega, by omega, hP.ha, Below.allocA (hP.bel.trans (hb.mono h8)) (Nat.le_refl _) _⟩
      rw [← hw4]
      obtain ⟨b8, hb8, hW⟩ := hW
      rw [← hb8]
      generalize wr.heap.size = B at *
      clear hw4 hb8 HO HG HP5 HP7 hgn hP k2 kp3 HR3' hbz HA HAL
      go_loopw [40] (fun i wr => ∃ (m : Nat) (a : List Int) (nx : List Nat) (nxf src : Nat → Nat), i = .int .i64 (m : Int) ∧ m ≤ d.length ∧ Sa.P0 s d K m a nxf src ∧ NxT nx K nxf ∧ IndW w wr p ga gn c6 b2 b6 b8 s.length K B a nx) (fun i _ => d.length - (intOf i).toNat)
      case atStart => exact ⟨0, _, xs3, _, _, rfl, by omega, Sa.P0.init z, ⟨HX3.out, HX4.out⟩, hW⟩
      case round =>
        clear hW
        obtain ⟨m, a, nx, nxf, src, rfl, hmd, hP0, hNX, hW⟩ := hrel
        by_cases hd : m < d.length
        · have hdi : (m : Int) < (d.length : Int) := by omega
          have hv : d[m]? = some d[m] := List.getElem?_eq_getElem hd
          generalize d[m] = v at *
          have hrm := hP0.room z hv
          have hle := Sa.lo_le s (Sa.sy s v + 1)
          have HP1 := Lib.hid (hP0.put z hv)
          have HNX1 := Lib.hid (hNX.put (Sa.sy s v))
          obtain ⟨D', rfl, cd⟩ := (HD.out.ext hW.bel (Nat.le_refl _)) m _ (natsC_at hv)
          have kp := cell_ext hW.bel (Nat.le_refl _) HK0.out
          obtain ⟨aa, rfl, c1⟩ := (HR0.out.ext hW.bel (Nat.le_refl _)) v _ (natsC_at (v := Sa.sy s v) (by rw [List.getElem?_eq_getElem hrm.2.1]; simp [Sa.sy, List.getD_eq_getElem?_getD, hrm.2.1]))
          obtain ⟨y, hy⟩ : ∃ y, a[nxf (Sa.sy s v)]? = some y := ⟨_, List.getElem?_eq_getElem (by rw [hP0.len]; omega)⟩
          have HY := Lib.hid hy
          have HQ := Lib.hid (hNX.2 (Sa.sy s v) hrm.1)
          have HHV := Lib.hid hv
          have hvl := hrm.2.1
          have hxK := hrm.1
          have hql : nxf (Sa.sy s v) < s.length := by omega
          clear hv hy hP0 hNX hrm hle
          generalize hsx : Sa.sy s v = x at *
          generalize hnq : nxf x = q at *
          have HSX := Lib.hid hsx
          clear hsx
          have HNQ := Lib.hid hnq
          clear hnq
          have hvi : (v : Int) < (s.length : Int) := by omega
          have hv0 : (0 : Int) ≤ (v : Int) := by omega
          have hxi : (x : Int) < (K : Int) + 1 := by omega
          have hx0 : (0 : Int) ≤ (x : Int) := by omega
          have hqi : (q : Int) < (s.length : Int) := by omega
          have hq0 : (0 : Int) ≤ (q : Int) := by omega
          go_wp2
          have HW := hW
          have k2 := HW.c2.cell (o := 0) rfl
          have k6 := HW.c6.cell (o := 0) rfl
          have k8 := HW.c8.cell (o := 0) rfl
          have vn := (HW.own.cellAt x (by omega)).trans (natsC_at HQ.out)
          have fn := HW.own.frozenAt x
          have va := hW.ba.cell (intsV_at HY.out)
          have fa := hW.ba.froz q
          refine wp_region_qtail 13 (by kernel_rfl) (by kernel_rfl) ?_
          simp only [List.take_succ_cons, List.take_zero, List.drop_succ_cons, List.drop_zero]
          repeat (go_big_quiet_step (fail))
          refine wpQuiet_nil ?_
          go_upto_region 13 with (fail)
          have hW2 := (hW.drewN 1).setA q (v : Int)
          obtain ⟨wY, hwY⟩ : ∃ wY, wY = (wr.drewN 1).setCell ⟨ga, q, none⟩ (.int .i64 (v : Int)) := ⟨_, rfl⟩
          rw [← hwY] at hW2 ⊢
          clear hwY k2 k6 k8 vn fn va fa kp c1 HW hW cd
          have HW := hW2
          have k2 := HW.c2.cell (o := 0) rfl
          have k6 := HW.c6.cell (o := 0) rfl
          have k8 := HW.c8.cell (o := 0) rfl
          have vn := (HW.own.cellAt x (by omega)).trans (natsC_at HQ.out)
          have fn := HW.own.frozenAt x
          have kp := cell_ext hW2.bel (Nat.le_refl _) HK0.out
          obtain ⟨aa', e', c1⟩ := (HR0.out.ext hW2.bel (Nat.le_refl _)) v _ (natsC_at (v := x) (by rw [List.getElem?_eq_getElem hvl, ← HSX.out]; simp [Sa.sy, List.getD_eq_getElem?_getD, hvl]))
          obtain rfl := Option.some.inj e'
          clear e'
          refine wp_region_qtail 12 (by kernel_rfl) (by kernel_rfl) ?_
          simp only [List.take_succ_cons, List.take_zero, List.drop_succ_cons, List.drop_zero]
          repeat (go_big_quiet_step (fail))
          refine wpQuiet_nil ?_
          go_wp2
          go_roundw
          case rel =>
            refine ⟨m + 1, _, _, _, _, by go_num, by omega, HP1.out, HNX1.out, ?_⟩
            have h := (hW2.drewN 1).setN x (q + 1)
            rw [show ((q + 1 : Nat) : Int) = (q : Int) + 1 by omega] at h
            exact h
          case measure => first | (simp [intOf]; done) | (simp [intOf]; omega)
        · obtain rfl : m = d.length := by omega
          have hdi : ¬ (d.length : Int) < (d.length : Int) := by omega
          have hA0 := hP0.toA0 z
          have HNXL := Lib.hid hNX.1
          clear hP0 hNX
          have k2 := hW.c2.cell (o := 0) rfl
          have k8 := hW.c8.cell (o := 0) rfl
          have kp2 := cell_ext hW.bel (Nat.le_refl _) HK2.out
          obtain ⟨cur, hcur, hcs, hrow⟩ := (hW.drewN 1).row
          have HCUR := Lib.hid hcur
          have HROW := Lib.hid (hrow ((List.range (K + 1)).map (Sa.lo s)) (by simp))
          clear hcur hrow
          obtain ⟨a2', rfl⟩ : ∃ x, a2 = some x := by obtain ⟨x, e, _⟩ := HR2.out 0 _ (List.getElem?_eq_getElem (show 0 < (natsC ((List.range (K + 1)).map (Sa.lo s))).length by simp)); exact ⟨x, e⟩
          go_wp2
          refine wp_region_qtail 5 (by kernel_rfl) (by kernel_rfl) ?_
          simp only [List.take_succ_cons, List.take_zero, List.drop_succ_cons, List.drop_zero]
          repeat (go_big_quiet_step (fail))
          refine wpQuiet_nil ?_
          refine wpList_copy_own (w := wr.drewN 1) rfl _ _ 45 45 rfl 3 Try.underlying45 (by kernel_rfl) gn 0 (K + 1) c6 a2' (K + 1) (K + 1) rfl rfl cur 3 HCUR.out (natsC ((List.range (K + 1)).map (Sa.lo s))) (by simp) ?_ (by simp; omega) (nats_one _) ?_
          · intro j v hv
            obtain ⟨x, e, hx⟩ := (HR2.out.ext hW.bel (Nat.le_refl _)) j v hv
            obtain rfl := Option.some.inj e
            exact hx
          have hW3 := HROW.out
          generalize World.setRow _ _ _ = wY at hW3 ⊢
          clear hW k2 k8 kp2 HCUR HROW HNXL
          have hL0 := Sa.LInv.init hA0
          have hN0 : NxT ((List.range (K + 1)).map (Sa.lo s)) K (Sa.lo s) := ⟨by simp, fun c hc => by rw [List.getElem?_map, List.getElem?_range (by omega)]; rfl⟩
          have hx0 := z.sym (s.length - 1) (by omega)
          have hq0 : Sa.lo s (Sa.sy s (s.length - 1)) < s.length := by
            obtain ⟨u, hu, _⟩ := hL0.fill _ hx0 _ (Nat.le_refl _) (by rw [if_pos rfl]; omega)
            have := (List.getElem?_eq_some_iff.1 hu).1
            rwa [List.length_set, hA0.len] at this
          have HPUT := Lib.hid (put_any w wY p ga gn c6 b2 b6 b8 K B s a _ hW3 hf hm hk (s.length - 1) (by omega) hx0 _ (hN0.2 _ hx0) hq0 hA0.len hN0.1)
          rw [show ((s.length - 1 : Nat) : Int) = (s.length : Int) - 1 by omega] at HPUT
          have HN1 := Lib.hid (hN0.put (Sa.sy s (s.length - 1)))
          have HL0 := Lib.hid hL0
          rw [show ((s.length - 1 : Nat) : Int) = (s.length : Int) - 1 by omega] at HL0
          clear hL0 hN0 hx0 hq0
          go_wp2_with fail
          refine HPUT.out.mono ?_
          rintro e w5 ⟨rfl, hW⟩
          clear HPUT hW3
          have k6 := hW.c6.cell (o := 0) rfl
          go_wp2
          clear k6
          go_loopw [83] (fun i wr => ∃ (m : Nat) (a' : List Int) (nx : List Nat) (nxf src : Nat → Nat), i = .int .i64 (m : Int) ∧ m ≤ s.length ∧ Sa.LInv s d K a m a' nxf src ∧ NxT nx K nxf ∧ IndW w wr p ga gn c6 b2 b6 b8 s.length K B a' nx) (fun i _ => s.length - (intOf i).toNat)
          case atStart => exact ⟨0, _, _, _, _, rfl, by omega, HL0.out, HN1.out, hW⟩
          case round =>
            clear hW HL0 HN1
            obtain ⟨m, al, nx, nxf, src, rfl, hmn, hL, hNX, hW⟩ := hrel
            by_cases hmn2 : m < s.length
            · have hmi : (m : Int) < (s.length : Int) := by omega
              have hm0 : (0 : Int) ≤ (m : Int) := by omega
              obtain ⟨Y, hY⟩ : ∃ y, al[m]? = some y := ⟨_, List.getElem?_eq_getElem (by rw [hL.len]; exact hmn2)⟩
              have k2 := hW.c2.cell (o := 0) rfl
              have k6 := hW.c6.cell (o := 0) rfl
              have va := hW.ba.cell (intsV_at hY)
              have kp := cell_ext hW.bel (Nat.le_refl _) HK1.out
              by_cases hy1 : 1 ≤ Y
              · obtain ⟨v, hv⟩ : ∃ v : Nat, Y = ((v + 1 : Nat) : Int) := ⟨(Y - 1).toNat, by omega⟩
                have hY2 := hY
                rw [hv] at hY2
                have hvn := (hL.at hA0 hY2).1
                obtain ⟨aa, rfl, c1⟩ := (HR1.out.ext hW.bel (Nat.le_refl _)) v _ (boolsC_at (smL_at s v (by omega)))
                have hyv : Y - 1 = (v : Int) := by omega
                have hy2 : Y ≤ (s.length : Int) := by omega
                have hyt : (Y - 1).toNat = v := by omega
                have hy3 : (0 : Int) ≤ Y - 1 := by omega
                have hy4 : Y - 1 < (s.length : Int) := by omega
                have HYV := Lib.hid hyv
                cases hs : Sa.sm s v with
                | true =>
                  have HL1 := Lib.hid (hL.skip (fun u hu => by
                    rw [hY2] at hu; injection hu with hu
                    obtain rfl : v = u := by omega
                    exact hs))
                  rw [hs] at c1
                  clear hY hY2 hv hyv hs hL
                  go_wp2
                  go_roundw
                  case rel => exact ⟨m + 1, _, _, _, _, by go_num, by omega, HL1.out, hNX, hW⟩
                  case measure => first | (simp [intOf]; done) | (simp [intOf]; omega)
                | false =>
                  have hrm := hL.room hA0 hY2 hs
                  have HL1 := Lib.hid (hL.put hA0 hY2 hs)
                  have HN1 := Lib.hid (hNX.put (Sa.sy s v))
                  have hmid := Sa.mid_le s (Sa.sy s v)
                  have hle := Sa.lo_le s (Sa.sy s v + 1)
                  have HPUT := Lib.hid (put_any w wr p ga gn c6 b2 b6 b8 K B s al _ hW hf hm hk v hrm.1 hrm.2.1 _ (hNX.2 _ hrm.2.1) (by omega) hL.len hNX.1)
                  rw [← HYV.out] at HPUT
                  rw [hs] at c1
                  clear hY hY2 hv hyv hs hL hrm hmid hle
                  go_wp2_with fail
                  refine HPUT.out.mono ?_
                  rintro e w6 ⟨rfl, hW2⟩
                  clear HPUT k2 k6 va kp c1
                  go_wp2
                  go_roundw
                  case rel => exact ⟨m + 1, _, _, _, _, by go_num, by omega, HL1.out, HN1.out, by rw [← HYV.out]; exact hW2⟩
                  case measure => first | (simp [intOf]; done) | (simp [intOf]; omega)
              · have HL1 := Lib.hid (hL.skip (fun u hu => by
                  rw [hY] at hu; injection hu with hu
                  omega))
                clear hY hL kp
                go_wp2
                go_roundw
                case rel => exact ⟨m + 1, _, _, _, _, by go_num, by omega, HL1.out, hNX, hW⟩
                case measure => first | (simp [intOf]; done) | (simp [intOf]; omega)
            · obtain rfl : m = s.length := by omega
              have hmi : ¬ (s.length : Int) < (s.length : Int) := by omega
              have hE := hL.toEnd hA0
              have HLA := Lib.hid hL
              have HNXL := Lib.hid hNX.1
              clear hL hNX
              have k2 := hW.c2.cell (o := 0) rfl
              have k8 := hW.c8.cell (o := 0) rfl
              have kp2 := cell_ext hW.bel (Nat.le_refl _) HK2.out
              obtain ⟨cur, hcur, hcs, hrow⟩ := (hW.drewN 1).row
              have HCUR := Lib.hid hcur
              have HROW := Lib.hid (hrow ((List.range (K + 1)).map (Sa.lo s)) (by simp))
              clear hcur hrow
              go_wp2
              refine wp_region_qtail 5 (by kernel_rfl) (by kernel_rfl) ?_
              simp only [List.take_succ_cons, List.take_zero, List.drop_succ_cons, List.drop_zero]
              repeat (go_big_quiet_step (fail))
              refine wpQuiet_nil ?_
              refine wpList_copy_own (w := wr.drewN 1) rfl _ _ 45 45 rfl 3 Try.underlying45 (by kernel_rfl) gn 0 (K + 1) c6 a2' (K + 1) (K + 1) rfl rfl cur 3 HCUR.out (natsC ((List.range (K + 1)).map (Sa.lo s))) (by simp) ?_ (by simp; omega) (nats_one _) ?_
              · intro j v hv
                obtain ⟨x, e, hx⟩ := (HR2.out.ext hW.bel (Nat.le_refl _)) j v hv
                obtain rfl := Option.some.inj e
                exact hx
              have hW3 := HROW.out
              generalize World.setRow _ _ _ = wY at hW3 ⊢
              clear hW k2 k8 kp2 HCUR HROW HNXL
              have hN0 : NxE ((List.range (K + 1)).map (Sa.lo s)) K (fun c => Sa.lo s (c + 1)) := ⟨by simp, fun c hc => by rw [List.getElem?_map, List.getElem?_range (by omega)]; rfl⟩
              have hS0 := Sa.SInv.init hE (fun _ => 0)
              go_wp2
              go_loopw [14] (fun i wr => ∃ (zz : Int) (m : Nat) (a' : List Int) (nx : List Nat) (ef src : Nat → Nat), i = .int .i64 zz ∧ Hid (zz = (m : Int) - 1) ∧ m ≤ s.length ∧ -1 ≤ zz ∧ zz < s.length ∧ Sa.SInv s K al m a' ef src ∧ NxE nx K ef ∧ IndW w wr p ga gn c6 b2 b6 b8 s.length K B a' nx) (fun i _ => (intOf i + 1).toNat)
              case atStart => exact ⟨_, s.length, _, _, _, _, rfl, Lib.hid rfl, by omega, by omega, by omega, hS0, hN0, hW3⟩
              case round =>
                clear hW3 hS0 hN0
                obtain ⟨zz, j, a', nx, ef, src, rfl, HZ, hjn, hz1, hz2, hS, hNX, hW⟩ := hrel
                by_cases hz0 : 0 ≤ zz
                · obtain ⟨m, rfl⟩ : ∃ m : Nat, zz = m := ⟨zz.toNat, by omega⟩
                  obtain rfl : j = m + 1 := by have := HZ.out; omega
                  have hmn2 : m < s.length := by omega
                  have gi := hS.seen' hE hmn2
                  obtain ⟨u, hY, hun, _⟩ := hS.at hE gi
                  have k2 := hW.c2.cell (o := 0) rfl
                  have k6 := hW.c6.cell (o := 0) rfl
                  have va := hW.ba.cell (intsV_at hY)
                  have kp := cell_ext hW.bel (Nat.le_refl _) HK1.out
                  clear gi HZ
                  by_cases hy1 : 1 ≤ u
                  · obtain ⟨v, rfl⟩ : ∃ v : Nat, u = v + 1 := ⟨u - 1, by omega⟩
                    obtain ⟨aa, rfl, c1⟩ := (HR1.out.ext hW.bel (Nat.le_refl _)) v _ (boolsC_at (smL_at s v (by omega)))
                    have hy1i : (1 : Int) ≤ ((v + 1 : Nat) : Int) := by omega
                    obtain ⟨Y, hYY⟩ : ∃ Y : Int, Y = ((v + 1 : Nat) : Int) := ⟨_, rfl⟩
                    rw [← hYY] at va hy1i
                    have hyv : Y - 1 = (v : Int) := by omega
                    have hy2 : Y ≤ (s.length : Int) := by omega
                    have hyt : (Y - 1).toNat = v := by omega
                    have hy3 : (0 : Int) ≤ Y - 1 := by omega
                    have hy4 : Y - 1 < (s.length : Int) := by omega
                    have HYV := Lib.hid hyv
                    clear hYY hyv
                    cases hs : Sa.sm s v with
                    | false =>
                      have HS1 := Lib.hid (hS.skip hE (fun u hu => by
                        rw [hY] at hu; injection hu with hu
                        obtain rfl : v = u := by omega
                        exact hs))
                      rw [hs] at c1
                      clear hY hs hS
                      go_wp2
                      go_roundw
                      case rel => exact ⟨(m : Int) - 1, m, _, _, _, _, rfl, Lib.hid rfl, by omega, by omega, by omega, HS1.out, hNX, hW⟩
                      case measure => first | (simp [intOf]; done) | (simp [intOf]; omega)
                    | true =>
                      have hrm := hS.room hE hmn2 hY hs
                      have HS1 := Lib.hid (hS.put hE hmn2 hY hs)
                      have HN1 := Lib.hid (hNX.put (Sa.sy s v))
                      have HQ0 := Lib.hid (hNX.2 (Sa.sy s v) hrm.2.1)
                      rw [hs] at c1
                      obtain ⟨a0, rfl, cs⟩ := (HR0.out.ext hW.bel (Nat.le_refl _)) v _ (natsC_at (v := Sa.sy s v) (by rw [List.getElem?_eq_getElem (show v < s.length by omega)]; simp [Sa.sy, List.getD_eq_getElem?_getD, show v < s.length by omega]))
                      have kp0 := cell_ext hW.bel (Nat.le_refl _) HK0.out
                      have hxK := hrm.2.1
                      obtain ⟨y, hy⟩ : ∃ y, a'[ef (Sa.sy s v) - 1]? = some y := ⟨_, List.getElem?_eq_getElem (by rw [hS.len]; omega)⟩
                      have HY := Lib.hid hy
                      have HNL := Lib.hid hNX.1
                      have hq1 : ef (Sa.sy s v) - 1 < m := hrm.2.2.2
                      have hq2 : 0 < ef (Sa.sy s v) := by omega
                      clear hY hs hS hNX hrm hy
                      obtain ⟨r, hr⟩ : ∃ r, ef (Sa.sy s v) = r + 1 := ⟨ef (Sa.sy s v) - 1, by omega⟩
                      have HR := Lib.hid hr
                      rw [hr, Nat.add_sub_cancel] at HS1 HN1 HY hq1
                      rw [hr] at HQ0
                      clear hr hq2
                      generalize hsx : Sa.sy s v = x at *
                      have HSX := Lib.hid hsx
                      clear hsx
                      have vn := (hW.own.cellAt (x + 1) (by omega)).trans (natsC_at HQ0.out)
                      have fn := hW.own.frozenAt (x + 1)
                      rw [show ((r + 1 : Nat) : Int) = (r : Int) + 1 by omega] at vn
                      have k8 := hW.c8.cell (o := 0) rfl
                      have hx0 : (0 : Int) ≤ (x : Int) := by omega
                      have hxi : (x : Int) < (K : Int) := by omega
                      go_upto_region 33 with (fail)
                      have hW2 := hW.setN (x + 1) r
                      obtain ⟨wY, hwY⟩ : ∃ wY, wY = wr.setCell ⟨gn, x + 1, none⟩ (.int .i64 (r : Int)) := ⟨_, rfl⟩
                      rw [← hwY] at hW2 ⊢
                      clear hwY k2 k6 k8 vn fn va kp kp0 c1 cs hW
                      have k6 := hW2.c6.cell (o := 0) rfl
                      have k8 := hW2.c8.cell (o := 0) rfl
                      have vn := (hW2.own.cellAt (x + 1) (by omega)).trans (natsC_at (show (nx.set (x + 1) r)[x + 1]? = some r by rw [List.getElem?_set]; simp [HNL.out, hxK]))
                      have fn := hW2.own.frozenAt (x + 1)
                      have va := hW2.ba.cell (intsV_at HY.out)
                      have fa := hW2.ba.froz r
                      have hri : (r : Int) < (s.length : Int) := by omega
                      have hr0 : (0 : Int) ≤ (r : Int) := by omega
                      have hwx : IntKind.i64.wrap ((x : Int) + 1) = (x : Int) + 1 := wrapI (by omega)
                      have hx1 : (0 : Int) ≤ (x : Int) + 1 := by omega
                      have hx2 : (x : Int) + 1 < (K : Int) + 1 := by omega
                      have hxt : ((x : Int) + 1).toNat = x + 1 := by omega
                      have hwy : IntKind.i64.wrap (Y - 1) = Y - 1 := wrapI (by omega)
                      have HW3 := Lib.hid ((hW2.drewN 1).setA r (v : Int))
                      rw [← HYV.out] at HW3
                      refine wp_region_qtail 8 (by kernel_rfl) (by kernel_rfl) ?_
                      simp only [List.take_succ_cons, List.take_zero, List.drop_succ_cons, List.drop_zero]
                      repeat (go_big_quiet_step (fail))
                      refine wpQuiet_nil ?_
                      go_wp2
                      go_roundw
                      case rel => exact ⟨(m : Int) - 1, m, _, _, _, _, rfl, Lib.hid rfl, by omega, by omega, by omega, HS1.out, HN1.out, by rw [← HYV.out]; exact HW3.out⟩
                      case measure => first | (simp [intOf]; done) | (simp [intOf]; omega)
                  · obtain rfl : u = 0 := by omega
                    have HS1 := Lib.hid (hS.skip hE (fun u hu => by
                      rw [hY] at hu; injection hu with hu
                      omega))
                    clear hY hS kp
                    go_wp2
                    go_roundw
                    case rel => exact ⟨(m : Int) - 1, m, _, _, _, _, rfl, Lib.hid rfl, by omega, by omega, by omega, HS1.out, hNX, hW⟩
                    case measure => first | (simp [intOf]; done) | (simp [intOf]; omega)
                · have k6 := hW.c6.cell (o := 0) rfl
                  obtain rfl : j = 0 := by have := HZ.out; omega
                  clear HZ
                  go_wp2
                  go_ret
                  have hI : Sa.Induced s d K a' := ⟨a, al, nxf, _, ef, src, hA0, HLA.out, hS⟩
                  obtain ⟨b, hb, _⟩ := hI.nat
                  subst hb
                  refine ⟨ga, b, rfl, ?_, hW.ha, hI, hW.bel⟩
                  have h := hW.ba
                  rwa [← natsC_ints] at h
end Go.Proofs.Ytfiioobdknbacaa
