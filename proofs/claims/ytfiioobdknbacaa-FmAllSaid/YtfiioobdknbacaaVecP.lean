/- The walk of a vector's put. -/
import Derived.Test.YtfiioobdknbacaaVecG
set_option linter.unusedVariables false
set_option linter.unusedSimpArgs false
namespace Lec
open Go Go.RowKit
theorem blk_cell {w : World} {p o : Nat} {cs : Array Value} {T : TypeId} {v : Value} (h : w.heap[p]? = some (.cells cs T (0, 0))) (hv : cs[o]? = some v) : w.cell? ⟨p, o, none⟩ = some v := by
  rw [cell_of_row _ _ _ _ _ _ h]; exact hv
theorem blk_frozen {w : World} {p : Nat} {cs : Array Value} {T : TypeId} (h : w.heap[p]? = some (.cells cs T (0, 0))) (o : Nat) : w.frozen? ⟨p, o, none⟩ = false := by
  unfold World.frozen?; rw [h]; simp
theorem blk_set {w : World} {p o : Nat} {cs : Array Value} {T : TypeId} (h : w.heap[p]? = some (.cells cs T (0, 0))) (u : Value) : (w.setCell ⟨p, o, none⟩ u).heap[p]? = some (.cells (cs.setIfInBounds o u) T (0, 0)) := by
  unfold World.setCell; simp [Array.getElem?_modify, h]
theorem blk_far {w : World} {p q o : Nat} {ob : Obj} (h : w.heap[p]? = some ob) (u : Value) (hq : p ≠ q) : (w.setCell ⟨q, o, none⟩ u).heap[p]? = some ob := (Below.heap_setCell w ⟨q, o, none⟩ u p hq).trans h
theorem blk_grown {w w' : World} {p : Nat} {ob : Obj} {row : Option Nat} (h : w.heap[p]? = some ob) (hg : w.grownBy w' row) (hne : row ≠ some p) : w'.heap[p]? = some ob :=
  (hg.block p (Array.getElem?_eq_some_iff.1 h).1 (Ne.symm hne)).trans h
theorem blk_ext {w w' : World} {p B : Nat} {ob : Obj} (h : w.heap[p]? = some ob) (hb : Below B w w') (hB : w.heap.size ≤ B) : w'.heap[p]? = some ob :=
  (hb.block p (Nat.lt_of_lt_of_le (Array.getElem?_eq_some_iff.1 h).1 hB)).trans h
theorem blk_lt {w : World} {p : Nat} {ob : Obj} (h : w.heap[p]? = some ob) : p < w.heap.size := (Array.getElem?_eq_some_iff.1 h).1
theorem own_ne {w : World} {B : Nat} {e T : TypeId} {size : Nat} {v : Value} {n : Nat} {xs : List Value} {b : Nat} {cs : Array Value} {fr : Nat × Nat} (hown : w.ownsRow B e size v n xs) (hb : w.heap[b]? = some (.cells cs T fr)) (hTe : T ≠ e) : v.ownBlock ≠ some b := by
  rcases hown.2 with ⟨rfl, _⟩ | ⟨g, cap, cur, rfl, _, hg, _⟩
  · simp [Value.ownBlock]
  · intro h
    have hgb : g = b := by simpa [Value.ownBlock] using h
    subst hgb
    rw [hb] at hg
    injection hg with hg
    injection hg with _ h2 _
    exact hTe h2
theorem or_bit (x r y : Nat) (hx : x < 18446744073709551616) (hr : r < 64) (h : x ||| 2 ^ r = y) : bits .or .u64 (x : Int) (IntKind.u64.wrap (2 ^ r)) = (y : Int) := by
  have hp : 2 ^ r < 18446744073709551616 := Nat.lt_of_lt_of_le (Nat.pow_lt_pow_right (by decide) hr) (by decide)
  have e1 : IntKind.u64.wrap ((2 : Int) ^ r) = ((2 ^ r : Nat) : Int) := by
    rw [show ((2 : Int) ^ r) = ((2 ^ r : Nat) : Int) by simp]; exact u64w _ hp
  rw [e1, u64_or_nat _ _ hx hp, h]
theorem longs_one (xs : List Nat) : ∀ u ∈ longsV xs, u.oneCell' = true := fun u hu => by simp [longsV] at hu; obtain ⟨_, _, rfl⟩ := hu; rfl
end Lec
namespace Go.Proofs.Ytfiioobdknbacaa
open Go.RowKit Lec
theorem info_u64 : (Try.prog.info? 146).map (fun i => (i.zero, i.size, i.bytes)) = some (some (.int .u64 0), 1, 8) := by kernel_rfl

/-- A vector that is being made: its block, its words. -/
structure VecU (w : World) (p base : Nat) (bs : List Bool) (v o : Value) : Prop where
  blk : w.heap[p]? = some (.cells #[v, .int .i64 (bs.length : Int), o] 144 (0, 0))
  own : w.ownsRow base 146 1 v (nW bs.length) (longsV (wordsL bs))
def VPutPost (w : World) (p base : Nat) (bs : List Bool) (o : Value) (e : Ending) (w' : World) : Prop :=
  e = .returned (.tuple #[]) ∧ ∃ v', VecU w' p base bs v' o ∧ Below p w w'


set_option maxRecDepth 100000 in
set_option maxHeartbeats 1000000 in
theorem vput_any (w : World) (p base : Nat) (bs : List Bool) (v o : Value) (hu : VecU w p base bs v o) (hpb : p < base) (hbs : base ≤ w.heap.size) (hm : bs.length ≤ 1048576) (b : Bool) :
    Calls Try.prog 97 #[.pointer (some ⟨p, 0, none⟩), .bool b] w (VPutPost w p base (bs ++ [b]) o) := by
  obtain ⟨hblk, hown⟩ := hu
  have HBK0 := Lib.hid hblk
  have HO0 := Lib.hid hown
  have hk0 := blk_cell hblk (o := 0) rfl
  have hk1 := blk_cell hblk (o := 1) rfl
  have hf0 := blk_frozen hblk 0
  clear hblk hown
  by_cases h0 : bs.length % 64 = 0
  · have h0i : ((bs.length : Int) % 64 == 0) = true := by rw [beq_iff_eq]; omega
    have HNE : Hid (v.ownBlock ≠ some p) := own_ne HO0.out HBK0.out (by decide)
    have HUP : Hid (longsV (wordsL bs) ++ [.int .u64 0] = longsV (wordsUp bs)) := by show _ = _; unfold wordsUp; rw [if_pos h0]; simp [longsV]
    have HNW : Hid (nW bs.length + 1 = bs.length / 64 + 1) := by show _ = _; unfold nW; omega
    have hnw : nW bs.length ≤ 16384 := by unfold nW; omega
    obtain ⟨A0, c0, rfl, _, _, _, _, _⟩ := own_rds HO0.out
    go_enter Try.func97, Try.ntmps97
    go_upto_region 2 with (at_builtin; go_loud (refine wp_app1 (w0 := w) rfl rfl _ _ 140 rfl base 146 (.int .u64 0) 1 8 Try.underlying140 info_u64 rfl (by decide) (by decide) _ (nW bs.length) _ rfl HO0.out rfl rfl (one_cell1 rfl) (by omega) hbs ?_; intro v' w1 hown' hg' hb'; obtain ⟨A1, c1, rfl, _, _, _, _, _⟩ := own_rds hown'; have HB1 := Lib.hid hb'; have HO1 := Lib.hid hown'; have HBK1 := Lib.hid ((hb'.block p hpb).trans HBK0.out); have hk0 := blk_cell HBK1.out (o := 0) rfl; have hf0 := blk_frozen HBK1.out 0; clear hown' hg' hb'))
    obtain ⟨wX, hwX⟩ : ∃ wX, wX = w1.setCell ⟨p, 0, none⟩ (.slice A1 (nW bs.length + 1) c1) := ⟨_, rfl⟩
    rw [← hwX]
    have HO : Hid (wX.ownsRow base 146 1 (.slice A1 (nW bs.length + 1) c1) (nW bs.length + 1) (longsV (wordsL bs) ++ [.int .u64 0])) := by
      rw [hwX]; exact ownsRow_setCell_other HO1.out (own_ne HO1.out HBK1.out (by decide)) _
    have HBK : Hid (wX.heap[p]? = some (.cells #[.slice A1 (nW bs.length + 1) c1, .int .i64 (bs.length : Int), o] 144 (0, 0))) := by
      rw [hwX]; show _ = _; rw [blk_set HBK1.out]; simp
    have HBX : Hid (Below p w wX) := by
      rw [hwX]; exact (HB1.out.mono (Nat.le_of_lt hpb)).setCell (Nat.le_refl _) _
    rw [HUP.out, HNW.out] at HO
    rw [HNW.out] at HBK ⊢
    clear HBK1 HO1 HB1 hwX HO0 HBK0 HUP HNW h0 HNE
    rcases HO.out.2 with ⟨_, hz⟩ | ⟨g, cap, cur, hA, _, _, _, _, _, _⟩
    · exact absurd hz (by omega)
    · injection hA with hA1 hA2 hA3
      subst hA1 hA3
      have hl1 : (wordsUp bs).length = bs.length / 64 + 1 := wordsUp_len bs
      have hq : bs.length / 64 < (wordsUp bs).length := by omega
      have hca : (longsV (wordsUp bs))[bs.length / 64]? = some (.int .u64 ((ofB (chunk bs (bs.length / 64)) : Nat) : Int)) := by
        rw [List.getElem?_map, List.getElem?_eq_getElem hq, wordsUp_at]; rfl
      have hlt := chunk_lt bs (bs.length / 64)
      have hk0 : wX.cell? ⟨p, 0, none⟩ = some (.slice (some ⟨g, 0, none⟩) (bs.length / 64 + 1) c1) := blk_cell HBK.out rfl
      have hk1 : wX.cell? ⟨p, 1, none⟩ = some (.int .i64 (bs.length : Int)) := blk_cell HBK.out rfl
      have hf0 := blk_frozen HBK.out 0
      have hf1 := blk_frozen HBK.out 1
      cases b with
      | false =>
        have HWS : Hid (wordsL (bs ++ [false]) = wordsUp bs) := by
          show _ = _
          rw [wordsL_snoc, ofB_snoc_false]
          apply List.ext_getElem
          · simp
          · intro i h1 h2
            rw [List.getElem_set]
            split
            · rename_i h; subst h; rw [wordsUp_at]
            · rfl
        clear hca hlt
        go_wp2
        go_end0
        refine ⟨rfl, .slice (some ⟨g, 0, none⟩) (bs.length / 64 + 1) c1, ⟨?_, ?_⟩, HBX.out.setCell (Nat.le_refl _) _⟩
        · rw [blk_set HBK.out]; simp
        · rw [HWS.out, show nW (bs ++ [false]).length = bs.length / 64 + 1 by unfold nW; simp; omega]
          exact ownsRow_setCell_other HO.out (own_ne HO.out HBK.out (by decide)) _
      | true =>
        have hor := or_bit (ofB (chunk bs (bs.length / 64))) (bs.length % 64) (ofB (chunk bs (bs.length / 64) ++ [true])) hlt (by omega) (by have := ofB_or (chunk bs (bs.length / 64)); rwa [chunk_last_len] at this)
        have HWS : Hid (wordsL (bs ++ [true]) = (wordsUp bs).set (bs.length / 64) (ofB (chunk bs (bs.length / 64) ++ [true]))) := wordsL_snoc bs true
        have hc : wX.cell? ⟨g, bs.length / 64, none⟩ = some (.int .u64 ((ofB (chunk bs (bs.length / 64)) : Nat) : Int)) := by rw [HO.out.cellAt _ (by omega)]; exact hca
        have hf := HO.out.frozenAt (bs.length / 64)
        have hst := HO.out.stored (bs.length / 64) (.int .u64 ((ofB (chunk bs (bs.length / 64) ++ [true]) : Nat) : Int))
        have HST := Lib.hid hst
        have hgp : g ≠ p := fun e => own_ne HO.out HBK.out (by decide) (by rw [← e]; rfl)
        have HGP := Lib.hid hgp
        clear hst hgp hca
        generalize ofB (chunk bs (bs.length / 64)) = x at *
        generalize ofB (chunk bs (bs.length / 64) ++ [true]) = y at *
        have hz0 : (0 : Int) ≤ (bs.length : Int) / 64 := by omega
        have hz1 : (bs.length : Int) / 64 < ((bs.length / 64 + 1 : Nat) : Int) := by omega
        have hz2 : (bs.length : Int) / 64 < (bs.length : Int) / 64 + 1 := by omega
        have ht1 : ((bs.length : Int) / 64).toNat = bs.length / 64 := by omega
        have hw1 : IntKind.i64.wrap ((bs.length : Int) / 64) = (bs.length : Int) / 64 := wrap_id (by omega)
        have htm : (bs.length : Int).tmod 64 = (bs.length : Int) % 64 := Int.tmod_eq_emod_of_nonneg (by omega)
        have hm0 : (0 : Int) ≤ (bs.length : Int) % 64 := by omega
        have ht2 : ((bs.length : Int) % 64).toNat = bs.length % 64 := by omega
        go_wp2
        go_still_tail 19, (by kernel_rfl)
        have hgp := HGP.out
        have hpg : ¬ p = g := fun e => HGP.out e.symm
        go_wp2
        go_end0
        refine ⟨rfl, .slice (some ⟨g, 0, none⟩) (bs.length / 64 + 1) c1, ⟨?_, ?_⟩, ?_⟩
        · show ((wX.setCell ⟨g, bs.length / 64, none⟩ (.int .u64 (y : Int))).setCell ⟨p, 1, none⟩ (.int .i64 ((bs.length : Int) + 1))).heap[p]? = _
          rw [blk_set (blk_far HBK.out _ hpg)]; simp
        · rw [HWS.out, show nW (bs ++ [true]).length = bs.length / 64 + 1 by unfold nW; simp; omega]
          have h1 := HST.out.1
          have h2 := ownsRow_setCell_other h1 (a := ⟨p, 1, none⟩) (own_ne h1 (blk_far HBK.out _ hpg) (by decide)) (.int .i64 ((bs.length : Int) + 1))
          have h3 : longsV ((wordsUp bs).set (bs.length / 64) y) = (longsV (wordsUp bs)).set (bs.length / 64) (.int .u64 (y : Int)) := by unfold longsV; rw [List.map_set]
          rw [h3]
          exact h2
        · have hg := (HO.out.lt g rfl).1
          have h := (HBX.out.setCell (p := ⟨g, bs.length / 64, none⟩) (by show p ≤ g; omega) (.int .u64 (y : Int))).setCell (p := ⟨p, 1, none⟩) (Nat.le_refl _) (.int .i64 ((bs.length : Int) + 1))
          exact ⟨h.os, h.tape, h.output, h.size, h.block⟩
  · have h0i : ((bs.length : Int) % 64 == 0) = false := by rw [beq_eq_false_iff_ne]; omega
    have HUP : Hid (wordsL bs = wordsUp bs) := by show _ = _; unfold wordsUp; rw [if_neg h0]
    have HNW : Hid (nW bs.length = bs.length / 64 + 1) := by show _ = _; unfold nW; omega
    have HO := HO0.out
    rw [HUP.out, HNW.out] at HO
    have HBK := HBK0
    rcases HO.2 with ⟨_, hz⟩ | ⟨g, cap, cur, rfl, _, _, _, _, _, _⟩
    · exact absurd hz (by omega)
    · replace HO := Lib.hid HO
      have HBX : Hid (Below p w w) := Below.refl _ _
      clear HO0 HBK0 HUP HNW h0 hk0 hk1 hf0
      go_enter Try.func97, Try.ntmps97
      have hl1 : (wordsUp bs).length = bs.length / 64 + 1 := wordsUp_len bs
      have hq : bs.length / 64 < (wordsUp bs).length := by omega
      have hca : (longsV (wordsUp bs))[bs.length / 64]? = some (.int .u64 ((ofB (chunk bs (bs.length / 64)) : Nat) : Int)) := by
        rw [List.getElem?_map, List.getElem?_eq_getElem hq, wordsUp_at]; rfl
      have hlt := chunk_lt bs (bs.length / 64)
      have hk0 : w.cell? ⟨p, 0, none⟩ = some (.slice (some ⟨g, 0, none⟩) (bs.length / 64 + 1) cap) := blk_cell HBK.out rfl
      have hk1 : w.cell? ⟨p, 1, none⟩ = some (.int .i64 (bs.length : Int)) := blk_cell HBK.out rfl
      have hf0 := blk_frozen HBK.out 0
      have hf1 := blk_frozen HBK.out 1
      cases b with
      | false =>
        have HWS : Hid (wordsL (bs ++ [false]) = wordsUp bs) := by
          show _ = _
          rw [wordsL_snoc, ofB_snoc_false]
          apply List.ext_getElem
          · simp
          · intro i h1 h2
            rw [List.getElem_set]
            split
            · rename_i h; subst h; rw [wordsUp_at]
            · rfl
        clear hca hlt
        go_wp2
        go_end0
        refine ⟨rfl, .slice (some ⟨g, 0, none⟩) (bs.length / 64 + 1) cap, ⟨?_, ?_⟩, HBX.out.setCell (Nat.le_refl _) _⟩
        · rw [blk_set HBK.out]; simp
        · rw [HWS.out, show nW (bs ++ [false]).length = bs.length / 64 + 1 by unfold nW; simp; omega]
          exact ownsRow_setCell_other HO.out (own_ne HO.out HBK.out (by decide)) _
      | true =>
        have hor := or_bit (ofB (chunk bs (bs.length / 64))) (bs.length % 64) (ofB (chunk bs (bs.length / 64) ++ [true])) hlt (by omega) (by have := ofB_or (chunk bs (bs.length / 64)); rwa [chunk_last_len] at this)
        have HWS : Hid (wordsL (bs ++ [true]) = (wordsUp bs).set (bs.length / 64) (ofB (chunk bs (bs.length / 64) ++ [true]))) := wordsL_snoc bs true
        have hc : w.cell? ⟨g, bs.length / 64, none⟩ = some (.int .u64 ((ofB (chunk bs (bs.length / 64)) : Nat) : Int)) := by rw [HO.out.cellAt _ (by omega)]; exact hca
        have hf := HO.out.frozenAt (bs.length / 64)
        have hst := HO.out.stored (bs.length / 64) (.int .u64 ((ofB (chunk bs (bs.length / 64) ++ [true]) : Nat) : Int))
        have HST := Lib.hid hst
        have hgp : g ≠ p := fun e => own_ne HO.out HBK.out (by decide) (by rw [← e]; rfl)
        have HGP := Lib.hid hgp
        clear hst hgp hca
        generalize ofB (chunk bs (bs.length / 64)) = x at *
        generalize ofB (chunk bs (bs.length / 64) ++ [true]) = y at *
        have hz0 : (0 : Int) ≤ (bs.length : Int) / 64 := by omega
        have hz1 : (bs.length : Int) / 64 < ((bs.length / 64 + 1 : Nat) : Int) := by omega
        have hz2 : (bs.length : Int) / 64 < (bs.length : Int) / 64 + 1 := by omega
        have ht1 : ((bs.length : Int) / 64).toNat = bs.length / 64 := by omega
        have hw1 : IntKind.i64.wrap ((bs.length : Int) / 64) = (bs.length : Int) / 64 := wrap_id (by omega)
        have htm : (bs.length : Int).tmod 64 = (bs.length : Int) % 64 := Int.tmod_eq_emod_of_nonneg (by omega)
        have hm0 : (0 : Int) ≤ (bs.length : Int) % 64 := by omega
        have ht2 : ((bs.length : Int) % 64).toNat = bs.length % 64 := by omega
        go_wp2
        go_still_tail 19, (by kernel_rfl)
        have hgp := HGP.out
        have hpg : ¬ p = g := fun e => HGP.out e.symm
        go_wp2
        go_end0
        refine ⟨rfl, .slice (some ⟨g, 0, none⟩) (bs.length / 64 + 1) cap, ⟨?_, ?_⟩, ?_⟩
        · show ((w.setCell ⟨g, bs.length / 64, none⟩ (.int .u64 (y : Int))).setCell ⟨p, 1, none⟩ (.int .i64 ((bs.length : Int) + 1))).heap[p]? = _
          rw [blk_set (blk_far HBK.out _ hpg)]; simp
        · rw [HWS.out, show nW (bs ++ [true]).length = bs.length / 64 + 1 by unfold nW; simp; omega]
          have h1 := HST.out.1
          have h2 := ownsRow_setCell_other h1 (a := ⟨p, 1, none⟩) (own_ne h1 (blk_far HBK.out _ hpg) (by decide)) (.int .i64 ((bs.length : Int) + 1))
          have h3 : longsV ((wordsUp bs).set (bs.length / 64) y) = (longsV (wordsUp bs)).set (bs.length / 64) (.int .u64 (y : Int)) := by unfold longsV; rw [List.map_set]
          rw [h3]
          exact h2
        · have hg := (HO.out.lt g rfl).1
          have h := (HBX.out.setCell (p := ⟨g, bs.length / 64, none⟩) (by show p ≤ g; omega) (.int .u64 (y : Int))).setCell (p := ⟨p, 1, none⟩) (Nat.le_refl _) (.int .i64 ((bs.length : Int) + 1))
          exact ⟨h.os, h.tape, h.output, h.size, h.block⟩
end Go.Proofs.Ytfiioobdknbacaa
