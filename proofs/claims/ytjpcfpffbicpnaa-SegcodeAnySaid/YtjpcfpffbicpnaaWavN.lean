/- The walk of wavelet.New. -/
import Derived.Test.YtjpcfpffbicpnaaPackWav
import Derived.Test.YtjpcfpffbicpnaaPackBas
set_option linter.unusedVariables false
set_option linter.unusedSimpArgs false
namespace Lec
open Go Go.RowKit
def okTree (K : Int) (ys : List Int) : Prop := 1 ≤ K ∧ K ≤ 512 ∧ ∀ y ∈ ys, 0 ≤ y ∧ y < K
structure NW (w wx : World) (k n : Nat) (g p : Nat) (v : Value) (X : List Nat) : Prop where
  b1 : Blk wx g 3 (natsC X)
  bp : Blk wx p 97 [v, .slice (some ⟨g, 0, none⟩) k k, .int .i64 (n : Int)]
  hg : w.heap.size ≤ g
  hp : w.heap.size ≤ p
  gp : g ≠ p
  bel : Below w.heap.size w wx
theorem NW.set1 {w wx : World} {k n : Nat} {g p : Nat} {v : Value} {X : List Nat} (h : NW w wx k n g p v X) (i x : Nat) : NW w (wx.setCell ⟨g, i, none⟩ (.int .i64 (x : Int))) k n g p v (X.set i x) :=
  ⟨by rw [natsC_set]; exact h.b1.set i _, h.bp.far _ (Ne.symm h.gp), h.hg, h.hp, h.gp, h.bel.setCell h.hg _⟩
theorem NW.drawn {w wx : World} {k n : Nat} {g p : Nat} {v : Value} {X : List Nat} (h : NW w wx k n g p v X) (q : Nat) : NW w (wx.drewN q) k n g p v X :=
  ⟨h.b1, h.bp, h.hg, h.hp, h.gp, h.bel.trans ((drawn_below wx q).mono h.bel.size)⟩
end Lec
namespace Go.Proofs.Ytjpcfpffbicpnaa
open Go.RowKit Lec
/-- While levels are made: d of them stand. -/
structure LV (w wx : World) (N n g p : Nat) (X : List Nat) (D : Nat) (L : List Nat) (d : Nat) (v : Value) (ps : Nat → Nat) : Prop where
  nw : NW w wx N n g p v X
  own : wx.ownsRow w.heap.size 154 2 v d (lvlsC D L ps d)
  vec : ∀ j, j < d → VecT wx (ps j) (lvB D L j) w.heap.size
section
variable {w wx wy : World} {N n g p D d : Nat} {X L : List Nat} {v : Value} {ps : Nat → Nat}
theorem LV.ext (h : LV w wx N n g p X D L d v ps) (hb : Below wx.heap.size wx wy) : LV w wy N n g p X D L d v ps :=
  ⟨⟨h.nw.b1.ext hb (Nat.le_refl _), h.nw.bp.ext hb (Nat.le_refl _), h.nw.hg, h.nw.hp, h.nw.gp, h.nw.bel.trans (hb.mono h.nw.bel.size)⟩, own_ext h.own hb (Nat.le_refl _), fun j hj => (h.vec j hj).ext hb (Nat.le_refl _)⟩
theorem LV.store {q o : Nat} {cs : List Value} (h : LV w wx N n g p X D L d v ps) (hq : Blk wx q 154 cs) (hne : v.ownBlock ≠ some q) (hw : w.heap.size ≤ q) (u : Value) : LV w (wx.setCell ⟨q, o, none⟩ u) N n g p X D L d v ps :=
  ⟨⟨h.nw.b1.far u (h.nw.b1.one hq (by decide)), h.nw.bp.far u (h.nw.bp.one hq (by decide)), h.nw.hg, h.nw.hp, h.nw.gp, h.nw.bel.setCell hw _⟩, ownsRow_setCell_other h.own hne _, fun j hj => (h.vec j hj).far hq (by decide) u⟩
theorem LV.put {v' : Value} {d' : Nat} {ps' : Nat → Nat} (h : NW w wx N n g p v X) (hown : wx.ownsRow w.heap.size 154 2 v' d' (lvlsC D L ps' d')) (hvec : ∀ j, j < d' → VecT wx (ps' j) (lvB D L j) w.heap.size) : LV w (wx.setCell ⟨p, 0, none⟩ v') N n g p X D L d' v' ps' :=
  ⟨⟨h.b1.far _ h.gp, h.bp.set 0 v', h.hg, h.hp, h.gp, h.bel.setCell h.hp _⟩, ownsRow_setCell_other hown (own_ne hown (show wx.heap[p]? = _ from h.bp) (by decide)) _, fun j hj => (hvec j hj).far h.bp (by decide) _⟩
theorem nw_row {wz : World} {d' : Nat} {xs : List Value} (h : NW w wx N n g p v X) (hg : wx.grownBy wz v.ownBlock) (ho : wx.ownsRow w.heap.size 154 2 v d' xs) : NW w wz N n g p v X :=
  ⟨h.b1.grown hg (own_ne ho (show wx.heap[g]? = _ from h.b1) (by decide)), h.bp.grown hg (own_ne ho (show wx.heap[p]? = _ from h.bp) (by decide)), h.hg, h.hp, h.gp, h.bel.grown hg h.bel.size (fun x hx => (ho.lt x hx).1)⟩
end
theorem info_level : (Try.prog.info? 154).map (fun i => (i.zero, i.size, i.bytes)) = some (some (.agg #[.pointer none, .int .i64 0]), 2, 16) := by kernel_rfl
def NewWPost (w : World) (K : Int) (ys : List Int) (e : Ending) (w' : World) : Prop :=
  Below w.heap.size w w' ∧ ((¬ okTree K ys ∧ e = .returned (.tuple #[.pointer none, .int .i64 1])) ∨
    (okTree K ys ∧ ∃ p D, e = .returned (.tuple #[.pointer (some ⟨p, 0, none⟩), .int .i64 0]) ∧ K.toNat ≤ 2 ^ D ∧ D ≤ 9 ∧ TreeN w' p K.toNat D (ys.map Int.toNat) w.heap.size))
set_option maxRecDepth 100000 in
set_option maxHeartbeats 4000000 in
theorem NewW_any (w : World) (A : Option Addr) (c : Nat) (K : Int) (ys : List Int) (hm : ys.length ≤ 131072) (hr : Rds w A (intsV ys)) :
    Calls Try.prog 73 #[.int .i64 K, .slice A ys.length c] w (NewWPost w K ys) := by
  have HR := Lib.hid hr
  clear hr
  go_enter Try.func73, Try.ntmps73
  by_cases h1 : K < 1
  · go_wp2
    go_ret2
    exact ⟨Below.refl _ _, .inl ⟨fun h => by have := h.1; omega, rfl⟩⟩
  by_cases h2 : 512 < K
  · go_wp2
    go_ret2
    exact ⟨Below.refl _ _, .inl ⟨fun h => by have := h.2.1; omega, rfl⟩⟩
  obtain ⟨k, rfl⟩ : ∃ k : Nat, K = (k : Int) := ⟨K.toNat, by omega⟩
  have hk1 : 1 ≤ k := by omega
  have hk2 : k ≤ 512 := by omega
  obtain ⟨N, HN, hmk⟩ : ∃ N : Nat, Hid (N = k + 1) ∧ ∀ w, (Instr.makeSlice 57 (.int .i64 ((k : Int) + 1)) (.int .i64 ((k : Int) + 1))).run Try.prog w = .ok (.slice (some ⟨w.heap.size, 0, none⟩) N N) (w.alloc (.cells (List.replicate N (Value.int .i64 0)).toArray 3)) := ⟨k + 1, Lib.hid rfl, mk_ints (k + 1) (by omega)⟩
  go_upto_region 4 with (fail)
  obtain ⟨w4, hw4⟩ : ∃ w4, w4 = (w.alloc (.cells (Array.replicate N (.int .i64 0)) 3)).alloc (.cells #[.slice none 0 0, .slice (some ⟨w.heap.size, 0, none⟩) N N, .int .i64 (ys.length : Int)] 97) := ⟨_, rfl⟩
  rw [← hw4]
  have hT : NW w w4 N ys.length w.heap.size (w.heap.size + 1) (.slice none 0 0) (List.replicate N 0) := by
    rw [hw4]
    refine ⟨?_, ?_, by omega, by omega, by omega, ?_⟩
    · exact Blk.allocA (Blk.newL _ _ _ _ _ rfl (by simp [natsC])) _
    · exact Blk.newL _ _ _ _ _ (by simp [World.size_alloc]) rfl
    · exact Below.allocA (Below.allocA (Below.refl _ _) (Nat.le_refl _) _) (Nat.le_refl _) _
  obtain ⟨L, HL⟩ : ∃ L : List Nat, Hid (L = ys.map Int.toNat) := ⟨_, Lib.hid rfl⟩
  have HLL : Hid (L.length = ys.length) := Lib.hid (by rw [HL.out, List.length_map])
  have hF : Hid (∀ d, d < k + 1 → (List.replicate N 0)[d]? = some (Wv.G0 L 0 d)) := Lib.hid (fun d hd => by
    rw [List.getElem?_replicate, if_pos (by rw [HN.out]; exact hd)]; unfold Wv.G0; split <;> rfl)
  generalize hp : w.heap.size + 1 = p at *
  generalize hg : w.heap.size = g at hT ⊢
  clear hw4 hmk hp
  have HG0 : Hid (∀ j y, j < 0 → ys[j]? = some y → 0 ≤ y ∧ y < (k : Int)) := Lib.hid (fun j y hj => by omega)
  go_upto_region 5 with (fail)
  go_loopw [27] (fun i wx => ∃ (m : Nat) (X : List Nat), i = .int .i64 (m : Int) ∧ m ≤ ys.length ∧ Hid (∀ j y, j < m → ys[j]? = some y → 0 ≤ y ∧ y < (k : Int)) ∧ Hid (X.length = N) ∧ Hid (∀ d, d < k + 1 → X[d]? = some (Wv.G0 L m d)) ∧ NW w wx N ys.length g p (.slice none 0 0) X) (fun i _ => ys.length - (intOf i).toNat)
  case atStart => exact ⟨0, _, rfl, by omega, HG0, Lib.hid (by rw [List.length_replicate]), hF, hT⟩
  case round =>
    clear hT hF HG0
    obtain ⟨m, X, rfl, hmm, HG, HXL, HF, hT⟩ := hrel
    by_cases h8 : m < ys.length
    · have h8i : (m : Int) < (ys.length : Int) := by omega
      obtain ⟨y, hy⟩ : ∃ y, ys[m]? = some y := ⟨_, List.getElem?_eq_getElem h8⟩
      obtain ⟨ab, rfl, cb⟩ := (HR.out.ext hT.bel (Nat.le_refl _)) m _ (intsV_at hy)
      have HY := Lib.hid hy
      have HBAD : Hid (¬ (0 ≤ y ∧ y < (k : Int)) → ¬ okTree (k : Int) ys) := Lib.hid (fun h h2 => h (h2.2.2 y (List.mem_iff_getElem?.2 ⟨m, hy⟩)))
      by_cases h3 : y < 0
      · have HTT := Lib.hid hT
        clear hT hy
        go_wp2
        go_ret2
        exact ⟨HTT.out.bel, .inl ⟨HBAD.out (by omega), rfl⟩⟩
      by_cases h4 : (k : Int) ≤ y
      · have HTT := Lib.hid hT
        clear hT hy
        go_wp2
        go_ret2
        exact ⟨HTT.out.bel, .inl ⟨HBAD.out (by omega), rfl⟩⟩
      obtain ⟨x, rfl⟩ : ∃ x : Nat, y = (x : Int) := ⟨y.toNat, by omega⟩
      have hLx : L[m]? = some x := by rw [HL.out, List.getElem?_map, hy]; rfl
      have HFN := Lib.hid (Wv.G0_next hLx)
      have hx : x < k := by omega
      have hfx := HF.out (x + 1) (by omega)
      have hle := Wv.G0_le L m (x + 1)
      have hN := HN.out
      have hLl := HLL.out
      have v0 : (0 : Int) ≤ (x : Int) + 1 := by omega
      have v1 : (x : Int) + 1 < (N : Int) := by omega
      have v2 : ((x : Int) + 1).toNat = x + 1 := by omega
      generalize hyq : Wv.G0 L m (x + 1) = y at *
      have HY2 := Lib.hid hyq
      have cr := hT.b1.cell (natsC_at hfx)
      have fr := hT.b1.froz (x + 1)
      have cp := hT.bp.cell (o := 1) rfl
      have hT2 := hT.set1 (x + 1) (y + 1)
      rw [show ((y + 1 : Nat) : Int) = (y : Int) + 1 by omega] at hT2
      have HT2 := Lib.hid hT2
      clear hT2 hfx hN hyq hy hLx
      go_wp2
      go_roundw
      case rel =>
        refine ⟨m + 1, _, by go_num, by omega, Lib.hid (fun j z hj hz => ?_), Lib.hid (by rw [List.length_set]; exact HXL.out), Lib.hid (fun d hd => ?_), HT2.out⟩
        · by_cases e : j = m
          · subst e
            rw [HY.out] at hz
            injection hz with hz
            omega
          · exact HG.out j z (by omega) hz
        · rw [List.getElem?_set, HFN.out]
          by_cases e : x + 1 = d
          · rw [if_pos e, if_pos e, if_pos (by rw [HXL.out, HN.out]; omega), ← e, HY2.out]
          · rw [if_neg e, if_neg e]; exact HF.out d hd
      case measure => first | (simp [intOf]; done) | (simp [intOf]; omega)
    · obtain rfl : m = ys.length := by omega
      have h8i : ¬ (ys.length : Int) < (ys.length : Int) := by omega
      have HOK : Hid (okTree (k : Int) ys) := Lib.hid ⟨by omega, by omega, fun y hy => by
        obtain ⟨j, hj⟩ := List.mem_iff_getElem?.1 hy
        exact HG.out j y (List.getElem?_eq_some_iff.1 hj).1 hj⟩
      have HF1 : Hid (∀ d, d < k + 1 → X[d]? = some (Wv.G1 L 0 d)) := Lib.hid (fun d hd => by rw [← Wv.G01, HLL.out]; exact HF.out d hd)
      have HTT := Lib.hid hT
      have hlim : ¬ (131072 : Int) < (ys.length : Int) := by omega
      clear HF hT HG
      go_upto_region 14 with (fail)
      obtain ⟨w5, rfl⟩ : ∃ x, x = wr := ⟨wr, rfl⟩
      go_loopw [53] (fun i wx => ∃ (m : Nat) (X : List Nat), i = .int .i64 (m : Int) ∧ m ≤ k ∧ Hid (X.length = N) ∧ Hid (∀ d, d < k + 1 → X[d]? = some (Wv.G1 L m d)) ∧ NW w wx N ys.length g p (.slice none 0 0) X) (fun i _ => k - (intOf i).toNat)
      case atStart => exact ⟨0, _, rfl, by omega, HXL, HF1, HTT.out⟩
      case round =>
        clear HTT HF1 HXL
        obtain ⟨m, X, rfl, hmm, HXL, HF, hT⟩ := hrel
        by_cases h9 : m < k
        · have h9i : (m : Int) < (k : Int) := by omega
          have HFN := Lib.hid (Wv.G1_next L m)
          have hfx := HF.out (m + 1) (by omega)
          have hfy := HF.out m (by omega)
          have hle := Wv.G1_le L m (m + 1)
          have hle2 := Wv.G1_le L m m
          have hLl := HLL.out
          have hN := HN.out
          have k0 : (0 : Int) ≤ (m : Int) := by omega
          have k1 : (m : Int) < (N : Int) := by omega
          have v0 : (0 : Int) ≤ (m : Int) + 1 := by omega
          have v1 : (m : Int) + 1 < (N : Int) := by omega
          have v2 : ((m : Int) + 1).toNat = m + 1 := by omega
          have v3 : IntKind.i64.wrap ((m : Int) + 1) = (m : Int) + 1 := wrap_id (by omega)
          generalize hyq : Wv.G1 L m (m + 1) = y at *
          generalize hzq : Wv.G1 L m m = z at *
          have v4 : IntKind.i64.wrap ((y : Int) + (z : Int)) = (y : Int) + (z : Int) := wrap_id (by omega)
          have HY := Lib.hid hyq
          have HZ := Lib.hid hzq
          have cr := hT.b1.cell (natsC_at hfx)
          have cz := hT.b1.cell (natsC_at hfy)
          have fr := hT.b1.froz (m + 1)
          have cp := hT.bp.cell (o := 1) rfl
          have hT2 := ((hT.drawn 1).set1 (m + 1) (y + z))
          rw [show ((y + z : Nat) : Int) = (y : Int) + (z : Int) by omega] at hT2
          have HT2 := Lib.hid hT2
          have HTK := Lib.hid hT
          clear hT2 hfx hfy hN hyq hzq hLl
          go_upto_region 16 with (fail)
          refine wp_region_qtail 17 (by kernel_rfl) (by kernel_rfl) ?_
          simp only [List.take_succ_cons, List.take_zero, List.drop_succ_cons, List.drop_zero]
          repeat (go_big_quiet_step (fail))
          refine wpQuiet_nil ?_
          go_wp2
          go_roundw
          case rel =>
            refine ⟨m + 1, _, by go_num, by omega, Lib.hid (by rw [List.length_set]; exact HXL.out), Lib.hid (fun d hd => ?_), HT2.out⟩
            rw [List.getElem?_set, HFN.out]
            by_cases e : m + 1 = d
            · rw [if_pos e, if_pos e, if_pos (by rw [HXL.out, HN.out]; omega), ← e, HY.out]
            · rw [if_neg e, if_neg e]; exact HF.out d hd
          case measure => first | (simp [intOf]; done) | (simp [intOf]; omega)
        · obtain rfl : m = k := by omega
          have h9i : ¬ (m : Int) < (m : Int) := by omega
          have HXE : Hid (X = (List.range (m + 1)).map (Wv.less L)) := Lib.hid (List.ext_getElem? (fun j => by
            by_cases hj : j < m + 1
            · rw [HF.out j hj, List.getElem?_map, List.getElem?_range hj]; unfold Wv.G1; rw [if_pos (by omega)]; rfl
            · rw [List.getElem?_eq_none (by rw [HXL.out, HN.out]; omega), List.getElem?_eq_none (by simp; omega)]))
          have HTT := Lib.hid hT
          have hcv : IntKind.u64.wrap ((m : Int) - 1) = ((m - 1 : Nat) : Int) := by rw [show (m : Int) - 1 = ((m - 1 : Nat) : Int) by omega]; exact u64w _ (by omega)
          have HLEN := Lib.hid (fun wz => mbLen_any wz (m - 1) (by omega))
          clear HF hT
          have HNS : Hid (natsC L = intsV ys) := Lib.hid (by
            rw [natsC_ints, HL.out, List.map_map]
            congr 1
            refine (List.map_congr_left (fun y hy => ?_)).trans (List.map_id _)
            have := (HOK.out.2.2 y hy).1
            show ((y.toNat : Nat) : Int) = y
            omega)
          have HLK : Hid (∀ x ∈ L, x < m) := Lib.hid (fun x hx => by
            rw [HL.out] at hx
            obtain ⟨y, hy, rfl⟩ := List.mem_map.1 hx
            have := HOK.out.2.2 y hy
            omega)
          go_wp2_with fail
          refine (HLEN.out _).mono ?_
          rintro e w6 ⟨⟨D, rfl, hD, hD9⟩, rfl⟩
          have HL512 : Hid (∀ x ∈ L, x < 512) := Lib.hid (fun x hx => by have := HLK.out x hx; omega)
          have HLV : Hid (LV w wr N ys.length g p X D L 0 (.slice none 0 0) (fun _ => 0)) := ⟨HTT.out, World.ownsRow_nil _ _ _ _, fun j hj => by omega⟩
          have HRV : Hid (Rds wr A (natsC (Wv.lv (Wv.bitD D) L 0))) := Lib.hid (by show Rds _ _ (natsC L); rw [HNS.out]; exact HR.out.ext HTT.out.bel (Nat.le_refl _))
          have HD := Lib.hid hD
          clear HTT hcv HLEN hD
          obtain ⟨w7, rfl⟩ : ∃ x, x = wr := ⟨wr, rfl⟩
          go_upto_region 19 with (fail)
          go_loopw [1, 10] (fun l i wx => ∃ (d : Nat) (v : Value) (ps : Nat → Nat) (Al : Option Addr) (cl : Nat), i = .int .i64 ((D : Int) - 1 - (d : Int)) ∧ l = .slice Al ys.length cl ∧ d ≤ D ∧ Hid (LV w wx N ys.length g p X D L d v ps) ∧ Hid (Rds wx Al (natsC (Wv.lv (Wv.bitD D) L d)))) (fun _ i _ => ((intOf i) + 1).toNat)
          case atStart => exact ⟨0, _, _, _, _, by simp, rfl, by omega, HLV, HRV⟩
          case round =>
            clear HLV HRV
            obtain ⟨d, v, ps, Al, cl, rfl, rfl, hd, HV, HRW⟩ := hrel
            by_cases h10 : d < D
            · obtain ⟨s, hs⟩ : ∃ s : Nat, s = D - 1 - d := ⟨_, rfl⟩
              have hsi : (D : Int) - 1 - (d : Int) = (s : Int) := by omega
              rw [hsi]
              have h10i : (0 : Int) ≤ (s : Int) := by omega
              have HSP : Hid (∀ wz, Below wr.heap.size wr wz → Calls Try.prog 92 #[.slice Al ys.length cl, .int .i64 (s : Int)] wz (SplitPost wz s (Wv.lv (Wv.bitD D) L d))) := Lib.hid (fun wz hb => by
                have h := split_any wz Al cl s (Wv.lv (Wv.bitD D) L d) (by omega) (by rw [Wv.lv_len, HLL.out]; exact hm) (fun x hx => HL512.out x ((Wv.lv_mem _ _ _ _).1 hx)) (HRW.out.ext hb (Nat.le_refl _))
                rwa [Wv.lv_len, HLL.out] at h)
              go_upto_region 22 with (fail)
              obtain ⟨w8, hw8⟩ : ∃ w8, w8 = wr.alloc (.cells #[.pointer none, .int .i64 0] 154) := ⟨_, rfl⟩
              rw [← hw8]
              have HB8 : Hid (Below wr.heap.size wr w8) := Lib.hid (by rw [hw8]; exact (Below.refl _ _).alloc (Nat.le_refl _) _)
              have HQ8 : Hid (Blk w8 wr.heap.size 154 [.pointer none, .int .i64 0]) := Lib.hid (by rw [hw8]; exact Blk.new wr _ _)
              have HSI := Lib.hid hsi
              have HS := Lib.hid hs
              have hs8 : s ≤ 8 := by omega
              clear hw8 hs hsi
              go_wp2_with fail
              refine (HSP.out w8 HB8.out).mono ?_
              rintro e w9 ⟨pp, lo, v9, rfl, hlo1, hlo2, hlo3, hvec, hown9, hb9⟩
              have HQ9 := Lib.hid (HQ8.out.ext hb9 (Nat.le_refl _))
              have z0 := HQ9.out.cell (o := 0) rfl
              have z1 := HQ9.out.cell (o := 1) rfl
              have y0 := HQ9.out.froz 0
              have y1 := HQ9.out.froz 1
              have HV9 := Lib.hid (HV.out.ext (HB8.out.trans (hb9.mono HB8.out.size)))
              have hvne : v.ownBlock ≠ some wr.heap.size := fun h => by have := (HV.out.own.lt _ h).2; omega
              have HVN := Lib.hid hvne
              have hwr := HV.out.nw.bel.size
              have HNZ : Hid (Wv.nought (bitS s) (Wv.lv (Wv.bitD D) L d) = Wv.nought (Wv.bitD D d) (Wv.lv (Wv.bitD D) L d)) := Lib.hid (by rw [HS.out]; rfl)
              have HPT : Hid (Wv.part (bitS s) (Wv.lv (Wv.bitD D) L d) = Wv.lv (Wv.bitD D) L (d + 1)) := Lib.hid (by rw [HS.out]; rfl)
              have HBI : Hid ((Wv.lv (Wv.bitD D) L d).map (bitS s) = lvB D L d) := Lib.hid (by rw [HS.out]; rfl)
              rw [Wv.lv_len, HLL.out, HPT.out] at hown9
              rw [HBI.out] at hvec
              generalize Wv.nought (bitS s) (Wv.lv (Wv.bitD D) L d) = nz at *
              have HVC := Lib.hid hvec
              obtain ⟨A9, c9, rfl, q1, q2, q3, q4, q5⟩ := own_rds hown9
              have HO9 := Lib.hid hown9
              have hsz8 := HB8.out.size
              have hsz9 := hb9.size
              have HLO : Hid (w.heap.size ≤ lo) := Lib.hid (by omega)
              clear hvec hown9 hb9 q1 q2 q3 q4 q5 HB8 HQ8 hvne HPT HBI HSP HRW hlo1 hlo2 hlo3
              go_upto_region 23 with (fail)
              obtain ⟨w10, hw10⟩ : ∃ w10, w10 = (w9.setCell ⟨wr.heap.size, 0, none⟩ (.pointer (some ⟨pp, 0, none⟩))).setCell ⟨wr.heap.size, 1, none⟩ (.int .i64 (nz : Int)) := ⟨_, rfl⟩
              rw [← hw10]
              have HQ10 : Hid (Blk w10 wr.heap.size 154 [.pointer (some ⟨pp, 0, none⟩), .int .i64 (nz : Int)]) := Lib.hid (by rw [hw10]; exact (HQ9.out.set 0 (.pointer (some ⟨pp, 0, none⟩))).set 1 (.int .i64 (nz : Int)))
              have HV10 : Hid (LV w w10 N ys.length g p X D L d v ps) := Lib.hid (by rw [hw10]; exact (HV9.out.store HQ9.out HVN.out hwr _).store (HQ9.out.set 0 _) HVN.out hwr _)
              have HVC10 : Hid (VecT w10 pp (lvB D L d) w.heap.size) := Lib.hid (by
                rw [hw10]
                have h := (HVC.out.far HQ9.out (o := 0) (by decide) (.pointer (some ⟨pp, 0, none⟩))).far (HQ9.out.set 0 (.pointer (some ⟨pp, 0, none⟩))) (o := 1) (by decide) (.int .i64 (nz : Int))
                obtain ⟨A', c', B', d', e1, e2, e3, e4⟩ := h.out
                exact ⟨A', c', B', d', e1, own_lower e2 HLO.out, own_lower e3 HLO.out, Nat.le_trans HLO.out e4⟩)
              have HO10 : Hid (w10.ownsRow w.heap.size 3 1 (.slice A9 ys.length c9) ys.length (natsC (Wv.lv (Wv.bitD D) L (d + 1)))) := Lib.hid (by
                rw [hw10]
                have hne : (Value.slice A9 ys.length c9).ownBlock ≠ some wr.heap.size := own_ne HO9.out (show w9.heap[wr.heap.size]? = _ from HQ9.out) (by decide)
                exact own_lower (ownsRow_setCell_other (ownsRow_setCell_other HO9.out (a := ⟨wr.heap.size, 0, none⟩) hne _) (a := ⟨wr.heap.size, 1, none⟩) hne _) (by omega))
              have hpq : p ≠ wr.heap.size := HV10.out.nw.bp.one HQ10.out (by decide)
              have hqp : wr.heap.size ≠ p := Ne.symm hpq
              obtain ⟨Av, cv, rfl, q1, q2, q3, q4, q5⟩ := own_rds HV10.out.own
              clear q1 q2 q3 q4 q5 hw10 z0 z1 y0 y1 HQ9 HV9 HVC HO9 HV
              generalize hqq : wr.heap.size = q at *
              have HWQ : Hid (w.heap.size ≤ q) := hwr
              clear hqq hwr
              have c0 := HQ10.out.cell (o := 0) rfl
              have c1 := HQ10.out.cell (o := 1) rfl
              have cp := HV10.out.nw.bp.cell (o := 0) rfl
              have fp := HV10.out.nw.bp.froz 0
              have HD1 : Hid (Below w10.heap.size w10 (w10.alloc (.cells #[.pointer (some ⟨pp, 0, none⟩), .int .i64 (nz : Int)] 154)).drew) := Lib.hid (Below.drew1 ((Below.refl _ _).alloc (Nat.le_refl _) _))
              have HVA : Hid (LV w (w10.alloc (.cells #[.pointer (some ⟨pp, 0, none⟩), .int .i64 (nz : Int)] 154)).drew N ys.length g p X D L d (.slice Av d cv) ps) := Lib.hid (HV10.out.ext HD1.out)
              have HOA := Lib.hid HVA.out.own
              have HQA := Lib.hid (HQ10.out.ext HD1.out (Nat.le_refl _))
              have HRA : Hid (Rds (w10.alloc (.cells #[.pointer (some ⟨pp, 0, none⟩), .int .i64 (nz : Int)] 154)).drew (some ⟨w10.heap.size, 0, none⟩) [.pointer (some ⟨pp, 0, none⟩), .int .i64 (nz : Int)]) := Lib.hid (rds_litM w10 #[.pointer (some ⟨pp, 0, none⟩), .int .i64 (nz : Int)] 154)
              have HDS : Hid (w.heap.size ≤ (w10.alloc (.cells #[.pointer (some ⟨pp, 0, none⟩), .int .i64 (nz : Int)] 154)).drew.heap.size) := Lib.hid HVA.out.nw.bel.size
              have cpA := HVA.out.nw.bp.cell (o := 0) rfl
              refine wp_region_held_drew (S := (fun w' => w'.cell? ⟨q, 0, none⟩ = some (.pointer (some ⟨pp, 0, none⟩)) ∧ w'.cell? ⟨q, 1, none⟩ = some (.int .i64 (nz : Int)))) (by kernel_rfl) ⟨c0, c1⟩ (fun hHeld => ?_)
              refine wpAnyH_take (i := 0) (oi := _) (v := ?_) rfl (by kernel_rfl) (by kernel_rfl) (by kernel_rfl) (fun _ _ _ h => h) (Or.inl ⟨by rfl, ?_⟩) (by assumption) ?_
              rotate_left 1
              · intro w hSw; (try dsimp only at hSw); go_simp; (try with_reducible rfl)
              simp only [Act.put, List.setIfInBounds_toArray, List.set_cons_zero, List.set_cons_succ]
              refine wpAnyH_take (i := 1) (oi := _) (v := ?_) rfl (by kernel_rfl) (by kernel_rfl) (by kernel_rfl) (fun _ _ _ h => h) (Or.inl ⟨by rfl, ?_⟩) (by assumption) ?_
              rotate_left 1
              · intro w hSw; (try dsimp only at hSw); go_simp; (try with_reducible rfl)
              simp only [Act.put, List.setIfInBounds_toArray, List.set_cons_zero, List.set_cons_succ]
              refine wpAnyH_take (i := 2) (oi := _) (v := ?_) rfl (by kernel_rfl) (by kernel_rfl) (by kernel_rfl) (fun _ _ _ h => h) (Or.inl ⟨by rfl, ?_⟩) (by assumption) ?_
              rotate_left 1
              · intro w hSw; (try dsimp only at hSw); go_simp; (try with_reducible rfl)
              simp only [Act.put, List.setIfInBounds_toArray, List.set_cons_zero, List.set_cons_succ]
              refine wpAnyH_take (i := 3) (oi := _) (v := ?_) rfl (by kernel_rfl) (by kernel_rfl) (by kernel_rfl) (fun _ _ _ h => h) (Or.inl ⟨by rfl, ?_⟩) (by assumption) ?_
              rotate_left 1
              · intro w hSw; (try dsimp only at hSw); go_simp; (try with_reducible rfl)
              simp only [Act.put, List.setIfInBounds_toArray, List.set_cons_zero, List.set_cons_succ]
              refine wpAnyH_take (i := 5) (oi := _) (v := ?_) rfl (by kernel_rfl) (by kernel_rfl) (by kernel_rfl) (fun _ _ _ h => h) (Or.inl ⟨by rfl, ?_⟩) (by assumption) ?_
              rotate_left 1
              · intro w hSw; (try dsimp only at hSw); go_simp; (try with_reducible rfl)
              simp only [Act.put, List.setIfInBounds_toArray, List.set_cons_zero, List.set_cons_succ]
              refine wpAnyH_ready (rs := [4, 6]) (by kernel_rfl) (by simp) ?_
              refine AllReadyH.cons (o := _) rfl (fun K hK => ?_) (AllReadyH.cons (o := _) rfl (fun K hK => ?_) AllReadyH.nil)
              · go_simp
                refine hK.out _ _ ?_ (fun hHeld => ?_)
                · (try dsimp only); exact ⟨c0, c1⟩
                clear hK K
                (try simp only [Act.put, List.setIfInBounds_toArray, List.set_cons_zero, List.set_cons_succ])
                refine wpAnyH_ready (rs := [6]) (by kernel_rfl) (by simp) ?_
                refine AllReadyH.cons (o := _) rfl (fun K hK => ?_) AllReadyH.nil
                go_simp
                refine hK.out _ _ ?_ (fun hHeld => ?_)
                · (try dsimp only); exact ⟨HQA.out.cell (o := 0) rfl, HQA.out.cell (o := 1) rfl⟩
                clear hK K
                (try simp only [Act.put, List.setIfInBounds_toArray, List.set_cons_zero, List.set_cons_succ])
                refine wpAnyH_ready (rs := [7]) (by kernel_rfl) (by simp) ?_
                refine AllReadyH.cons (o := _) rfl (fun K hK => ?_) AllReadyH.nil
                refine app_opM rfl _ _ 95 rfl w.heap.size 154 (.agg #[.pointer none, .int .i64 0]) 2 16 Try.underlying95 info_level rfl (by decide) (by decide) _ d _ rfl HOA.out ⟨w10.heap.size, 0, none⟩ 1 1 [.pointer (some ⟨pp, 0, none⟩), .int .i64 (nz : Int)] rfl rfl HRA.out (by intro u hu; simp at hu; rcases hu with rfl | rfl <;> rfl) (by omega) HDS.out ?_
                intro v11 w11 hown11 hg11
                obtain ⟨A11, c11, rfl, q1, q2, q3, q4, q5⟩ := own_rds hown11
                have HO11 := Lib.hid hown11
                have HG11 := Lib.hid hg11
                have HN11 : Hid (NW w w11 N ys.length g p (.slice Av d cv) X) := Lib.hid (nw_row HVA.out.nw hg11 HVA.out.own)
                have hk0 := hg11.cell (HQA.out.cell (o := 0) rfl) (fun h => HVN.out h.symm)
                have hk1' := hg11.cell (HQA.out.cell (o := 1) rfl) (fun h => HVN.out h.symm)
                have fp11 := HN11.out.bp.froz 0
                have cp11 := HN11.out.bp.cell (o := 0) rfl
                clear q1 q2 q3 q4 q5 hown11 hg11 c0 c1 fp cp cpA
                have c0 := hk0
                have c1 := hk1'
                clear hk0 hk1'
                refine hK.out _ _ ?_ (fun hHeld => ?_)
                · (try dsimp only); exact ⟨c0, c1⟩
                clear hK K
                (try simp only [Act.put, List.setIfInBounds_toArray, List.set_cons_zero, List.set_cons_succ])
                refine wpAnyH_take (i := 8) (oi := _) (v := ?_) rfl (by kernel_rfl) (by kernel_rfl) (by kernel_rfl) (fun _ _ _ h => h) (Or.inl ⟨by rfl, ?_⟩) (by assumption) ?_
                rotate_left 1
                · intro w hSw; (try dsimp only at hSw); go_simp; (try with_reducible rfl)
                simp only [Act.put, List.setIfInBounds_toArray, List.set_cons_zero, List.set_cons_succ]
                refine wpAnyH_take (i := 9) (oi := _) (v := ?_) rfl (by kernel_rfl) (by kernel_rfl) (by kernel_rfl) (fun _ _ _ h => h) (Or.inl ⟨by rfl, ?_⟩) (by assumption) ?_
                rotate_left 1
                · intro w hSw; (try dsimp only at hSw); go_simp; (try with_reducible rfl)
                simp only [Act.put, List.setIfInBounds_toArray, List.set_cons_zero, List.set_cons_succ]
                refine wpAnyH_ready (rs := [10]) (by kernel_rfl) (by simp) ?_
                refine AllReadyH.cons (o := _) rfl (fun K hK => ?_) AllReadyH.nil
                go_simp
                refine hK.out _ _ ?_ (fun hHeld => ?_)
                · (try dsimp only); go_keep
                clear hK K
                (try simp only [Act.put, List.setIfInBounds_toArray, List.set_cons_zero, List.set_cons_succ])
                refine wpAnyH_done (by kernel_rfl) ?_ _
                have HG := HG11.out
                have HO := HO11.out
                change World.grownBy _ _ (Value.slice Av d cv).ownBlock at HG
                have HPS : Hid (lvlsC D L (fun j => if j = d then pp else ps j) (d + 1) = lvlsC D L ps d ++ [.pointer (some ⟨pp, 0, none⟩), .int .i64 (nz : Int)]) := Lib.hid (by
                  rw [lvlsC_succ, lvlsC_congr D L _ ps d (fun j hj => if_neg (by omega))]
                  unfold lvlC
                  dsimp only
                  rw [if_pos rfl, HNZ.out])
                rw [← HPS.out] at HO
                have HL11 : Hid (LV w (w11.setCell ⟨p, 0, none⟩ (.slice A11 (d + 1) c11)) N ys.length g p X D L (d + 1) (.slice A11 (d + 1) c11) (fun j => if j = d then pp else ps j)) := Lib.hid (LV.put HN11.out HO (fun j hj => by
                  show VecT _ (if j = d then pp else ps j) _ _
                  by_cases e : j = d
                  · rw [if_pos e, e]; exact (HVC10.out.ext HD1.out (Nat.le_refl _)).apart HG HOA.out (by decide)
                  · rw [if_neg e]; exact (HVA.out.vec j (by omega)).apart HG HOA.out (by decide)))
                have hrw := ownsRow_setCell_other (a := ⟨p, 0, none⟩) (own_grown (own_ext HO10.out HD1.out (Nat.le_refl _)) HG (own_apart (own_ext HO10.out HD1.out (Nat.le_refl _)) HOA.out (by decide))) (own_ne (own_grown (own_ext HO10.out HD1.out (Nat.le_refl _)) HG (own_apart (own_ext HO10.out HD1.out (Nat.le_refl _)) HOA.out (by decide))) (show w11.heap[p]? = _ from HN11.out.bp) (by decide)) (.slice A11 (d + 1) c11)
                obtain ⟨w12, hw12⟩ : ∃ w12, w12 = w11.setCell ⟨p, 0, none⟩ (.slice A11 (d + 1) c11) := ⟨_, rfl⟩
                rw [← hw12] at hrw HL11 ⊢
                obtain ⟨A12, c12, he, _, _, _, hr12, _⟩ := own_rds hrw
                obtain ⟨rfl, _, rfl⟩ := Value.slice.inj he
                have HR12 := Lib.hid hr12
                clear HG HO HPS hrw hw12 hr12 he HG11 HO11 HN11 fp11 cp11 c0 c1
                go_wp2
                go_roundw
                case rel => exact ⟨d + 1, _, _, _, _, by have := HSI.out; go_num, rfl, by omega, HL11, HR12⟩
                case measure => have := HSI.out; first | (simp [intOf]; done) | (simp [intOf]; omega)
              · go_simp
                refine hK.out _ _ ?_ (fun hHeld => ?_)
                · (try dsimp only); exact ⟨HQA.out.cell (o := 0) rfl, HQA.out.cell (o := 1) rfl⟩
                clear hK K
                (try simp only [Act.put, List.setIfInBounds_toArray, List.set_cons_zero, List.set_cons_succ])
                refine wpAnyH_ready (rs := [4]) (by kernel_rfl) (by simp) ?_
                refine AllReadyH.cons (o := _) rfl (fun K hK => ?_) AllReadyH.nil
                go_simp
                refine hK.out _ _ ?_ (fun hHeld => ?_)
                · (try dsimp only); exact ⟨HQA.out.cell (o := 0) rfl, HQA.out.cell (o := 1) rfl⟩
                clear hK K
                (try simp only [Act.put, List.setIfInBounds_toArray, List.set_cons_zero, List.set_cons_succ])
                refine wpAnyH_ready (rs := [7]) (by kernel_rfl) (by simp) ?_
                refine AllReadyH.cons (o := _) rfl (fun K hK => ?_) AllReadyH.nil
                refine app_opM rfl _ _ 95 rfl w.heap.size 154 (.agg #[.pointer none, .int .i64 0]) 2 16 Try.underlying95 info_level rfl (by decide) (by decide) _ d _ rfl HOA.out ⟨w10.heap.size, 0, none⟩ 1 1 [.pointer (some ⟨pp, 0, none⟩), .int .i64 (nz : Int)] rfl rfl HRA.out (by intro u hu; simp at hu; rcases hu with rfl | rfl <;> rfl) (by omega) HDS.out ?_
                intro v11 w11 hown11 hg11
                obtain ⟨A11, c11, rfl, q1, q2, q3, q4, q5⟩ := own_rds hown11
                have HO11 := Lib.hid hown11
                have HG11 := Lib.hid hg11
                have HN11 : Hid (NW w w11 N ys.length g p (.slice Av d cv) X) := Lib.hid (nw_row HVA.out.nw hg11 HVA.out.own)
                have hk0 := hg11.cell (HQA.out.cell (o := 0) rfl) (fun h => HVN.out h.symm)
                have hk1' := hg11.cell (HQA.out.cell (o := 1) rfl) (fun h => HVN.out h.symm)
                have fp11 := HN11.out.bp.froz 0
                have cp11 := HN11.out.bp.cell (o := 0) rfl
                clear q1 q2 q3 q4 q5 hown11 hg11 c0 c1 fp cp cpA
                have c0 := hk0
                have c1 := hk1'
                clear hk0 hk1'
                refine hK.out _ _ ?_ (fun hHeld => ?_)
                · (try dsimp only); exact ⟨c0, c1⟩
                clear hK K
                (try simp only [Act.put, List.setIfInBounds_toArray, List.set_cons_zero, List.set_cons_succ])
                refine wpAnyH_take (i := 8) (oi := _) (v := ?_) rfl (by kernel_rfl) (by kernel_rfl) (by kernel_rfl) (fun _ _ _ h => h) (Or.inl ⟨by rfl, ?_⟩) (by assumption) ?_
                rotate_left 1
                · intro w hSw; (try dsimp only at hSw); go_simp; (try with_reducible rfl)
                simp only [Act.put, List.setIfInBounds_toArray, List.set_cons_zero, List.set_cons_succ]
                refine wpAnyH_take (i := 9) (oi := _) (v := ?_) rfl (by kernel_rfl) (by kernel_rfl) (by kernel_rfl) (fun _ _ _ h => h) (Or.inl ⟨by rfl, ?_⟩) (by assumption) ?_
                rotate_left 1
                · intro w hSw; (try dsimp only at hSw); go_simp; (try with_reducible rfl)
                simp only [Act.put, List.setIfInBounds_toArray, List.set_cons_zero, List.set_cons_succ]
                refine wpAnyH_ready (rs := [10]) (by kernel_rfl) (by simp) ?_
                refine AllReadyH.cons (o := _) rfl (fun K hK => ?_) AllReadyH.nil
                go_simp
                refine hK.out _ _ ?_ (fun hHeld => ?_)
                · (try dsimp only); go_keep
                clear hK K
                (try simp only [Act.put, List.setIfInBounds_toArray, List.set_cons_zero, List.set_cons_succ])
                refine wpAnyH_done (by kernel_rfl) ?_ _
                have HG := HG11.out
                have HO := HO11.out
                change World.grownBy _ _ (Value.slice Av d cv).ownBlock at HG
                have HPS : Hid (lvlsC D L (fun j => if j = d then pp else ps j) (d + 1) = lvlsC D L ps d ++ [.pointer (some ⟨pp, 0, none⟩), .int .i64 (nz : Int)]) := Lib.hid (by
                  rw [lvlsC_succ, lvlsC_congr D L _ ps d (fun j hj => if_neg (by omega))]
                  unfold lvlC
                  dsimp only
                  rw [if_pos rfl, HNZ.out])
                rw [← HPS.out] at HO
                have HL11 : Hid (LV w (w11.setCell ⟨p, 0, none⟩ (.slice A11 (d + 1) c11)) N ys.length g p X D L (d + 1) (.slice A11 (d + 1) c11) (fun j => if j = d then pp else ps j)) := Lib.hid (LV.put HN11.out HO (fun j hj => by
                  show VecT _ (if j = d then pp else ps j) _ _
                  by_cases e : j = d
                  · rw [if_pos e, e]; exact (HVC10.out.ext HD1.out (Nat.le_refl _)).apart HG HOA.out (by decide)
                  · rw [if_neg e]; exact (HVA.out.vec j (by omega)).apart HG HOA.out (by decide)))
                have hrw := ownsRow_setCell_other (a := ⟨p, 0, none⟩) (own_grown (own_ext HO10.out HD1.out (Nat.le_refl _)) HG (own_apart (own_ext HO10.out HD1.out (Nat.le_refl _)) HOA.out (by decide))) (own_ne (own_grown (own_ext HO10.out HD1.out (Nat.le_refl _)) HG (own_apart (own_ext HO10.out HD1.out (Nat.le_refl _)) HOA.out (by decide))) (show w11.heap[p]? = _ from HN11.out.bp) (by decide)) (.slice A11 (d + 1) c11)
                obtain ⟨w12, hw12⟩ : ∃ w12, w12 = w11.setCell ⟨p, 0, none⟩ (.slice A11 (d + 1) c11) := ⟨_, rfl⟩
                rw [← hw12] at hrw HL11 ⊢
                obtain ⟨A12, c12, he, _, _, _, hr12, _⟩ := own_rds hrw
                obtain ⟨rfl, _, rfl⟩ := Value.slice.inj he
                have HR12 := Lib.hid hr12
                clear HG HO HPS hrw hw12 hr12 he HG11 HO11 HN11 fp11 cp11 c0 c1
                go_wp2
                go_roundw
                case rel => exact ⟨d + 1, _, _, _, _, by have := HSI.out; go_num, rfl, by omega, HL11, HR12⟩
                case measure => have := HSI.out; first | (simp [intOf]; done) | (simp [intOf]; omega)
            · obtain rfl : d = D := by omega
              have h10i : ¬ (0 : Int) ≤ (d : Int) - 1 - (d : Int) := by omega
              have HPD : Hid (m ≤ 2 ^ d) := Lib.hid (by have := HD.out; omega)
              clear HD
              go_wp2
              go_ret2
              refine ⟨HV.out.nw.bel, .inr ⟨HOK.out, p, d, rfl, ?_, hD9, ?_⟩⟩
              · rw [Int.toNat_natCast]; exact HPD.out
              · rw [← HL.out, Int.toNat_natCast]
                obtain ⟨Av, cv, rfl, q1, q2, q3, q4, q5⟩ := own_rds HV.out.own
                have hb := HV.out.nw.b1
                rw [HXE.out] at hb
                have hbp := HV.out.nw.bp
                rw [HN.out, ← HLL.out] at hbp
                refine ⟨Av, cv, some ⟨g, 0, none⟩, m + 1, ps, hbp.cell (o := 0) rfl, hbp.cell (o := 1) rfl, hbp.cell (o := 2) rfl, q4, hb.rds, fun j hj => (HV.out.vec j hj).vecN, HV.out.nw.hp, fun a ha => ?_, fun a ha => ?_⟩
                · obtain ⟨g', rfl, h, _⟩ := q5 a ha; exact h
                · injection ha with ha; rw [← ha]; exact HV.out.nw.hg
end Go.Proofs.Ytjpcfpffbicpnaa
