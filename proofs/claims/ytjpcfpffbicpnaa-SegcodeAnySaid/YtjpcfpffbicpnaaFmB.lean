/- The walk of fm.Build. -/
import Derived.Test.YtjpcfpffbicpnaaFmW
import Derived.Test.YtjpcfpffbicpnaaPackBwt
set_option linter.unusedVariables false
set_option linter.unusedSimpArgs false
namespace Lec
open Go Go.RowKit
theorem VecN.low {w : World} {p lo lo' : Nat} {bs : List Bool} (h : VecN w p bs lo) (hl : lo' ≤ lo) : VecN w p bs lo' := by
  obtain ⟨A, c, B, d, h1, h2, h3, h4, h5, h6, h7, h8⟩ := h.out
  exact ⟨A, c, B, d, h1, h2, h3, h4, h5, by omega, fun a ha => Nat.le_trans hl (h7 a ha), fun a ha => Nat.le_trans hl (h8 a ha)⟩
theorem TreeN.low {w : World} {p k D lo lo' : Nat} {L : List Nat} (h : TreeN w p k D L lo) (hl : lo' ≤ lo) : TreeN w p k D L lo' := by
  obtain ⟨A, c, B, c', ps, h1, h2, h3, h4, h5, h6, h7, h8, h9⟩ := h.out
  exact ⟨A, c, B, c', ps, h1, h2, h3, h4, h5, fun d hd => (h6 d hd).low hl, by omega, fun a ha => Nat.le_trans hl (h8 a ha), fun a ha => Nat.le_trans hl (h9 a ha)⟩
theorem rds_low {w w' : World} {B : Nat} {A : Option Addr} {vs : List Value} (h : Rds w A vs) (hb : Below B w w') (hA : ∀ a, A = some a → a.block < B) : Rds w' A vs := fun i u hu => by
  obtain ⟨a, e, hc⟩ := h i u hu
  exact ⟨a, e, (hb.cell (by rw [add_block]; exact hA a e)).trans hc⟩
theorem rds_far {w : World} {A : Option Addr} {vs : List Value} {q o : Nat} (h : Rds w A vs) (hA : ∀ a, A = some a → a.block ≠ q) (u : Value) : Rds (w.setCell ⟨q, o, none⟩ u) A vs := fun i v hv => by
  obtain ⟨a, e, hc⟩ := h i v hv
  exact ⟨a, e, (cell_set_far u (by rw [add_block]; exact hA a e)).trans hc⟩
end Lec
namespace Go.Proofs.Ytjpcfpffbicpnaa
open Go.RowKit Lec Lec.Fm
/-- While rows are gone through: of jk of them the bit, of jp the place, of jr the row is laid. -/
structure BL (w4 wx : World) (x g B p N at_ : Nat) (RA : Option Addr) (s b : List Nat) (jk jp jr : Nat) (vx vk vp : Value) (X : List Nat) : Prop where
  bx : Blk wx x 72 [.pointer (some ⟨p, 0, none⟩), .pointer none, vx, .slice (some ⟨g, 0, none⟩) N N, .int .i64 (at_ : Int)]
  bg : Blk wx g 3 (natsC X)
  kept : wx.ownsRow B 4 1 vk jk (boolsC ((keptL s b).take jk))
  pl : wx.ownsRow B 3 1 vp (((R s b).take jp).filter (fun v => v % 8 == 0)).length (natsC (((R s b).take jp).filter (fun v => v % 8 == 0)))
  rr : Rds wx RA (natsC (R s b))
  bel : Below w4.heap.size w4 wx
  xB : x < B
  gB : g < B
  xg : x ≠ g
  x4 : w4.heap.size ≤ x
  g4 : w4.heap.size ≤ g
  ra : ∀ a, RA = some a → a.block ≠ x ∧ a.block ≠ g ∧ a.block < B
  b4 : w4.heap.size ≤ B
  bs : B ≤ wx.heap.size
  xl : X.length = N
  xs : ∀ r v : Nat, r < jr → (R s b)[r]? = some v → v % 8 = 0 → X[v / 8]? = some r
section
variable {w4 wx wy : World} {x g B p N at_ jk jp jr : Nat} {RA : Option Addr} {s b X : List Nat} {vx vk vp : Value}
/-- The bits grow by one. -/
theorem BL.bit {T : TypeId} {cs : Array Value} {vk' : Value} (h : BL w4 wx x g B p N at_ RA s b jk jp jr vx vk vp X) {v : Nat} (hv : (R s b)[jk]? = some v)
    (hown : wy.ownsRow B 4 1 vk' (jk + 1) (boolsC ((keptL s b).take jk) ++ [.bool (v % 8 == 0)])) (hg : (wx.alloc (.cells cs T)).grownBy wy vk.ownBlock) (hb : Below B wx wy) :
    BL w4 wy x g B p N at_ RA s b (jk + 1) jp jr vx vk' vp X := by
  have hk : (keptL s b).take (jk + 1) = (keptL s b).take jk ++ [v % 8 == 0] := by
    have he : (keptL s b)[jk]? = some (v % 8 == 0) := by unfold keptL; rw [List.getElem?_map, hv]; rfl
    obtain ⟨hl, hv⟩ := List.getElem?_eq_some_iff.1 he
    rw [List.take_succ_eq_append_getElem hl, hv]
  have h1 := own_ext h.pl ((Below.refl wx.heap.size wx).alloc (Nat.le_refl _) (.cells cs T)) (Nat.le_refl _)
  have h2 := own_ext h.kept ((Below.refl wx.heap.size wx).alloc (Nat.le_refl _) (.cells cs T)) (Nat.le_refl _)
  exact ⟨h.bx.extlt hb h.xB, h.bg.extlt hb h.gB, by rw [hk]; unfold boolsC at hown ⊢; rw [List.map_append]; exact hown, own_grown h1 hg (own_apart h1 h2 (by decide)), rds_low h.rr hb (fun a ha => (h.ra a ha).2.2), h.bel.trans (hb.mono h.b4),
    h.xB, h.gB, h.xg, h.x4, h.g4, h.ra, h.b4, Nat.le_trans h.bs hb.size, h.xl, h.xs⟩
/-- A row whose place is not kept. -/
theorem BL.skip (h : BL w4 wx x g B p N at_ RA s b jk jp jp vx vk vp X) {v : Nat} (hv : (R s b)[jp]? = some v) (h8 : ¬ v % 8 = 0) : BL w4 wx x g B p N at_ RA s b jk (jp + 1) (jp + 1) vx vk vp X := by
  obtain ⟨hl, he⟩ := List.getElem?_eq_some_iff.1 hv
  have hf : ((R s b).take (jp + 1)).filter (fun v => v % 8 == 0) = ((R s b).take jp).filter (fun v => v % 8 == 0) := by
    rw [List.take_succ_eq_append_getElem hl, he, List.filter_append]
    simp [h8]
  refine ⟨h.bx, h.bg, h.kept, by rw [hf]; exact h.pl, h.rr, h.bel, h.xB, h.gB, h.xg, h.x4, h.g4, h.ra, h.b4, h.bs, h.xl, fun r u hr hu h0 => ?_⟩
  by_cases e : r = jp
  · subst e
    rw [hv] at hu
    injection hu with hu
    omega
  · exact h.xs r u (by omega) hu h0
/-- The places grow by one. -/
theorem BL.pla {T : TypeId} {cs : Array Value} {vp' : Value} (h : BL w4 wx x g B p N at_ RA s b jk jp jr vx vk vp X) {v : Nat} (hv : (R s b)[jp]? = some v) (h8 : v % 8 = 0)
    (hown : wy.ownsRow B 3 1 vp' ((((R s b).take jp).filter (fun v => v % 8 == 0)).length + 1) (natsC (((R s b).take jp).filter (fun v => v % 8 == 0)) ++ [.int .i64 (v : Int)])) (hg : (wx.alloc (.cells cs T)).grownBy wy vp.ownBlock) (hb : Below B wx wy) :
    BL w4 wy x g B p N at_ RA s b jk (jp + 1) jr vx vk vp' X := by
  obtain ⟨hl, he⟩ := List.getElem?_eq_some_iff.1 hv
  have hf : ((R s b).take (jp + 1)).filter (fun v => v % 8 == 0) = ((R s b).take jp).filter (fun v => v % 8 == 0) ++ [v] := by
    rw [List.take_succ_eq_append_getElem hl, he, List.filter_append]
    simp [h8]
  have h1 := own_ext h.pl ((Below.refl wx.heap.size wx).alloc (Nat.le_refl _) (.cells cs T)) (Nat.le_refl _)
  have h2 := own_ext h.kept ((Below.refl wx.heap.size wx).alloc (Nat.le_refl _) (.cells cs T)) (Nat.le_refl _)
  exact ⟨h.bx.extlt hb h.xB, h.bg.extlt hb h.gB, own_grown h2 hg (own_apart h2 h1 (by decide)), by rw [hf, List.length_append]; unfold natsC at hown ⊢; rw [List.map_append]; exact hown, rds_low h.rr hb (fun a ha => (h.ra a ha).2.2), h.bel.trans (hb.mono h.b4),
    h.xB, h.gB, h.xg, h.x4, h.g4, h.ra, h.b4, Nat.le_trans h.bs hb.size, h.xl, h.xs⟩
/-- A cell of the index is written. -/
theorem BL.stx (h : BL w4 wx x g B p N at_ RA s b jk jp jr vx vk vp X) (u : Value) : BL w4 (wx.setCell ⟨x, 2, none⟩ u) x g B p N at_ RA s b jk jp jr u vk vp X :=
  ⟨h.bx.set 2 u, h.bg.far u (Ne.symm h.xg), ownsRow_setCell_other h.kept (fun e => by have h2 : B ≤ x := (h.kept.lt _ e).1; have := h.xB; omega) _, ownsRow_setCell_other h.pl (fun e => by have h2 : B ≤ x := (h.pl.lt _ e).1; have := h.xB; omega) _, rds_far h.rr (fun a ha => (h.ra a ha).1) _, h.bel.setCell h.x4 _,
    h.xB, h.gB, h.xg, h.x4, h.g4, h.ra, h.b4, by rw [World.size_setCell]; exact h.bs, h.xl, h.xs⟩
/-- A place's row is written. -/
theorem BL.stg (h : BL w4 wx x g B p N at_ RA s b jk jp jr vx vk vp X) {v : Nat} (hv : (R s b)[jr]? = some v) (h8 : v % 8 = 0) (hN : v / 8 < N) (hd : (R s b).Nodup) : BL w4 (wx.setCell ⟨g, v / 8, none⟩ (.int .i64 (jr : Int))) x g B p N at_ RA s b jk jp (jr + 1) vx vk vp (X.set (v / 8) jr) :=
  ⟨h.bx.far _ h.xg, by rw [natsC_set]; exact h.bg.set _ _, ownsRow_setCell_other h.kept (fun e => by have h2 : B ≤ g := (h.kept.lt _ e).1; have := h.gB; omega) _, ownsRow_setCell_other h.pl (fun e => by have h2 : B ≤ g := (h.pl.lt _ e).1; have := h.gB; omega) _, rds_far h.rr (fun a ha => (h.ra a ha).2.1) _, h.bel.setCell h.g4 _,
    h.xB, h.gB, h.xg, h.x4, h.g4, h.ra, h.b4, by rw [World.size_setCell]; exact h.bs, by rw [List.length_set]; exact h.xl, fun r u hr hu h0 => by
      rw [List.getElem?_set]
      by_cases e : v / 8 = u / 8
      · rw [if_pos e, if_pos (by rw [h.xl]; exact hN)]
        have : u = v := by omega
        subst this
        rw [nodup_inj hd hv hu]
      · rw [if_neg e]
        by_cases e2 : r = jr
        · subst e2
          rw [hv] at hu
          injection hu with hu
          subst hu
          exact absurd rfl e
        · exact h.xs r u (by omega) hu h0⟩
end
theorem info_intB : (Try.prog.info? 3).map (fun i => (i.zero, i.size, i.bytes)) = some (some (.int .i64 0), 1, 8) := by kernel_rfl
theorem info_boolB : (Try.prog.info? 4).map (fun i => (i.zero, i.size, i.bytes)) = some (some (.bool false), 1, 1) := by kernel_rfl
def BuildPost (w : World) (K : Int) (ys : List Int) (e : Ending) (w' : World) : Prop :=
  Below w.heap.size w w' ∧ ((¬ okTree K ys ∧ e = .returned (.tuple #[.pointer none, .int .i64 1])) ∨
    (okTree K ys ∧ ∃ x D b, e = .returned (.tuple #[.pointer (some ⟨x, 0, none⟩), .int .i64 0]) ∧ FmC K.toNat D (ys.map Int.toNat) b ∧ FmN w' x K.toNat D (ys.map Int.toNat) b w.heap.size))
set_option maxRecDepth 100000 in
set_option maxHeartbeats 4000000 in
theorem Build_any (w : World) (A : Option Addr) (c : Nat) (K : Int) (ys : List Int) (hm : ys.length ≤ 131072) (hr : Rds w A (intsV ys)) (hA : A = none → ys.length = 0 ∧ c = 0) :
    Calls Try.prog 51 #[.int .i64 K, .slice A ys.length c] w (BuildPost w K ys) := by
  have HR := Lib.hid hr
  have HA := Lib.hid hA
  have HN1 := Lib.hid (NewW_any w A c K ys hm hr)
  clear hr hA
  go_enter Try.func51, Try.ntmps51
  go_wp2_with fail
  refine HN1.out.mono ?_
  rintro e w1 ⟨hb, ⟨hno, rfl⟩ | ⟨hok, p1, D1, rfl, _, _, _⟩⟩
  · have HB := Lib.hid hb
    have HNO := Lib.hid hno
    clear hb hno
    go_wp2
    go_ret2
    exact ⟨HB.out, .inl ⟨HNO.out, rfl⟩⟩
  have HOK := Lib.hid hok
  obtain ⟨k, rfl⟩ : ∃ k : Nat, K = (k : Int) := ⟨K.toNat, by have := hok.1; omega⟩
  have hk5 : k ≤ 512 := by have := hok.2.1; omega
  obtain ⟨s, HS⟩ : ∃ s, Hid (s = ys.map Int.toNat) := ⟨_, Lib.hid rfl⟩
  have HSL : Hid (s.length = ys.length) := Lib.hid (by rw [HS.out, List.length_map])
  have HSY : Hid (∀ z ∈ s, z < k) := Lib.hid (fun z hz => by
    rw [HS.out] at hz
    obtain ⟨y, hy, rfl⟩ := List.mem_map.1 hz
    have := HOK.out.2.2 y hy
    omega)
  have HNV : Hid (natsC s = intsV ys) := Lib.hid (by
    rw [HS.out, natsC_ints, List.map_map]
    congr 1
    refine (List.map_congr_left (fun y hy => ?_)).trans (List.map_id _)
    have := (HOK.out.2.2 y hy).1
    show ((y.toNat : Nat) : Int) = y
    omega)
  have HB1 := Lib.hid hb
  have hsm : s.length ≤ 131072 := by rw [HSL.out]; exact hm
  have HRS : Hid (∀ w', Below w.heap.size w w' → Rds w' A (natsC s)) := Lib.hid fun w' h => by rw [HNV.out]; exact HR.out.ext h (Nat.le_refl _)
  have HMK := Lib.hid (Make_any w1 A c s hsm (HRS.out _ hb) (by rw [HSL.out]; exact HA.out) (fun z hz => Nat.lt_of_lt_of_le (HSY.out z hz) hk5))
  have HST : Hid (∀ w', Below w.heap.size w w' → _) := Lib.hid fun w' h => Sort_nat w' A c s hsm (HRS.out _ h) (by rw [HSL.out]; exact HA.out) (fun z hz => Nat.lt_of_lt_of_le (HSY.out z hz) hk5)
  clear hb hok HN1
  rw [← HSL.out]
  go_wp2_with fail
  refine HMK.out.mono ?_
  rintro e w2 ⟨b, v, rfl, hsa, hown, hb⟩
  obtain ⟨A2, c2, rfl, p1', p2', p3', p4', p5'⟩ := own_rds hown
  have HSA := Lib.hid hsa
  have HB2 : Hid (Below w.heap.size w w2) := Lib.hid (HB1.out.trans (hb.mono HB1.out.size))
  have hll : (L s b).length = s.length := Sa.outL_len hsa
  have HLL := Lib.hid hll
  have HN2 := Lib.hid (NewW_any w2 A2 c2 (k : Int) ((L s b).map fun v : Nat => (v : Int)) (by rw [List.length_map, hll]; exact hsm) (by rw [← natsC_ints]; exact p4'))
  rw [List.length_map, hll] at HN2
  obtain ⟨tt, HTE⟩ : ∃ tt, Hid (tt = T s b) := ⟨_, Lib.hid rfl⟩
  rw [show Sa.atK (Sa.rowsL s b) (s.length + 1) = tt from HTE.out.symm]
  clear hown hb hsa hll p1' p2' p3' p4' p5' HMK
  go_wp2_with fail
  refine HN2.out.mono ?_
  rintro e w3 ⟨hb, ⟨hno, _⟩ | ⟨_, p, D, rfl, hkD, hD9, ht⟩⟩
  · exact absurd ⟨HOK.out.1, HOK.out.2.1, fun y hy => by
      obtain ⟨z, hz, rfl⟩ := List.mem_map.1 hy
      unfold L Sa.outL at hz
      obtain ⟨u, hu, rfl⟩ := List.mem_map.1 hz
      obtain ⟨hu, h0⟩ := List.mem_filter.1 hu
      have h1 := (Sa.rowsL_mem HSA.out u).1 hu
      have h0 : u ≠ 0 := by simpa using h0
      have h2 := HSY.out _ (sy_mem (s := s) (i := u - 1) (by omega))
      omega⟩ hno
  rw [Int.toNat_natCast] at hkD ht
  have hmm : ((L s b).map fun v : Nat => (v : Int)).map Int.toNat = L s b := by rw [List.map_map]; refine (List.map_congr_left (fun y _ => ?_)).trans (List.map_id _); rfl
  rw [hmm] at ht
  have HFC : Hid (FmC k D s b) := ⟨HSA.out, hD9, hk5, hkD, hsm, HSY.out⟩
  have HB3 : Hid (Below w.heap.size w w3) := Lib.hid (HB2.out.trans (hb.mono HB2.out.size))
  have HT3 : Hid (TreeN w3 p k D (L s b) w.heap.size) := Lib.hid (ht.low HB2.out.size)
  have HS3 := Lib.hid (HST.out _ HB3.out)
  clear hb hmm ht hkD hD9 HN2 HST
  go_wp2_with fail
  refine HS3.out.mono ?_
  rintro e w4 ⟨AS, b2, rfl, hown, hsa2, hb⟩
  obtain rfl : b2 = b := hsa2.eq HSA.out
  obtain ⟨AS', cS, he, p1', p2', p3', p4', p5'⟩ := own_rds hown
  obtain ⟨rfl, _, rfl⟩ := Value.slice.inj he
  have HRB := Lib.hid p4'
  have HAS := Lib.hid p3'
  have HASB : Hid (∀ a, AS = some a → a.block < w4.heap.size) := Lib.hid fun a ha => by obtain ⟨g, rfl, _, h⟩ := p5' a ha; exact h
  have HB4 : Hid (Below w.heap.size w w4) := Lib.hid (HB3.out.trans (hb.mono HB3.out.size))
  have HT4 : Hid (∀ w', Below w4.heap.size w4 w' → TreeN w' p k D (L s b2) w.heap.size) := Lib.hid fun w' h => (HT3.out.ext hb (Nat.le_refl _)).ext h (Nat.le_refl _)
  clear hown hsa2 hb he p1' p2' p3' p4' p5' HS3 HT3 HB3
  obtain ⟨N, HN, hmk⟩ : ∃ N : Nat, Hid (N = s.length / 8 + 2) ∧ ∀ w, (Instr.makeSlice 57 (.int .i64 ((s.length : Int) / 8 + 2)) (.int .i64 ((s.length : Int) / 8 + 2))).run Try.prog w = .ok (.slice (some ⟨w.heap.size, 0, none⟩) N N) (w.alloc (.cells (List.replicate N (Value.int .i64 0)).toArray 3)) :=
    ⟨s.length / 8 + 2, Lib.hid rfl, by have := mk_ints (s.length / 8 + 2) (by omega); rw [show ((s.length / 8 + 2 : Nat) : Int) = (s.length : Int) / 8 + 2 by omega] at this; exact this⟩
  go_upto_region 9 with (fail)
  obtain ⟨w5, hw5⟩ : ∃ w5, w5 = (w4.alloc (.cells #[.pointer (some ⟨p, 0, none⟩), .pointer none, .slice none 0 0, .slice (some ⟨w4.heap.size + 1, 0, none⟩) N N, .int .i64 (tt : Int)] 72)).alloc (.cells (Array.replicate N (.int .i64 0)) 3) := ⟨_, rfl⟩
  rw [← hw5]
  have HB5 : Hid (Below w4.heap.size w4 w5) := by rw [hw5]; exact Below.allocA (Below.allocA (Below.refl _ _) (Nat.le_refl _) _) (Nat.le_refl _) _
  have hbx : Blk w5 w4.heap.size 72 [.pointer (some ⟨p, 0, none⟩), .pointer none, .slice none 0 0, .slice (some ⟨w4.heap.size + 1, 0, none⟩) N N, .int .i64 (tt : Int)] := by
    rw [hw5]; exact Blk.allocA (Blk.newL _ _ _ _ _ rfl rfl) _
  have hbg : Blk w5 (w4.heap.size + 1) 3 (natsC (List.replicate N 0)) := by
    rw [hw5]; exact Blk.newL _ _ _ _ _ (by simp [World.size_alloc]) (by simp [natsC])
  have hw5s : w5.heap.size = w4.heap.size + 2 := by rw [hw5]; simp
  obtain ⟨x, hx⟩ : ∃ x, x = w4.heap.size := ⟨_, rfl⟩
  obtain ⟨g, hg⟩ : ∃ g, g = w4.heap.size + 1 := ⟨_, rfl⟩
  have HX4 : Hid (w4.heap.size ≤ x ∧ w4.heap.size ≤ g ∧ x ≠ g ∧ x < w5.heap.size ∧ g < w5.heap.size) := ⟨by omega, by omega, by omega, by omega, by omega⟩
  rw [← hg] at hbx hbg ⊢
  rw [← hx] at hbx ⊢
  have HBX := Lib.hid hbx
  have HBG := Lib.hid hbg
  clear hw5 hbx hbg hmk hw5s hx hg
  have HR5 : Hid (Rds w5 AS (natsC b2)) := Lib.hid (HRB.out.ext HB5.out (Nat.le_refl _))
  have HBK : Hid (Blk (w5.alloc (.cells #[.int .i64 (s.length : Int)] 3)) w5.heap.size 3 [.int .i64 (s.length : Int)]) := Lib.hid (Blk.new w5 #[.int .i64 (s.length : Int)] 3)
  have HB1 : Hid (Below w5.heap.size w5 (w5.alloc (.cells #[.int .i64 (s.length : Int)] 3))) := Lib.hid ((Below.refl _ _).alloc (Nat.le_refl _) _)
  have HR6 : Hid (Rds (w5.alloc (.cells #[.int .i64 (s.length : Int)] 3)) AS (natsC b2)) := Lib.hid (HR5.out.ext HB1.out (Nat.le_refl _))
  have hbl : (natsC b2).length = s.length * 1 := by simp [natsC, HSA.out.len]
  clear HR5 HRB
  go_wp2_with (at_builtin; refine wp_app rfl _ _ 57 rfl w5.heap.size 3 (.int .i64 0) 1 8 Try.underlying57 info_intB rfl (by decide) (by decide) (.slice (some ⟨w5.heap.size, 0, none⟩) 1 1) 1 [.int .i64 (s.length : Int)] rfl (HBK.out.own 1 _ (Nat.le_refl _) (by decide) rfl) AS s.length s.length (natsC b2) rfl HAS.out hbl HR6.out (natsC_one _) (by omega) HB1.out.size ?_; intro v' w6 hown' hg'; have HO := Lib.hid hown'; have HG := Lib.hid hg'; obtain ⟨RA, cR, rfl, q1, q2, q3, q4, q5⟩ := own_rds hown'; have HRR := Lib.hid q4; have HQ5 := Lib.hid q5; clear hown' hg' q1 q2 q3 q4 q5)
  have HRL : Hid ((R s b2).length = 1 + s.length) := by show _ = _; rw [Sa.rowsL_len HSA.out]; omega
  have HB6 : Hid (Below w5.heap.size w5 w6) := HB1.out.grown HG.out HB1.out.size (fun k hk => by simp [Value.ownBlock] at hk; omega)
  have HR7 : Hid (Rds w6 RA (natsC (R s b2))) := HRR.out
  have HBL0 : Hid (BL w4 w6 x g w6.heap.size p N tt RA s b2 0 0 0 (.slice none 0 0) (.slice none 0 0) (.slice none 0 0) (List.replicate N 0)) := by
    have hsz := HB6.out.size
    have hs5 := HB5.out.size
    have h4 := HX4.out
    exact ⟨HBX.out.ext HB6.out (Nat.le_refl _), HBG.out.ext HB6.out (Nat.le_refl _), World.ownsRow_nil _ _ _ _, World.ownsRow_nil _ _ _ _, HR7.out, HB5.out.trans (HB6.out.mono HB5.out.size), by omega, by omega, h4.2.2.1, h4.1, h4.2.1,
      fun a ha => by obtain ⟨q, rfl, ha1, ha2⟩ := HQ5.out a ha; dsimp only; omega, by omega, Nat.le_refl _, by simp, fun r v hr => by omega⟩
  have HBND : Hid (∀ (r v : Nat), (R s b2)[r]? = some v → v ≤ s.length) := Lib.hid fun r v hr => (Sa.rowsL_mem HSA.out v).1 (List.mem_iff_getElem?.2 ⟨r, hr⟩)
  have HND : Hid ((R s b2).Nodup) := Lib.hid (Sa.rowsL_nodup HSA.out)
  clear HO HG HRR HR6 HBK HBX HBG HR7 HQ5 HAS hbl
  go_loopw [16, 65] (fun vk i wx => ∃ (j : Nat) (vp : Value) (X : List Nat), j ≤ 1 + s.length ∧ i = .int .i64 (j : Int) ∧ Hid (BL w4 wx x g w6.heap.size p N tt RA s b2 j j j vp vk vp X)) (fun _ i _ => 1 + s.length - (intOf i).toNat)
  case atStart => exact ⟨0, _, _, by omega, rfl, HBL0⟩
  case round =>
    clear HBL0
    obtain ⟨j, vp, X, hj, rfl, HL⟩ := hrel
    by_cases h8 : j < 1 + s.length
    · have h8i : (j : Int) < 1 + (s.length : Int) := by omega
      obtain ⟨v, hv⟩ : ∃ v, (R s b2)[j]? = some v := ⟨_, List.getElem?_eq_getElem (by rw [HRL.out]; exact h8)⟩
      obtain ⟨vk, rfl⟩ : ∃ z, z = u16 := ⟨_, rfl⟩
      obtain ⟨aR, rfl, cR2⟩ := HL.out.rr j _ (natsC_at hv)
      have hvs := HBND.out j v hv
      have HVE := Lib.hid hv
      have hsz := HL.out.bs
      have hsm2 : v % 8 < 8 := Nat.mod_lt _ (by omega)
      have HMB : Hid (((v : Int) % 8 == 0) = (v % 8 == 0)) := by show _ = _; rw [Bool.eq_iff_iff, beq_iff_eq, beq_iff_eq]; omega
      clear hv
      by_cases h0 : v % 8 = 0
      · have hm0 : ((v : Int) % 8 == 0) = true := by rw [beq_iff_eq]; omega
        have hm1 : (v : Int) % 8 = 0 := by omega
        have HM8 : Hid ((v % 8 == 0) = true) := by show _ = _; simpa using h0
        have HPL : Hid ((((R s b2).take j).filter (fun v => v % 8 == 0)).length ≤ 200000) := Lib.hid (by
          have := List.length_filter_le (fun v => v % 8 == 0) ((R s b2).take j)
          rw [List.length_take] at this
          omega)
        generalize hpn : (((R s b2).take j).filter (fun v => v % 8 == 0)).length = m at *
        have hpl := HPL.out
        have hvN : (v : Int) / 8 < (N : Int) := by have := HN.out; omega
        have hvT : ((v : Int) / 8).toNat = v / 8 := by omega
        go_wp2_with (first
          | (at_builtin; refine wp_app1 (w0 := wr) rfl rfl _ _ 131 rfl w6.heap.size 4 (.bool false) 1 1 Try.underlying131 info_boolB rfl (by decide) (by decide) _ j _ rfl HL.out.kept rfl rfl (one_cell1 rfl) (by omega) hsz ?_
             intro vk' wA hown1 hg1 hb1
             have HLA := Lib.hid (HL.out.bit HVE.out (by rw [HM8.out]; exact hown1) hg1 hb1)
             have hszA := HLA.out.bs
             have cA2 := HLA.out.bx.cell (o := 2) rfl
             have cA3 := HLA.out.bx.cell (o := 3) rfl
             clear hown1 hg1 hb1)
          | (at_builtin; refine wp_app1 (w0 := wA) rfl rfl _ _ 57 rfl w6.heap.size 3 (.int .i64 0) 1 8 Try.underlying57 info_intB rfl (by decide) (by decide) _ _ _ rfl HLA.out.pl rfl rfl (one_cell1 rfl) (by omega) hszA ?_
             intro vp' wB hown2 hg2 hb2
             have HLB := Lib.hid (HLA.out.pla HVE.out h0 hown2 hg2 hb2)
             obtain ⟨Ap, cp, rfl, q1, q2, q3, q4, q5⟩ := own_rds hown2
             have HLC := Lib.hid (HLB.out.stx (.slice Ap (m + 1) cp))
             have f2 := HLB.out.bx.froz 2
             have cB2 := HLB.out.bx.cell (o := 2) rfl
             have cC3 := HLC.out.bx.cell (o := 3) rfl
             obtain ⟨z, hz⟩ : ∃ z, X[v / 8]? = some z := ⟨_, List.getElem?_eq_getElem (by rw [HLC.out.xl, HN.out]; omega)⟩
             have cg := HLC.out.bg.cell (natsC_at hz)
             have fg := HLC.out.bg.froz (v / 8)
             have HLD := Lib.hid (HLC.out.stg HVE.out h0 (by rw [HN.out]; omega) HND.out)
             rw [hpn] at HLD
             clear hown2 hg2 hb2 cA2 cA3 hz q1 q2 q3 q4 q5))
        go_roundw
        case rel => exact ⟨j + 1, _, _, by omega, by go_num, HLD⟩
        case measure => first | (simp [intOf]; done) | (simp [intOf]; omega)
      · have hm0 : ((v : Int) % 8 == 0) = false := by rw [beq_eq_false_iff_ne]; omega
        have hm1 : ¬ (v : Int) % 8 = 0 := by omega
        have HM8 : Hid ((v % 8 == 0) = false) := by show _ = _; simpa using h0
        go_wp2_with (first
          | (at_builtin; refine wp_app1 (w0 := wr) rfl rfl _ _ 131 rfl w6.heap.size 4 (.bool false) 1 1 Try.underlying131 info_boolB rfl (by decide) (by decide) _ j _ rfl HL.out.kept rfl rfl (one_cell1 rfl) (by omega) hsz ?_
             intro vk' wA hown1 hg1 hb1
             have HLA := Lib.hid ((HL.out.bit HVE.out (by rw [HM8.out]; exact hown1) hg1 hb1).skip HVE.out h0)
             clear hown1 hg1 hb1))
        go_roundw
        case rel => exact ⟨j + 1, _, _, by omega, by go_num, HLA⟩
        case measure => first | (simp [intOf]; done) | (simp [intOf]; omega)
    · obtain rfl : j = 1 + s.length := by omega
      have h8i : ¬ (1 + (s.length : Int)) < 1 + (s.length : Int) := by omega
      have hkl : (keptL s b2).take (1 + s.length) = keptL s b2 := List.take_of_length_le (by unfold keptL; rw [List.length_map, HRL.out]; exact Nat.le_refl _)
      have hpl : (R s b2).take (1 + s.length) = R s b2 := List.take_of_length_le (by rw [HRL.out]; exact Nat.le_refl _)
      have hk2 := HL.out.kept
      have hp2 := HL.out.pl
      rw [hkl] at hk2
      rw [hpl] at hp2
      obtain ⟨Ak, ck, rfl, _, _, _, k4, _⟩ := own_rds hk2
      obtain ⟨Ap, cp, rfl, _, _, _, l4, l5⟩ := own_rds hp2
      have HNV2 := Lib.hid (New_typed wr Ak (1 + s.length) ck (keptL s b2) (by unfold keptL; rw [List.length_map, HRL.out]) (by omega) k4)
      have HPLR : Hid (Rds wr Ap (natsC (plL s b2))) := Lib.hid l4
      have HPLB : Hid (∀ a, Ap = some a → w6.heap.size ≤ a.block ∧ a.block < wr.heap.size) := Lib.hid fun a ha => by obtain ⟨q, rfl, h1, h2⟩ := l5 a ha; exact ⟨h1, h2⟩
      have hfe : ((R s b2).take (1 + s.length)).filter (fun v => v % 8 == 0) = plL s b2 := by rw [hpl]; rfl
      have HBXW := Lib.hid HL.out.bx
      clear hkl hk2 hp2 k4 l4 l5
      go_wp2_with fail
      refine HNV2.out.mono ?_
      rintro e w7 ⟨kp, rfl, hkp1, hkp2, hvec, hb7⟩
      have HVN : Hid (VecN w7 kp (keptL s b2) wr.heap.size) := Lib.hid hvec.vecN
      have HBX7 := Lib.hid (HBXW.out.ext hb7 (Nat.le_refl _))
      have HBG7 := Lib.hid (HL.out.bg.ext hb7 (Nat.le_refl _))
      have HBE7 : Hid (Below w4.heap.size w4 w7) := Lib.hid (HL.out.bel.trans (hb7.mono HL.out.bel.size))
      have HPL7 := Lib.hid (HPLR.out.ext hb7 (Nat.le_refl _))
      have HBSX : Hid (x < wr.heap.size ∧ g < wr.heap.size) := Lib.hid ⟨HL.out.bx.lt, HL.out.bg.lt⟩
      clear hvec hb7
      have c1 := HBX7.out.cell (o := 1) rfl
      have f1 := HBX7.out.froz 1
      have HBX8 := Lib.hid (HBX7.out.set 1 (.pointer (some ⟨kp, 0, none⟩)))
      have HBG8 := Lib.hid (HBG7.out.far (q := x) (o := 1) (.pointer (some ⟨kp, 0, none⟩)) (Ne.symm HL.out.xg))
      obtain ⟨z, hz⟩ : ∃ z, X[N - 1]? = some z := ⟨_, List.getElem?_eq_getElem (by rw [HL.out.xl, HN.out]; omega)⟩
      have d3 := HBX8.out.cell (o := 3) rfl
      have dg := HBG8.out.cell (natsC_at hz)
      have dfg := HBG8.out.froz (N - 1)
      have hN2 : 2 ≤ N := by rw [HN.out]; omega
      have hN3 : N ≤ 1000000 := by rw [HN.out]; omega
      have e1 : IntKind.i64.wrap ((N : Int) - 1) = (N : Int) - 1 := wrapI (by omega)
      have e2 : (0 : Int) ≤ (N : Int) - 1 := by omega
      have e3 : (N : Int) - 1 < (N : Int) := by omega
      have e4 : ((N : Int) - 1).toNat = N - 1 := by omega
      have HLX := Lib.hid (⟨HL.out.xl, HL.out.xs, HL.out.xg, HL.out.x4, HL.out.g4, HL.out.xB, HL.out.gB⟩ : _ ∧ _ ∧ _ ∧ _ ∧ _ ∧ _ ∧ _)
      clear hz HL
      go_upto_region 20 with (fail)
      clear c1 f1
      refine wp_region_qtail 13 (by kernel_rfl) (by kernel_rfl) ?_
      simp only [List.take_succ_cons, List.take_zero, List.drop_succ_cons, List.drop_zero]
      repeat (go_big_quiet_step (fail))
      refine wpQuiet_nil ?_
      go_wp2
      go_ret2
      obtain ⟨xl, xs, xg, x4, g4, xB, gB⟩ := HLX.out
      have hBX := HBSX.out
      have hb8 := (HBE7.out.setCell x4 (.pointer (some ⟨kp, 0, none⟩)) : Below w4.heap.size w4 (w7.setCell ⟨x, 1, none⟩ _))
      have hb9 : Below w4.heap.size w4 ((w7.setCell ⟨x, 1, none⟩ (.pointer (some ⟨kp, 0, none⟩))).drewN 1) := hb8.trans ((drawn_below _ 1).mono hb8.size)
      have hb10 : Below w4.heap.size w4 (((w7.setCell ⟨x, 1, none⟩ (.pointer (some ⟨kp, 0, none⟩))).drewN 1).setCell ⟨g, N - 1, none⟩ (.int .i64 0)) := hb9.setCell g4 _
      refine ⟨HB4.out.trans (hb10.mono HB4.out.size), .inr ⟨HOK.out, x, D, b2, rfl, ?_, ?_⟩⟩
      · rw [Int.toNat_natCast, ← HS.out]; exact HFC.out
      · rw [Int.toNat_natCast, ← HS.out]
        have bx10 := (HBX8.out.drew 1).far (q := g) (o := N - 1) (.int .i64 0) xg
        have bg10 := (HBG8.out.drew 1).set (N - 1) (.int .i64 0)
        rw [show Value.int IntKind.i64 0 = Value.int IntKind.i64 ((0 : Nat) : Int) from rfl, ← natsC_set] at bg10
        have hv10 := (((HVN.out.grown (setCell_grown _ x 1 (.pointer (some ⟨kp, 0, none⟩))) (fun k h => by injection h with h; omega)).ext (drawn_below _ 1) (Nat.le_refl _)).grown (setCell_grown _ g (N - 1) (.int .i64 0)) (fun k h => by injection h with h; omega))
        have hp8 := rds_far (q := x) (o := 1) HPL7.out (fun a ha => by have := (HPLB.out a ha).1; omega) (.pointer (some ⟨kp, 0, none⟩))
        have hp9 := hp8.ext (drawn_below _ 1) (Nat.le_refl _)
        have hp10 := rds_far (q := g) (o := N - 1) hp9 (fun a ha => by have := (HPLB.out a ha).1; omega) (.int .i64 0)
        have hw4 := HB4.out.size
        have hlow : w.heap.size ≤ wr.heap.size := by omega
        have hw6 : w.heap.size ≤ w6.heap.size := by omega
        refine ⟨p, kp, Ap, cp, some ⟨g, 0, none⟩, N, X.set (N - 1) 0, bx10.cell (o := 0) rfl, bx10.cell (o := 1) rfl, ?_, ?_, ?_, HT4.out _ hb10, hv10.low hlow, hp10, bg10.rds, ⟨by rw [List.length_set, xl, HN.out], fun r v hr hv => ?_, ?_⟩, by omega, fun a ha => by have := (HPLB.out a ha).1; omega, fun a ha => by injection ha with ha; rw [← ha]; dsimp only; omega⟩
        · exact bx10.cell (o := 2) rfl
        · rw [← HN.out]; exact bx10.cell (o := 3) rfl
        · rw [← HTE.out]; exact bx10.cell (o := 4) rfl
        · have hvs := HBND.out r v hr
          have hrl := (List.getElem?_eq_some_iff.1 hr).1
          rw [HRL.out] at hrl
          rw [List.getElem?_set, if_neg (by rw [HN.out]; omega)]
          exact xs r v hrl hr hv
        · rw [List.getElem?_set, if_pos (by rw [HN.out]; omega), if_pos (by rw [xl]; omega)]
end Go.Proofs.Ytjpcfpffbicpnaa
