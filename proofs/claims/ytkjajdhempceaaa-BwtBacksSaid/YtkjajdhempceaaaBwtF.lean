/- The walk of bwt.fresh and bwt.rows.step. -/
import Derived.Test.YtkjajdhempceaaaBwtM
import Derived.Test.YtkjajdhempceaaaLfN
import Derived.Test.YtkjajdhempceaaaSufR
import Derived.Test.YtkjajdhempceaaaQTail
set_option linter.unusedVariables false
set_option linter.unusedSimpArgs false
namespace Go.Proofs.Ytkjajdhempceaaa
open Go.RowKit Lec
/-- A box of rows: the last column, where each row goes to. -/
structure RowsAt (w : World) (p : Nat) (t : Nat) (B : Option Addr) (c : Nat) (s : List Nat) : Prop where
  c0 : w.cell? ⟨p, 0, none⟩ = some (.int .i64 (t : Int))
  c1 : w.cell? ⟨p, 1, none⟩ = some (.slice B s.length c)
  c2 : ∃ g, w.cell? ⟨p, 2, none⟩ = some (.slice (some ⟨g, 0, none⟩) s.length s.length) ∧ Blk w g 3 (natsC ((List.range s.length).map (Sa.lf s)))
  lt : p < w.heap.size
  rb : Rds w B (natsC s)
theorem RowsAt.ext {w w' : World} {p t c : Nat} {B : Option Addr} {s : List Nat} {D : Nat} (h : RowsAt w p t B c s) (hb : Below D w w') (hD : w.heap.size ≤ D) : RowsAt w' p t B c s := by
  obtain ⟨g, h1, h2⟩ := h.c2
  exact ⟨cell_ext hb hD h.c0, cell_ext hb hD h.c1, ⟨g, cell_ext hb hD h1, h2.ext hb hD⟩, Nat.lt_of_lt_of_le h.lt hb.size, h.rb.ext hb hD⟩

structure FrW (w wx : World) (t n : Nat) (B : Option Addr) (c g p q : Nat) (X F : List Nat) : Prop where
  b1 : Blk wx g 3 (natsC X)
  bp : Blk wx p 69 [.int .i64 (t : Int), .slice B n c, .slice (some ⟨g, 0, none⟩) n n]
  b3 : Blk wx q 3 (natsC F)
  hg : w.heap.size ≤ g
  hp : w.heap.size ≤ p
  hq : w.heap.size ≤ q
  gp : g ≠ p
  gq : g ≠ q
  pq : p ≠ q
  bel : Below w.heap.size w wx
theorem FrW.set1 {w wx : World} {t n : Nat} {B : Option Addr} {c g p q : Nat} {X F : List Nat} (h : FrW w wx t n B c g p q X F) (i v : Nat) : FrW w (wx.setCell ⟨g, i, none⟩ (.int .i64 (v : Int))) t n B c g p q (X.set i v) F :=
  ⟨by rw [natsC_set]; exact h.b1.set i _, h.bp.far _ (Ne.symm h.gp), h.b3.far _ (Ne.symm h.gq), h.hg, h.hp, h.hq, h.gp, h.gq, h.pq, h.bel.setCell h.hg _⟩
theorem FrW.set3 {w wx : World} {t n : Nat} {B : Option Addr} {c g p q : Nat} {X F : List Nat} (h : FrW w wx t n B c g p q X F) (i v : Nat) : FrW w (wx.setCell ⟨q, i, none⟩ (.int .i64 (v : Int))) t n B c g p q X (F.set i v) :=
  ⟨h.b1.far _ h.gq, h.bp.far _ h.pq, by rw [natsC_set]; exact h.b3.set i _, h.hg, h.hp, h.hq, h.gp, h.gq, h.pq, h.bel.setCell h.hq _⟩
theorem FrW.drawn {w wx : World} {t n : Nat} {B : Option Addr} {c g p q : Nat} {X F : List Nat} (h : FrW w wx t n B c g p q X F) (k : Nat) : FrW w (wx.drewN k) t n B c g p q X F :=
  ⟨h.b1, h.bp, h.b3, h.hg, h.hp, h.hq, h.gp, h.gq, h.pq, h.bel.trans ((drawn_below wx k).mono h.bel.size)⟩
def F0 (s : List Nat) (k d : Nat) : Nat := if d = 0 then 0 else Sa.cnt k (fun i => Sa.sy s i == d - 1)
def F1 (s : List Nat) (k d : Nat) : Nat := if d ≤ k then Sa.lo s d else Sa.cnt s.length (fun i => Sa.sy s i == d - 1)
def F2 (s : List Nat) (k d : Nat) : Nat := Sa.lo s d + Sa.cnt k (fun i => Sa.sy s i == d)
theorem F0_next (s : List Nat) (k d : Nat) : F0 s (k + 1) d = if Sa.sy s k + 1 = d then F0 s k d + 1 else F0 s k d := by
  unfold F0
  by_cases e : d = 0
  · rw [if_pos e, if_pos e, if_neg (by omega)]
  · rw [if_neg e, if_neg e, Sa.cnt_succ]
    by_cases e2 : Sa.sy s k + 1 = d
    · rw [if_pos e2, beq_iff_eq.2 (show Sa.sy s k = d - 1 by omega)]; rfl
    · rw [if_neg e2, beq_eq_false_iff_ne.2 (show Sa.sy s k ≠ d - 1 by omega)]; rfl
theorem F01 (s : List Nat) (d : Nat) : F0 s s.length d = F1 s 0 d := by
  unfold F0 F1
  by_cases e : d = 0
  · rw [if_pos e, if_pos (by omega), e, Sa.lo_zero]
  · rw [if_neg e, if_neg (by omega)]
theorem F1_next (s : List Nat) (k d : Nat) : F1 s (k + 1) d = if k + 1 = d then F1 s k d + F1 s k k else F1 s k d := by
  unfold F1
  by_cases e : k + 1 = d
  · rw [if_pos (by omega), if_pos e, if_neg (by omega), if_pos (Nat.le_refl _), ← e, Sa.lo_next, Nat.add_comm]; rfl
  · rw [if_neg e]
    by_cases e2 : d ≤ k
    · rw [if_pos (by omega), if_pos e2]
    · rw [if_neg (by omega), if_neg e2]
theorem F12 (s : List Nat) (d : Nat) (h : d ≤ 512) : F1 s 512 d = F2 s 0 d := by
  unfold F1 F2
  rw [if_pos h]; rfl
theorem F2_next (s : List Nat) (k d : Nat) : F2 s (k + 1) d = if Sa.sy s k = d then F2 s k d + 1 else F2 s k d := by
  unfold F2
  rw [Sa.cnt_succ]
  by_cases e : Sa.sy s k = d
  · rw [if_pos e, beq_iff_eq.2 e]; rfl
  · rw [if_neg e, beq_eq_false_iff_ne.2 e]; rfl
theorem F2_lf (s : List Nat) (k : Nat) : F2 s k (Sa.sy s k) + 1 = Sa.lf s k := rfl
theorem F0_le (s : List Nat) (k d : Nat) : F0 s k d ≤ k := by unfold F0; split; omega; exact Sa.cnt_le _ _
theorem F1_le (s : List Nat) (k d : Nat) : F1 s k d ≤ s.length := by unfold F1; split; exact Sa.lo_le _ _; exact Sa.cnt_le _ _
theorem F2_le (s : List Nat) (k d : Nat) : F2 s k d ≤ s.length + k := by unfold F2; have := Sa.lo_le s d; have := Sa.cnt_le k (fun i => Sa.sy s i == d); omega
theorem sy_get {s : List Nat} {i : Nat} (h : i < s.length) : s[i]? = some (Sa.sy s i) := by rw [List.getElem?_eq_getElem h]; simp [Sa.sy, List.getD_eq_getElem?_getD, h]

def FreshRowsPost (w : World) (t : Nat) (B : Option Addr) (c : Nat) (s : List Nat) (e : Ending) (w' : World) : Prop :=
  ∃ p, e = .returned (.pointer (some ⟨p, 0, none⟩)) ∧ w.heap.size ≤ p ∧ RowsAt w' p t B c s ∧ Below w.heap.size w w'

set_option maxRecDepth 100000 in
set_option maxHeartbeats 4000000 in
theorem freshRows_any (w : World) (t : Nat) (B : Option Addr) (c : Nat) (s : List Nat) (hm : s.length ≤ 131072) (hr : Rds w B (natsC s)) (hs : ∀ x, x ∈ s → x < 512) :
    Calls Try.prog 35 #[.int .i64 (t : Int), .slice B s.length c] w (FreshRowsPost w t B c s) := by
  have HR := Lib.hid hr
  have HS := Lib.hid hs
  have hmk := mk_ints s.length (by omega)
  obtain ⟨N, HN, hmk5⟩ : ∃ N, Hid (N = 513) ∧ ∀ w, (Instr.makeSlice 24 (.int .i64 513) (.int .i64 513)).run Try.prog w = .ok (.slice (some ⟨w.heap.size, 0, none⟩) N N) (w.alloc (.cells (List.replicate N (Value.int .i64 0)).toArray 3)) := ⟨513, Lib.hid rfl, mk_ints 513 (by omega)⟩
  clear hr hs
  go_enter Try.func35, Try.ntmps35
  go_wp2
  obtain ⟨w4, hw4⟩ : ∃ w4, w4 = ((w.alloc (.cells (Array.replicate s.length (.int .i64 0)) 3)).alloc (.cells #[.int .i64 (t : Int), .slice B s.length c, .slice (some ⟨w.heap.size, 0, none⟩) s.length s.length] 69)).alloc (.cells (Array.replicate N (.int .i64 0)) 3) := ⟨_, rfl⟩
  rw [← hw4]
  have hT : FrW w w4 t s.length B c w.heap.size (w.heap.size + 1) (w.heap.size + 1 + 1) (List.replicate s.length 0) (List.replicate N 0) := by
    rw [hw4]
    refine ⟨?_, ?_, ?_, by omega, by omega, by omega, by omega, by omega, by omega, ?_⟩
    · exact Blk.allocA (Blk.allocA (Blk.newL _ _ _ _ _ rfl (by simp [natsC])) _) _
    · exact Blk.allocA (Blk.newL _ _ _ _ _ (by simp [World.size_alloc]) rfl) _
    · exact Blk.newL _ _ _ _ _ (by simp [World.size_alloc]) (by simp [natsC])
    · exact Below.allocA (Below.allocA (Below.allocA (Below.refl _ _) (Nat.le_refl _) _) (Nat.le_refl _) _) (Nat.le_refl _) _
  have hF : Hid (∀ d, d < 513 → (List.replicate N 0)[d]? = some (F0 s 0 d)) := Lib.hid (fun d hd => by
    rw [List.getElem?_replicate, if_pos (by rw [HN.out]; exact hd)]; unfold F0; split <;> rfl)
  have hpz : w.heap.size ≤ w.heap.size + 1 := by omega
  generalize w.heap.size + 1 + 1 = q at *
  generalize hp : w.heap.size + 1 = p at *
  generalize hg : w.heap.size = g at hT ⊢
  clear hw4 hmk hmk5 hp hpz
  go_loopw [22] (fun i wx => ∃ (k : Nat) (F : List Nat), i = .int .i64 (k : Int) ∧ k ≤ s.length ∧ Hid (F.length = 513) ∧ Hid (∀ d, d < 513 → F[d]? = some (F0 s k d)) ∧ FrW w wx t s.length B c g p q (List.replicate s.length 0) F) (fun i _ => s.length - (intOf i).toNat)
  case atStart => exact ⟨0, _, rfl, by omega, Lib.hid (by rw [List.length_replicate]; exact HN.out), hF, hT⟩
  case round =>
    clear hT hF
    obtain ⟨k, F, rfl, hk, HFL, HF, hT⟩ := hrel
    by_cases h8 : k < s.length
    · have h8i : (k : Int) < (s.length : Int) := by omega
      have hx := HS.out _ (List.mem_iff_getElem?.2 ⟨k, sy_get h8⟩)
      obtain ⟨ab, rfl, cb⟩ := (HR.out.ext hT.bel (Nat.le_refl _)) k _ (natsC_at (sy_get h8))
      have HFN := Lib.hid (F0_next s k)
      generalize Sa.sy s k = x at *
      have hfx := HF.out (x + 1) (by omega)
      have hle := F0_le s k (x + 1)
      have hN := HN.out
      have v0 : (0 : Int) ≤ (x : Int) + 1 := by omega
      have v1 : (x : Int) + 1 < (N : Int) := by omega
      have v2 : ((x : Int) + 1).toNat = x + 1 := by omega
      generalize hyq : F0 s k (x + 1) = y at *
      have HY := Lib.hid hyq
      have cr := hT.b3.cell (natsC_at hfx)
      have fr := hT.b3.froz (x + 1)
      have hT2 := hT.set3 (x + 1) (y + 1)
      rw [show ((y + 1 : Nat) : Int) = (y : Int) + 1 by omega] at hT2
      have HT2 := Lib.hid hT2
      clear hT2 hfx hN hyq
      go_wp2
      go_roundw
      case rel =>
        refine ⟨k + 1, _, by go_num, by omega, Lib.hid (by rw [List.length_set]; exact HFL.out), Lib.hid (fun d hd => ?_), HT2.out⟩
        rw [List.getElem?_set, HFN.out]
        by_cases e : x + 1 = d
        · rw [if_pos e, if_pos e, if_pos (by rw [HFL.out]; omega), ← e, HY.out]
        · rw [if_neg e, if_neg e]; exact HF.out d hd
      case measure => first | (simp [intOf]; done) | (simp [intOf]; omega)
    · obtain rfl : k = s.length := by omega
      have h8i : ¬ (s.length : Int) < (s.length : Int) := by omega
      have HF1 : Hid (∀ d, d < 513 → F[d]? = some (F1 s 0 d)) := Lib.hid (fun d hd => by rw [← F01]; exact HF.out d hd)
      have HTT := Lib.hid hT
      clear HF hT
      go_wp2
      obtain ⟨w5, rfl⟩ : ∃ x, x = wr := ⟨wr, rfl⟩
      go_loopw [34] (fun i wx => ∃ (k : Nat) (F : List Nat), i = .int .i64 (k : Int) ∧ k ≤ 512 ∧ Hid (F.length = 513) ∧ Hid (∀ d, d < 513 → F[d]? = some (F1 s k d)) ∧ FrW w wx t s.length B c g p q (List.replicate s.length 0) F) (fun i _ => 512 - (intOf i).toNat)
      case atStart => exact ⟨0, _, rfl, by omega, HFL, HF1, HTT.out⟩
      case round =>
        clear HTT HF1 HFL
        obtain ⟨k, F, rfl, hk, HFL, HF, hT⟩ := hrel
        by_cases h9 : k < 512
        · have h9i : (k : Int) < 512 := by omega
          have HFN := Lib.hid (F1_next s k)
          have hfx := HF.out (k + 1) (by omega)
          have hfy := HF.out k (by omega)
          have hle := F1_le s k (k + 1)
          have hle2 := F1_le s k k
          have hN := HN.out
          have k0 : (0 : Int) ≤ (k : Int) := by omega
          have k1 : (k : Int) < (N : Int) := by omega
          have v0 : (0 : Int) ≤ (k : Int) + 1 := by omega
          have v1 : (k : Int) + 1 < (N : Int) := by omega
          have v2 : ((k : Int) + 1).toNat = k + 1 := by omega
          have v3 : IntKind.i64.wrap ((k : Int) + 1) = (k : Int) + 1 := wrapI (by omega)
          generalize hyq : F1 s k (k + 1) = y at *
          generalize hzq : F1 s k k = z at *
          have v4 : IntKind.i64.wrap ((y : Int) + (z : Int)) = (y : Int) + (z : Int) := wrapI (by omega)
          have HY := Lib.hid hyq
          have HZ := Lib.hid hzq
          have cr := hT.b3.cell (natsC_at hfx)
          have cz := hT.b3.cell (natsC_at hfy)
          have fr := hT.b3.froz (k + 1)
          have hT2 := ((hT.drawn 1).set3 (k + 1) (y + z))
          rw [show ((y + z : Nat) : Int) = (y : Int) + (z : Int) by omega] at hT2
          have HT2 := Lib.hid hT2
          have HTK := Lib.hid hT
          clear hT2 hfx hfy hN hyq hzq
          go_wp2
          refine wp_region_qtail 11 (by kernel_rfl) (by kernel_rfl) ?_
          simp only [List.take_succ_cons, List.take_zero, List.drop_succ_cons, List.drop_zero]
          repeat (go_big_quiet_step (fail))
          refine wpQuiet_nil ?_
          go_wp2
          go_roundw
          case rel =>
            refine ⟨k + 1, _, by go_num, by omega, Lib.hid (by rw [List.length_set]; exact HFL.out), Lib.hid (fun d hd => ?_), HT2.out⟩
            rw [List.getElem?_set, HFN.out]
            by_cases e : k + 1 = d
            · rw [if_pos e, if_pos e, if_pos (by rw [HFL.out]; omega), ← e, HY.out]
            · rw [if_neg e, if_neg e]; exact HF.out d hd
          case measure => first | (simp [intOf]; done) | (simp [intOf]; omega)
        · obtain rfl : k = 512 := by omega
          have HF2 : Hid (∀ d, d < 513 → F[d]? = some (F2 s 0 d)) := Lib.hid (fun d hd => by rw [← F12 s d (by omega)]; exact HF.out d hd)
          have HTT := Lib.hid hT
          clear HF hT
          go_wp2
          clear w5
          obtain ⟨w6, rfl⟩ : ∃ x, x = wr := ⟨wr, rfl⟩
          have HX0 : Hid (∀ j, j < 0 → (List.replicate s.length 0)[j]? = some (Sa.lf s j)) := Lib.hid (fun j hj => by omega)
          go_loopw [51] (fun i wx => ∃ (k : Nat) (X F : List Nat), i = .int .i64 (k : Int) ∧ k ≤ s.length ∧ Hid (F.length = 513) ∧ Hid (X.length = s.length) ∧ Hid (∀ d, d < 513 → F[d]? = some (F2 s k d)) ∧ Hid (∀ j, j < k → X[j]? = some (Sa.lf s j)) ∧ FrW w wx t s.length B c g p q X F) (fun i _ => s.length - (intOf i).toNat)
          case atStart => exact ⟨0, _, _, rfl, by omega, HFL, Lib.hid (by simp), HF2, HX0, HTT.out⟩
          case round =>
            clear HTT HF2 HFL HX0
            obtain ⟨k, X, F, rfl, hk, HFL, HXL, HF, HXV, hT⟩ := hrel
            by_cases h10 : k < s.length
            · have h10i : (k : Int) < (s.length : Int) := by omega
              have k0 : (0 : Int) ≤ (k : Int) := by omega
              have hx := HS.out _ (List.mem_iff_getElem?.2 ⟨k, sy_get h10⟩)
              obtain ⟨ab, rfl, cb⟩ := (HR.out.ext hT.bel (Nat.le_refl _)) k _ (natsC_at (sy_get h10))
              have HFN := Lib.hid (F2_next s k)
              have HLF := Lib.hid (F2_lf s k)
              generalize Sa.sy s k = x at *
              have hfx := HF.out x (by omega)
              have hle := F2_le s k x
              have hN := HN.out
              have v0 : (0 : Int) ≤ (x : Int) := by omega
              have v1 : (x : Int) < (N : Int) := by omega
              generalize hyq : F2 s k x = y at *
              have HY := Lib.hid hyq
              have v4 : IntKind.i64.wrap ((y : Int) + 1) = (y : Int) + 1 := wrapI (by omega)
              have cr := hT.b3.cell (natsC_at hfx)
              have fr := hT.b3.froz x
              have hT2 := hT.set3 x (y + 1)
              have cr2 := hT2.b3.cell (o := x) (v := .int .i64 ((y + 1 : Nat) : Int)) (natsC_at (by rw [List.getElem?_set, if_pos rfl, if_pos (by rw [HFL.out]; omega)]))
              have cp2 := hT2.bp.cell (o := 2) rfl
              have fg2 := hT2.b1.froz k
              obtain ⟨u, hu⟩ : ∃ u, X[k]? = some u := ⟨_, List.getElem?_eq_getElem (by rw [HXL.out]; exact h10)⟩
              have cg2 := hT2.b1.cell (natsC_at hu)
              have hT3 := ((hT2.drawn 1).set1 k (y + 1))
              rw [show ((y + 1 : Nat) : Int) = (y : Int) + 1 by omega] at hT3 hT2 cr2 cp2 fg2 cg2
              have HT3 := Lib.hid hT3
              clear hT2 hT3 hfx hN hyq hu
              go_wp2
              refine wp_region_qtail 10 (by kernel_rfl) (by kernel_rfl) ?_
              simp only [List.take_succ_cons, List.take_zero, List.drop_succ_cons, List.drop_zero]
              repeat (go_big_quiet_step (fail))
              refine wpQuiet_nil ?_
              go_wp2
              go_roundw
              case rel =>
                refine ⟨k + 1, _, _, by go_num, by omega, Lib.hid (by rw [List.length_set]; exact HFL.out), Lib.hid (by rw [List.length_set]; exact HXL.out), Lib.hid (fun d hd => ?_), Lib.hid (fun j hj => ?_), HT3.out⟩
                · rw [List.getElem?_set, HFN.out]
                  by_cases e : x = d
                  · rw [if_pos e, if_pos e, if_pos (by rw [HFL.out]; omega), ← e, HY.out]
                  · rw [if_neg e, if_neg e]; exact HF.out d hd
                · rw [List.getElem?_set]
                  by_cases e : k = j
                  · subst e
                    rw [if_pos rfl, if_pos (by rw [HXL.out]; exact h10), HLF.out]
                  · rw [if_neg e]; exact HXV.out j (by omega)
              case measure => first | (simp [intOf]; done) | (simp [intOf]; omega)
            · obtain rfl : k = s.length := by omega
              have h10i : ¬ (s.length : Int) < (s.length : Int) := by omega
              have hXe : X = (List.range s.length).map (Sa.lf s) := List.ext_getElem? (fun j => by
                by_cases hj : j < s.length
                · rw [HXV.out j hj, List.getElem?_map, List.getElem?_range hj]; rfl
                · rw [List.getElem?_eq_none (by rw [HXL.out]; omega), List.getElem?_eq_none (by simp; omega)])
              subst hXe
              have HTT := Lib.hid hT
              clear hT
              go_wp2
              go_ret
              exact ⟨p, rfl, HTT.out.hp, ⟨HTT.out.bp.cell rfl, HTT.out.bp.cell rfl, ⟨g, HTT.out.bp.cell rfl, HTT.out.b1⟩, HTT.out.bp.lt, HR.out.ext HTT.out.bel (Nat.le_refl _)⟩, HTT.out.bel⟩

theorem step_any (w : World) (p t c k : Nat) (B : Option Addr) (s : List Nat) (h : RowsAt w p t B c s) (hm : s.length ≤ 131072) (ht : t ≤ s.length) (hk : k ≤ s.length) (hkt : k ≠ t) :
    Calls Try.prog 36 #[.pointer (some ⟨p, 0, none⟩), .int .i64 (k : Int)] w fun e w' => e = .returned (.tuple #[.int .i64 (Sa.sy s (Sa.dn t k) : Int), .int .i64 (Sa.lf s (Sa.dn t k) : Int)]) ∧ ∃ q, w.drewN q = w' := by
  have c0 := h.c0
  have c1 := h.c1
  obtain ⟨g, c2, hg⟩ := h.c2
  have HG := Lib.hid hg
  have hb := Lib.hid h.rb
  clear h hg
  unfold Sa.dn
  by_cases e : t < k
  · rw [if_pos e]
    have ei : (t : Int) < (k : Int) := by omega
    have hj : k - 1 < s.length := by omega
    have j0 : (0 : Int) ≤ (k : Int) - 1 := by omega
    have j1 : (k : Int) - 1 < (s.length : Int) := by omega
    have j2 : ((k : Int) - 1).toNat = k - 1 := by omega
    have j3 : IntKind.i64.wrap ((k : Int) - 1) = (k : Int) - 1 := wrapI (by omega)
    obtain ⟨ab, rfl, cb⟩ := hb.out (k - 1) _ (natsC_at (sy_get hj))
    have cl := HG.out.cell (o := (k - 1)) (v := .int .i64 ((Sa.lf s (k - 1) : Nat) : Int)) (natsC_at (by rw [List.getElem?_map, List.getElem?_range hj]; rfl))
    generalize Sa.sy s (k - 1) = x1 at *
    generalize Sa.lf s (k - 1) = x2 at *
    go_enter Try.func36, Try.ntmps36
    go_wp2
    go_quiet (fail)
    go_wp2
    go_ret2
    exact ⟨rfl, _, rfl⟩
  · rw [if_neg e]
    have ei : ¬ (t : Int) < (k : Int) := by omega
    have hj : k < s.length := by omega
    have j0 : (0 : Int) ≤ (k : Int) := by omega
    have j1 : (k : Int) < (s.length : Int) := by omega
    obtain ⟨ab, rfl, cb⟩ := hb.out k _ (natsC_at (sy_get hj))
    have cl := HG.out.cell (o := k) (v := .int .i64 ((Sa.lf s k : Nat) : Int)) (natsC_at (by rw [List.getElem?_map, List.getElem?_range hj]; rfl))
    generalize Sa.sy s k = x1 at *
    generalize Sa.lf s k = x2 at *
    go_enter Try.func36, Try.ntmps36
    go_wp2
    go_quiet (fail)
    go_wp2
    go_ret2
    exact ⟨rfl, _, rfl⟩
end Go.Proofs.Ytkjajdhempceaaa
