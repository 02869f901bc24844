/- The walk of bits.New. -/
import Derived.Test.YtfiioobdknbacaaVecP
set_option linter.unusedVariables false
set_option linter.unusedSimpArgs false
namespace Lec
open Go Go.RowKit
abbrev boolsV (bs : List Bool) : List Value := bs.map Value.bool
/-- Two rows of different elements lie apart. -/
theorem own_apart {w : World} {B B' : Nat} {e e' : TypeId} {size size' : Nat} {v v' : Value} {n n' : Nat} {xs xs' : List Value} (h : w.ownsRow B e size v n xs) (h' : w.ownsRow B' e' size' v' n' xs') (hne : e ≠ e') : ∀ k, v.ownBlock = some k → v'.ownBlock ≠ some k := by
  intro k hk
  rcases h.2 with ⟨rfl, _⟩ | ⟨g, cap, cur, rfl, _, hg, _⟩
  · simp [Value.ownBlock] at hk
  · have : g = k := by simpa [Value.ownBlock] using hk
    subst this
    exact own_ne h' hg hne
end Lec
namespace Go.Proofs.Ytfiioobdknbacaa
open Go.RowKit Lec
theorem info_intV : (Try.prog.info? 3).map (fun i => (i.zero, i.size, i.bytes)) = some (some (.int .i64 0), 1, 8) := by kernel_rfl
theorem word_ones (bs : List Bool) (j : Nat) (w : World) : Calls Try.prog 98 #[.int .u64 ((ofB (chunk bs j) : Nat) : Int)] w fun e w' => e = .returned (.int .i64 (((chunk bs j).count true : Nat) : Int)) ∧ w = w' := by
  have h := ones_any w (chunk bs j ++ List.replicate (64 - (chunk bs j).length) false) (pad_64 _ (chunk_len bs j)) (ofB (chunk bs j)) (ofB_pad _ _)
  rwa [count_pad] at h
/-- A vector all of whose blocks lie from lo on, with their types. -/
structure VecT (w : World) (p : Nat) (bs : List Bool) (lo : Nat) : Prop where
  out : ∃ A c B d, w.heap[p]? = some (.cells #[.slice A (nW bs.length) c, .int .i64 (bs.length : Int), .slice B (nW bs.length + 1) d] 144 (0, 0)) ∧
    w.ownsRow lo 146 1 (.slice A (nW bs.length) c) (nW bs.length) (longsV (wordsL bs)) ∧ w.ownsRow lo 3 1 (.slice B (nW bs.length + 1) d) (nW bs.length + 1) (natsV (onesL bs (nW bs.length + 1))) ∧ lo ≤ p
theorem VecT.vecN {w : World} {p lo : Nat} {bs : List Bool} (h : VecT w p bs lo) : VecN w p bs lo := by
  obtain ⟨A, c, B, d, hb, h1, h2, hl⟩ := h.out
  obtain ⟨A5, c5, he5, _, _, _, r5, s5⟩ := own_rds h1
  obtain ⟨rfl, _, rfl⟩ := Value.slice.inj he5
  obtain ⟨A6, c6, he6, _, _, _, r6, s6⟩ := own_rds h2
  obtain ⟨rfl, _, rfl⟩ := Value.slice.inj he6
  exact ⟨A, c, B, d, blk_cell hb rfl, blk_cell hb rfl, blk_cell hb rfl, r5, r6, hl, fun a ha => by obtain ⟨g, rfl, h, _⟩ := s5 a ha; exact h, fun a ha => by obtain ⟨g, rfl, h, _⟩ := s6 a ha; exact h⟩
theorem VecT.ext {w w' : World} {p lo : Nat} {bs : List Bool} {D : Nat} (h : VecT w p bs lo) (hb : Below D w w') (hD : w.heap.size ≤ D) : VecT w' p bs lo := by
  obtain ⟨A, c, B, d, hk, h1, h2, hl⟩ := h.out
  exact ⟨A, c, B, d, blk_ext hk hb hD, own_ext h1 hb hD, own_ext h2 hb hD, hl⟩
theorem VecT.grown {w w' : World} {p lo : Nat} {bs : List Bool} {row : Option Nat} (h : VecT w p bs lo) (hg : w.grownBy w' row) (hr : ∀ k, row = some k → k < lo) : VecT w' p bs lo := by
  obtain ⟨A, c, B, d, hk, h1, h2, hl⟩ := h.out
  refine ⟨A, c, B, d, blk_grown hk hg (fun e => by have := hr _ e; omega), own_grown h1 hg (fun k e f => ?_), own_grown h2 hg (fun k e f => ?_), hl⟩
  · have := (h1.lt _ e).1; have := hr _ f; omega
  · have := (h2.lt _ e).1; have := hr _ f; omega
/-- A row of another type grows. -/
theorem VecT.apart {w w' : World} {p lo base e n sz : Nat} {v : Value} {xs : List Value} {bs : List Bool} (h : VecT w p bs lo) (hg : w.grownBy w' v.ownBlock) (ho : w.ownsRow base e sz v n xs) (he : e ≠ 144 ∧ e ≠ 146 ∧ e ≠ 3) : VecT w' p bs lo := by
  obtain ⟨A, c, B, d, hk, h1, h2, hl⟩ := h.out
  exact ⟨A, c, B, d, blk_grown hk hg (own_ne ho hk (Ne.symm he.1)), own_grown h1 hg (own_apart h1 ho (Ne.symm he.2.1)), own_grown h2 hg (own_apart h2 ho (Ne.symm he.2.2)), hl⟩
/-- A cell of a block of another type is written. -/
theorem VecT.far {w : World} {p lo g o : Nat} {bs : List Bool} {cs : Array Value} {T : TypeId} {fr : Nat × Nat} (h : VecT w p bs lo) (hb : w.heap[g]? = some (.cells cs T fr)) (he : T ≠ 144 ∧ T ≠ 146 ∧ T ≠ 3) (u : Value) : VecT (w.setCell ⟨g, o, none⟩ u) p bs lo := by
  obtain ⟨A, c, B, d, hk, h1, h2, hl⟩ := h.out
  refine ⟨A, c, B, d, blk_far hk u (fun e => ?_), ownsRow_setCell_other h1 (own_ne h1 hb he.2.1) _, ownsRow_setCell_other h2 (own_ne h2 hb he.2.2) _, hl⟩
  subst e
  rw [hb] at hk
  injection hk with hk; injection hk with _ h2 _
  exact he.1 h2
def VNewPost (w : World) (bs : List Bool) (e : Ending) (w' : World) : Prop :=
  ∃ p, e = .returned (.tuple #[.pointer (some ⟨p, 0, none⟩), .int .i64 0]) ∧ w.heap.size ≤ p ∧ p < w'.heap.size ∧ VecN w' p bs w.heap.size ∧ Below w.heap.size w w'
def NewPostT (w : World) (bs : List Bool) (e : Ending) (w' : World) : Prop :=
  ∃ p, e = .returned (.tuple #[.pointer (some ⟨p, 0, none⟩), .int .i64 0]) ∧ w.heap.size ≤ p ∧ p < w'.heap.size ∧ VecT w' p bs w.heap.size ∧ Below w.heap.size w w'
set_option maxRecDepth 100000 in
set_option maxHeartbeats 2000000 in
theorem New_typed (w : World) (A : Option Addr) (n c : Nat) (bs : List Bool) (hn : bs.length = n) (hm : n ≤ 1048576) (hr : Rds w A (boolsV bs)) :
    Calls Try.prog 68 #[.slice A n c] w (NewPostT w bs) := by
  have HR := Lib.hid hr
  have HN := Lib.hid hn
  clear hr hn
  have hni : ¬ 1048576 < (n : Int) := by omega
  go_enter Try.func68, Try.ntmps68
  go_wp2
  go_loopw [17] (fun i wr => ∃ (k : Nat) (v : Value), k ≤ n ∧ i = .int .i64 k ∧ Hid (VecU wr w.heap.size (w.heap.size + 1) (bs.take k) v (.slice none 0 0)) ∧ Hid (Below w.heap.size w wr)) (fun i _ => n - (intOf i).toNat)
  case atStart =>
    refine ⟨0, .slice none 0 0, by omega, rfl, ⟨?_, ?_⟩, (Below.refl _ _).alloc (Nat.le_refl _) _⟩
    · rw [heap_alloc_new]; simp
    · rw [List.take_zero, show nW ([] : List Bool).length = 0 from by decide, show wordsL [] = [] from by decide]; exact World.ownsRow_nil _ _ _ _
  case round =>
    obtain ⟨k, v, hk, rfl, HU, HX⟩ := hrel
    by_cases h8 : k < n
    · have hk' : k < bs.length := by rw [HN.out]; exact h8
      have hki : (k : Int) < (n : Int) := by omega
      obtain ⟨a, rfl, hc⟩ := (HR.out.ext HX.out (Nat.le_refl _)).map k hk'
      have HT : Hid (bs.take (k + 1) = bs.take k ++ [bs[k]]) := List.take_succ_eq_append_getElem hk'
      generalize bs[k] = b at *
      have hps : w.heap.size + 1 ≤ wr.heap.size := blk_lt HU.out.blk
      have hlen : (bs.take k).length ≤ 1048576 := by rw [List.length_take]; omega
      go_wp2_with fail
      refine (vput_any wr w.heap.size (w.heap.size + 1) (bs.take k) v _ HU.out (by omega) hps hlen b).mono ?_
      rintro e w2 ⟨rfl, v', hu', hb⟩
      have HU2 := Lib.hid hu'
      have HX2 : Hid (Below w.heap.size w w2) := HX.out.trans hb
      clear hu' hb
      go_wp2
      go_roundw
      case rel => exact ⟨k + 1, v', by omega, by go_num, by show VecU _ _ _ _ _ _; rw [HT.out]; exact HU2.out, HX2⟩
      case measure => simp [intOf]; omega
    · obtain rfl : k = n := by omega
      have hki : ¬ (k : Int) < (k : Int) := by omega
      have HT : Hid (bs.take k = bs) := List.take_of_length_le (by rw [HN.out]; exact Nat.le_refl _)
      have hu := HU.out
      rw [HT.out] at hu
      obtain ⟨A1, c1, rfl, p1, p2, p3, p4, p5⟩ := own_rds hu.own
      have HBK := Lib.hid hu.blk
      have HO := Lib.hid hu.own
      have hk0 : wr.cell? ⟨w.heap.size, 0, none⟩ = some (.slice A1 (nW bs.length) c1) := blk_cell hu.blk rfl
      clear hu HU HT p1 p2 p3 p4 p5
      have hnw : nW bs.length ≤ 16384 := by have := HN.out; unfold nW; omega
      go_wp2
      clear hk0
      go_loopw [7, 33] (fun s i wq => ∃ (j : Nat) (o : Value), j ≤ nW bs.length ∧ i = .int .i64 j ∧ s = .int .i64 (rankB bs (64 * j) : Int) ∧ Hid (wq.heap[w.heap.size]? = some (.cells #[.slice A1 (nW bs.length) c1, .int .i64 (bs.length : Int), o] 144 (0, 0))) ∧ Hid (wq.ownsRow (w.heap.size + 1) 146 1 (.slice A1 (nW bs.length) c1) (nW bs.length) (longsV (wordsL bs))) ∧ Hid (wq.ownsRow (w.heap.size + 1) 3 1 o j (natsV (onesL bs j))) ∧ Hid (Below w.heap.size w wq)) (fun _ i _ => nW bs.length - (intOf i).toNat)
      case atStart => exact ⟨0, .slice none 0 0, by omega, rfl, by simp [rankB], HBK, HO, World.ownsRow_nil _ _ _ _, HX⟩
      case round =>
        clear HBK HO HX
        obtain ⟨j, o, hj, rfl, rfl, HBK, HO, HON, HX⟩ := hrel
        obtain ⟨A2, c2, rfl, _, _, _, _, _⟩ := own_rds HON.out
        have hk2 : wr.cell? ⟨w.heap.size, 2, none⟩ = some (.slice A2 j c2) := blk_cell HBK.out rfl
        have hf2 := blk_frozen HBK.out 2
        have hbz : w.heap.size + 1 ≤ wr.heap.size := blk_lt HBK.out
        have HVO : Hid (∀ k, (Value.slice A1 (nW bs.length) c1).ownBlock = some k → (Value.slice A2 j c2).ownBlock ≠ some k) := own_apart HO.out HON.out (by decide)
        by_cases h9 : j < nW bs.length
        · have hji : (j : Int) < ((nW bs.length : Nat) : Int) := by omega
          obtain ⟨A1', c1', he1, _, _, _, q4, _⟩ := own_rds HO.out
          obtain ⟨rfl, _, rfl⟩ := Value.slice.inj he1
          obtain ⟨a1, rfl, hc1⟩ := q4.map j (by rw [wordsL_len]; exact h9)
          rw [wordsL_at] at hc1
          have HW := Lib.hid (word_ones bs j)
          have hrk := rank_chunk bs j
          have hr0 := rank_le bs (64 * j)
          have hr1 := rank_le bs (64 * (j + 1))
          have HOS : Hid (onesL bs (j + 1) = onesL bs j ++ [rankB bs (64 * j)]) := onesL_succ bs j
          generalize rankB bs (64 * j) = r0 at *
          generalize ofB (chunk bs j) = x at *
          generalize (chunk bs j).count true = m at *
          have HRK := Lib.hid hrk
          have hrb : (r0 : Int) + (m : Int) ≤ 2000000 := by omega
          clear hrk q4 he1 hr1
          generalize hNW : nW bs.length = N at *
          go_upto_region 14 with (at_builtin; go_loud (refine wp_app1 (w0 := wr) rfl rfl _ _ 45 rfl (w.heap.size + 1) 3 (.int .i64 0) 1 8 Try.underlying45 info_intV rfl (by decide) (by decide) _ j _ rfl HON.out rfl rfl (one_cell1 rfl) (by omega) hbz ?_; intro v' w1 hown' hg' hb'; obtain ⟨A3, c3, rfl, _, _, _, _, _⟩ := own_rds hown'; have HB1 := Lib.hid hb'; have HG1 := Lib.hid hg'; have HO1 := Lib.hid hown'; have HBK1 := Lib.hid ((hb'.block w.heap.size (by omega)).trans HBK.out); have hk2 := blk_cell HBK1.out (o := 2) rfl; have hf2 := blk_frozen HBK1.out 2; clear hown' hg' hb'))
          obtain ⟨wX, hwX⟩ : ∃ wX, wX = w1.setCell ⟨w.heap.size, 2, none⟩ (.slice A3 (j + 1) c3) := ⟨_, rfl⟩
          rw [← hwX]
          have hal : Below wr.heap.size wr (wr.alloc (.cells #[.int .i64 (r0 : Int)] 3)) := (Below.refl _ _).alloc (Nat.le_refl _) _
          have HO2 : Hid (wX.ownsRow (w.heap.size + 1) 146 1 (.slice (some a1) N c1) N (longsV (wordsL bs))) := by
            rw [hwX]
            have h1 := own_grown (own_ext HO.out hal (Nat.le_refl _)) HG1.out HVO.out
            exact ownsRow_setCell_other h1 (own_ne h1 HBK1.out (by decide)) _
          have HON2 : Hid (wX.ownsRow (w.heap.size + 1) 3 1 (.slice A3 (j + 1) c3) (j + 1) (natsV (onesL bs (j + 1)))) := by
            rw [hwX, HOS.out]
            have h1 := HO1.out
            have h2 : natsV (onesL bs j ++ [r0]) = natsV (onesL bs j) ++ [.int .i64 (r0 : Int)] := by unfold natsV; rw [List.map_append]; rfl
            rw [h2]
            exact ownsRow_setCell_other h1 (own_ne h1 HBK1.out (by decide)) _
          have HBK2 : Hid (wX.heap[w.heap.size]? = some (.cells #[.slice (some a1) N c1, .int .i64 (bs.length : Int), .slice A3 (j + 1) c3] 144 (0, 0))) := by
            rw [hwX]; show _ = _; rw [blk_set HBK1.out]; simp
          have HX2 : Hid (Below w.heap.size w wX) := by
            rw [hwX]; exact (HX.out.trans (HB1.out.mono (by omega))).setCell (Nat.le_refl _) _
          clear hwX hal HO HON HBK HX HVO HBK1 HO1 HG1 HB1 HOS hbz hc1
          go_wp2_with (go_at_call 98; refine (HW.out _).mono ?_; rintro e wq ⟨rfl, rfl⟩)
          go_roundw
          case rel => exact ⟨j + 1, .slice A3 (j + 1) c3, by omega, by go_num, by rw [HRK.out]; go_num, HBK2, HO2, HON2, HX2⟩
          case measure => simp [intOf]; omega
        · obtain rfl : j = nW bs.length := by omega
          have hji : ¬ ((nW bs.length : Nat) : Int) < ((nW bs.length : Nat) : Int) := by omega
          have HOS : Hid (onesL bs (nW bs.length + 1) = onesL bs (nW bs.length) ++ [rankB bs (64 * nW bs.length)]) := onesL_succ bs _
          generalize rankB bs (64 * nW bs.length) = r0 at *
          generalize hNW : nW bs.length = N at *
          have HNW := Lib.hid hNW
          go_upto_region 17 with (at_builtin; go_loud (refine wp_app1 (w0 := wr) rfl rfl _ _ 45 rfl (w.heap.size + 1) 3 (.int .i64 0) 1 8 Try.underlying45 info_intV rfl (by decide) (by decide) _ N _ rfl HON.out rfl rfl (one_cell1 rfl) (by omega) hbz ?_; intro v' w1 hown' hg' hb'; obtain ⟨A3, c3, rfl, _, _, _, _, _⟩ := own_rds hown'; have HB1 := Lib.hid hb'; have HG1 := Lib.hid hg'; have HO1 := Lib.hid hown'; have HBK1 := Lib.hid ((hb'.block w.heap.size (by omega)).trans HBK.out); have hk2 := blk_cell HBK1.out (o := 2) rfl; have hf2 := blk_frozen HBK1.out 2; clear hown' hg' hb'))
          obtain ⟨wX, hwX⟩ : ∃ wX, wX = w1.setCell ⟨w.heap.size, 2, none⟩ (.slice A3 (N + 1) c3) := ⟨_, rfl⟩
          rw [← hwX]
          have hal : Below wr.heap.size wr (wr.alloc (.cells #[.int .i64 (r0 : Int)] 3)) := (Below.refl _ _).alloc (Nat.le_refl _) _
          have HO2 : Hid (wX.ownsRow (w.heap.size + 1) 146 1 (.slice A1 N c1) N (longsV (wordsL bs))) := by
            rw [hwX]
            have h1 := own_grown (own_ext HO.out hal (Nat.le_refl _)) HG1.out HVO.out
            exact ownsRow_setCell_other h1 (own_ne h1 HBK1.out (by decide)) _
          have HON2 : Hid (wX.ownsRow (w.heap.size + 1) 3 1 (.slice A3 (N + 1) c3) (N + 1) (natsV (onesL bs (N + 1)))) := by
            rw [hwX, HOS.out]
            have h1 := HO1.out
            have h2 : natsV (onesL bs N ++ [r0]) = natsV (onesL bs N) ++ [.int .i64 (r0 : Int)] := by unfold natsV; rw [List.map_append]; rfl
            rw [h2]
            exact ownsRow_setCell_other h1 (own_ne h1 HBK1.out (by decide)) _
          have HBK2 : Hid (wX.heap[w.heap.size]? = some (.cells #[.slice A1 N c1, .int .i64 (bs.length : Int), .slice A3 (N + 1) c3] 144 (0, 0))) := by
            rw [hwX]; show _ = _; rw [blk_set HBK1.out]; simp
          have HX2 : Hid (Below w.heap.size w wX) := by
            rw [hwX]; exact (HX.out.trans (HB1.out.mono (by omega))).setCell (Nat.le_refl _) _
          clear hwX hal HO HON HBK HX HVO HBK1 HO1 HG1 HB1 HOS hbz hNW
          go_wp2
          go_ret2
          refine ⟨w.heap.size, rfl, Nat.le_refl _, blk_lt HBK2.out, ?_, HX2.out⟩
          refine ⟨A1, c1, A3, c3, ?_, ?_, ?_, Nat.le_refl _⟩
          · rw [HNW.out]; exact HBK2.out
          · rw [HNW.out]; exact own_lower HO2.out (by omega)
          · rw [HNW.out]; exact own_lower HON2.out (by omega)
theorem vNew_any (w : World) (A : Option Addr) (n c : Nat) (bs : List Bool) (hn : bs.length = n) (hm : n ≤ 1048576) (hr : Rds w A (boolsV bs)) :
    Calls Try.prog 68 #[.slice A n c] w (VNewPost w bs) := (New_typed w A n c bs hn hm hr).mono fun e w' h => by
  obtain ⟨p, h1, h2, h3, h4, h5⟩ := h
  exact ⟨p, h1, h2, h3, h4.vecN, h5⟩
end Go.Proofs.Ytfiioobdknbacaa
