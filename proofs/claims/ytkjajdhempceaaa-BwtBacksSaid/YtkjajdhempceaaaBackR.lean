/- The walk of lecternref3.Back. -/
import Derived.Test.YtkjajdhempceaaaBwtB
import Derived.Test.YtkjajdhempceaaaHelpEN
set_option linter.unusedVariables false
set_option linter.unusedSimpArgs false
namespace Go.Proofs.Ytkjajdhempceaaa
open Go.RowKit Lec
theorem info_arr : (Try.prog.info? 60).map (fun i => i.zero) = some (some (.agg (Array.replicate 513 (.int .i64 0)))) := by kernel_rfl
theorem zero_arr (w : World) : (zeroValue 60).run Try.prog w = .ok (.agg (Array.replicate 513 (.int .i64 0))) w := by
  have h := info_arr
  cases hi : Try.prog.info? 60 with
  | none => rw [hi] at h; cases h
  | some i =>
    rw [hi] at h
    have hz : i.zero = some (.agg (Array.replicate 513 (.int .i64 0))) := by simpa using h
    simp [zeroValue, typeInfo, hi, hz, go_sem]
def RBackPost (w : World) (s : List Nat) (t : Nat) (e : Ending) (w' : World) : Prop :=
  Below w.heap.size w w' ∧ ((Sa.OkW s t ∧ ∃ (A : Option Addr) (c : Nat), e = .returned (.tuple #[.slice A s.length c, .bool true]) ∧ Rds w' A (natsC (Sa.outW s t))) ∨
    (¬ Sa.OkW s t ∧ e = .returned (.tuple #[.slice none 0 0, .bool false])))
set_option maxRecDepth 100000 in
set_option maxHeartbeats 1000000 in
theorem refBack_any (w : World) (A : Option Addr) (c : Nat) (s : List Nat) (t : Nat) (hm : s.length ≤ 131072) (hr : Rds w A (natsC s)) (hs : ∀ x, x ∈ s → x < 512) (ht : t ≤ s.length) :
    Calls Try.prog 28 #[.int .i64 (t : Int), .slice A s.length c] w (RBackPost w s t) := by
  have hmay := May_any w A s.length c (s.map fun v : Nat => (v : Int)) 512 (by simp) (by omega) (by rw [← natsC_ints]; exact hr)
  rw [mayS_nat hs] at hmay
  have HMAY := Lib.hid hmay
  have HR := Lib.hid hr
  have HS := Lib.hid hs
  have ht0 : ¬ (t : Int) < 0 := by omega
  have ht1 : ¬ (s.length : Int) < (t : Int) := by omega
  have hm1 : ¬ 131072 < s.length := by omega
  obtain ⟨N, HN, hz⟩ : ∃ N, Hid (N = 513) ∧ ∀ w : World, (zeroValue 60).run Try.prog w = .ok (.agg (Array.replicate N (.int .i64 0))) w := ⟨513, Lib.hid rfl, zero_arr⟩
  clear hmay hr hs
  go_enter Try.func28, Try.ntmps28
  go_wp2_with fail
  refine HMAY.out.mono ?_
  rintro e w1 ⟨rfl, rfl⟩
  go_upto_region 4 with (fail)
  go_wp2
  obtain ⟨w4, hw4⟩ : ∃ w4, w4 = w.alloc (.cells (Array.replicate N (.int .i64 0)) 60) := ⟨_, rfl⟩
  have hb4 : Blk w4 w.heap.size 60 (natsC (List.replicate N 0)) := by rw [hw4]; exact Blk.newL _ _ _ _ _ rfl (by simp [natsC])
  have hbe4 : Below w.heap.size w w4 := by rw [hw4]; exact (Below.refl _ _).alloc (Nat.le_refl _) _
  have hF : Hid (∀ d, d < 513 → (List.replicate N 0)[d]? = some (F0 s 0 d)) := Lib.hid (fun d hd => by
    rw [List.getElem?_replicate, if_pos (by rw [HN.out]; exact hd)]; unfold F0; split <;> rfl)
  rw [← hw4]
  clear hw4 hz
  go_loopw [8] (fun i wx => ∃ (k : Nat) (F : List Nat), i = .int .i64 (k : Int) ∧ k ≤ s.length ∧ Hid (F.length = 513) ∧ Hid (∀ d, d < 513 → F[d]? = some (F0 s k d)) ∧ Blk wx w.heap.size 60 (natsC F) ∧ Below w.heap.size w wx) (fun i _ => s.length - (intOf i).toNat)
  case atStart => exact ⟨0, _, rfl, by omega, Lib.hid (by rw [List.length_replicate]; exact HN.out), hF, hb4, hbe4⟩
  case round =>
    clear hb4 hbe4 hF
    obtain ⟨k, F, rfl, hk, HFL, HF, hbk, hbe⟩ := hrel
    by_cases h8 : k < s.length
    · have h8i : (k : Int) < (s.length : Int) := by omega
      have k0 : (0 : Int) ≤ (k : Int) := by omega
      have hx := HS.out _ (List.mem_iff_getElem?.2 ⟨k, sy_get h8⟩)
      obtain ⟨ab, rfl, cb⟩ := (HR.out.ext hbe (Nat.le_refl _)) k _ (natsC_at (sy_get h8))
      have HFN := Lib.hid (F0_next s k)
      generalize Sa.sy s k = x at *
      have hfx := HF.out (x + 1) (by omega)
      have hle := F0_le s k (x + 1)
      have v0 : (0 : Int) ≤ (x : Int) + 1 := by omega
      have v1 : (x : Int) + 1 < 513 := by omega
      have v2 : ((x : Int) + 1).toNat = x + 1 := by omega
      generalize hyq : F0 s k (x + 1) = y at *
      have HY := Lib.hid hyq
      have cr := hbk.cell (natsC_at hfx)
      have fr := hbk.froz (x + 1)
      have hT2 := hbk.set (x + 1) (.int .i64 ((y + 1 : Nat) : Int))
      rw [← natsC_set, show ((y + 1 : Nat) : Int) = (y : Int) + 1 by omega] at hT2
      have HT2 := Lib.hid hT2
      clear hT2 hfx hyq
      go_wp2
      go_roundw
      case rel =>
        refine ⟨k + 1, _, by go_num, by omega, Lib.hid (by rw [List.length_set]; exact HFL.out), Lib.hid (fun d hd => ?_), HT2.out, hbe.setCell (Nat.le_refl _) _⟩
        rw [List.getElem?_set, HFN.out]
        by_cases e : x + 1 = d
        · rw [if_pos e, if_pos e, if_pos (by rw [HFL.out]; omega), ← e, HY.out]
        · rw [if_neg e, if_neg e]; exact HF.out d hd
      case measure => first | (simp [intOf]; done) | (simp [intOf]; omega)
    · obtain rfl : k = s.length := by omega
      have h8i : ¬ (s.length : Int) < (s.length : Int) := by omega
      have HF1 : Hid (∀ d, d < 513 → F[d]? = some (F1 s 0 d)) := Lib.hid (fun d hd => by rw [← F01]; exact HF.out d hd)
      have HBK := Lib.hid hbk
      clear HF hbk
      go_wp2
      obtain ⟨w5, rfl⟩ : ∃ x, x = wr := ⟨wr, rfl⟩
      go_loopw [9] (fun i wx => ∃ (k : Nat) (F : List Nat), i = .int .i64 (k : Int) ∧ k ≤ 512 ∧ Hid (F.length = 513) ∧ Hid (∀ d, d < 513 → F[d]? = some (F1 s k d)) ∧ Blk wx w.heap.size 60 (natsC F) ∧ Below w.heap.size w wx) (fun i _ => 512 - (intOf i).toNat)
      case atStart => exact ⟨0, _, rfl, by omega, HFL, HF1, HBK.out, hbe⟩
      case round =>
        clear HBK HF1 HFL hbe
        obtain ⟨k, F, rfl, hk, HFL, HF, hbk, hbe⟩ := hrel
        by_cases h9 : k < 512
        · have h9i : (k : Int) < 512 := by omega
          have HFN := Lib.hid (F1_next s k)
          have hfx := HF.out (k + 1) (by omega)
          have hfy := HF.out k (by omega)
          have hle := F1_le s k (k + 1)
          have hle2 := F1_le s k k
          have k0 : (0 : Int) ≤ (k : Int) := by omega
          have k1 : (k : Int) < 513 := by omega
          have v0 : (0 : Int) ≤ (k : Int) + 1 := by omega
          have v1 : (k : Int) + 1 < 513 := by omega
          have v2 : ((k : Int) + 1).toNat = k + 1 := by omega
          have v3 : IntKind.i64.wrap ((k : Int) + 1) = (k : Int) + 1 := wrapI (by omega)
          generalize hyq : F1 s k (k + 1) = y at *
          generalize hzq : F1 s k k = z at *
          have v4 : IntKind.i64.wrap ((y : Int) + (z : Int)) = (y : Int) + (z : Int) := wrapI (by omega)
          have HY := Lib.hid hyq
          have HZ := Lib.hid hzq
          have cr := hbk.cell (natsC_at hfx)
          have cz := hbk.cell (natsC_at hfy)
          have fr := hbk.froz (k + 1)
          have hT2 := (hbk.drew 1).set (k + 1) (.int .i64 ((y + z : Nat) : Int))
          rw [← natsC_set, show ((y + z : Nat) : Int) = (y : Int) + (z : Int) by omega] at hT2
          have HT2 := Lib.hid hT2
          clear hT2 hfx hfy hyq hzq
          go_wp2
          refine wp_region_qtail 11 (by kernel_rfl) (by kernel_rfl) ?_
          simp only [List.take_succ_cons, List.take_zero, List.drop_succ_cons, List.drop_zero]
          repeat (go_big_quiet_step (fail))
          refine wpQuiet_nil ?_
          go_wp2
          go_roundw
          case rel =>
            refine ⟨k + 1, _, by go_num, by omega, Lib.hid (by rw [List.length_set]; exact HFL.out), Lib.hid (fun d hd => ?_), HT2.out, (hbe.trans ((drawn_below _ _).mono hbe.size)).setCell (Nat.le_refl _) _⟩
            rw [List.getElem?_set, HFN.out]
            by_cases e : k + 1 = d
            · rw [if_pos e, if_pos e, if_pos (by rw [HFL.out]; omega), ← e, HY.out]
            · rw [if_neg e, if_neg e]; exact HF.out d hd
          case measure => first | (simp [intOf]; done) | (simp [intOf]; omega)
        · obtain ⟨k9, rfl⟩ : ∃ x, x = k := ⟨_, rfl⟩
          have h9i : ¬ (k9 : Int) < 512 := by omega
          have hk9 : k9 = 512 := by omega
          have HF2 : Hid (∀ d, d < 513 → F[d]? = some (F2 s 0 d)) := Lib.hid (fun d hd => by rw [← F12 s d (by omega), ← hk9]; exact HF.out d hd)
          have HBK := Lib.hid hbk
          have hmk := mk_ints (s.length + 1) (by omega)
          rw [show ((s.length + 1 : Nat) : Int) = (s.length : Int) + 1 by omega] at hmk
          have hws := hbe.size
          clear HF hbk hk9
          go_wp2
          obtain ⟨w6, rfl⟩ : ∃ x, x = wr := ⟨wr, rfl⟩
          obtain ⟨w7, hw7⟩ : ∃ w7, w7 = w6.alloc (.cells (Array.replicate (s.length + 1) (.int .i64 0)) 3) := ⟨_, rfl⟩
          have hb1 : Blk w7 w6.heap.size 3 (natsC (List.replicate (s.length + 1) 0)) := by rw [hw7]; exact Blk.newL _ _ _ _ _ rfl (by simp [natsC])
          have hb3 : Blk w7 w.heap.size 60 (natsC F) := by rw [hw7]; exact Blk.allocA HBK.out _
          have hbe7 : Below w.heap.size w w7 := by rw [hw7]; exact hbe.alloc hws _
          have hne : w6.heap.size ≠ w.heap.size := by have := HBK.out.lt; omega
          have HNE := Lib.hid hne
          generalize w6.heap.size = g at *
          rw [← hw7]
          clear hw7 hmk HBK hbe
          go_loopw [11] (fun i wx => ∃ (k : Nat) (X F : List Nat), i = .int .i64 (k : Int) ∧ k ≤ s.length ∧ Hid (F.length = 513) ∧ Hid (X.length = s.length + 1) ∧ Hid (∀ d, d < 513 → F[d]? = some (F2 s k d)) ∧ Hid (∀ j, j < k → X[Sa.up t j]? = some (Sa.lf s j)) ∧ Blk wx g 3 (natsC X) ∧ Blk wx w.heap.size 60 (natsC F) ∧ Below w.heap.size w wx) (fun i _ => s.length - (intOf i).toNat)
          case atStart => exact ⟨0, _, _, rfl, by omega, HFL, Lib.hid (by simp), HF2, Lib.hid (fun j hj => by omega), hb1, hb3, hbe7⟩
          case round =>
            clear hb1 hb3 hbe7 HF2 HFL
            obtain ⟨k, X, F, rfl, hk, HFL, HXL, HF, HXV, hb1, hb3, hbe⟩ := hrel
            by_cases h10 : k < s.length
            · have h10i : (k : Int) < (s.length : Int) := by omega
              have k0 : (0 : Int) ≤ (k : Int) := by omega
              have hx := HS.out _ (List.mem_iff_getElem?.2 ⟨k, sy_get h10⟩)
              obtain ⟨ab, rfl, cb⟩ := (HR.out.ext hbe (Nat.le_refl _)) k _ (natsC_at (sy_get h10))
              have hcb2 : ∀ v, (wr.setCell ⟨g, Sa.up t k, none⟩ v).cell? (ab.add k) = some (.int .i64 (Sa.sy s k : Int)) := fun v => by
                obtain ⟨a', e', cc⟩ := (HR.out.ext (hbe.setCell (p := ⟨g, Sa.up t k, none⟩) hws v) (Nat.le_refl _)) k _ (natsC_at (sy_get h10))
                rw [Option.some.inj e']; exact cc
              have HFN := Lib.hid (F2_next s k)
              have HLF := Lib.hid (F2_lf s k)
              generalize Sa.sy s k = x at *
              have hfx := HF.out x (by omega)
              have hle := F2_le s k x
              have v0 : (0 : Int) ≤ (x : Int) := by omega
              have v1 : (x : Int) < 513 := by omega
              generalize hyq : F2 s k x = y at *
              have HY := Lib.hid hyq
              obtain ⟨j, hj⟩ : ∃ j, j = Sa.up t k := ⟨_, rfl⟩
              have hjn : j ≤ s.length := by rw [hj]; exact Sa.up_le h10
              have cr := hb3.cell (natsC_at hfx)
              have fg := hb1.froz j
              obtain ⟨u, hu⟩ : ∃ u, X[j]? = some u := ⟨_, List.getElem?_eq_getElem (by rw [HXL.out]; omega)⟩
              have cg := hb1.cell (natsC_at hu)
              have h1s := hb1.set j (.int .i64 ((y + 1 : Nat) : Int))
              have h3s := hb3.far (q := g) (o := j) (.int .i64 ((y + 1 : Nat) : Int)) (Ne.symm HNE.out)
              have cr2 := h3s.cell (natsC_at hfx)
              have fr2 := h3s.froz x
              have h1t := h1s.far (q := w.heap.size) (o := x) (.int .i64 ((y + 1 : Nat) : Int)) HNE.out
              have h3t := h3s.set x (.int .i64 ((y + 1 : Nat) : Int))
              rw [← natsC_set] at h1t h3t
              have hbt := (hbe.setCell (p := ⟨g, j, none⟩) hws (.int .i64 ((y + 1 : Nat) : Int))).setCell (p := ⟨w.heap.size, x, none⟩) (Nat.le_refl _) (.int .i64 ((y + 1 : Nat) : Int))
              rw [show ((y + 1 : Nat) : Int) = (y : Int) + 1 by omega] at h1t h3t hbt cr2 fr2
              have H1T := Lib.hid h1t
              have H3T := Lib.hid h3t
              have HBT := Lib.hid hbt
              have HJ := Lib.hid hj
              rw [← hj] at hcb2
              have cb2 := hcb2 (.int .i64 ((y : Int) + 1))
              clear hcb2
              clear h1s h3s h1t h3t hbt hfx hyq hu
              by_cases hkt : k < t
              · have hkti : ¬ (t : Int) ≤ (k : Int) := by omega
                have hjk : j = k := by rw [hj]; unfold Sa.up; rw [if_pos hkt]
                have h1y : (1 : Int) + (y : Int) = (y : Int) + 1 := by omega
                clear hkt hj
                subst hjk
                go_wp2
                go_roundw
                case rel =>
                  refine ⟨j + 1, _, _, by go_num, by omega, Lib.hid (by rw [List.length_set]; exact HFL.out), Lib.hid (by rw [List.length_set]; exact HXL.out), Lib.hid (fun d hd => ?_), Lib.hid (fun i hi => ?_), H1T.out, H3T.out, HBT.out⟩
                  · rw [List.getElem?_set, HFN.out]
                    by_cases e : x = d
                    · rw [if_pos e, if_pos e, if_pos (by rw [HFL.out]; omega), ← e, HY.out]
                    · rw [if_neg e, if_neg e]; exact HF.out d hd
                  · rw [List.getElem?_set]
                    by_cases e : i = j
                    · subst e
                      rw [if_pos HJ.out, if_pos (by rw [HXL.out]; omega), HLF.out]
                    · rw [if_neg (fun h => e (by have h' := congrArg (Sa.dn t) (HJ.out.symm.trans h); rw [Sa.dn_up, Sa.dn_up] at h'; exact h'.symm))]; exact HXV.out i (by omega)
                case measure => first | (simp [intOf]; done) | (simp [intOf]; omega)
              · have hkti : (t : Int) ≤ (k : Int) := by omega
                have hjk : j = k + 1 := by rw [hj]; unfold Sa.up; rw [if_neg hkt]
                have h1y : (1 : Int) + (y : Int) = (y : Int) + 1 := by omega
                clear hkt hj
                subst hjk
                go_wp2
                go_roundw
                case rel =>
                  refine ⟨k + 1, _, _, by go_num, by omega, Lib.hid (by rw [List.length_set]; exact HFL.out), Lib.hid (by rw [List.length_set]; exact HXL.out), Lib.hid (fun d hd => ?_), Lib.hid (fun i hi => ?_), H1T.out, H3T.out, HBT.out⟩
                  · rw [List.getElem?_set, HFN.out]
                    by_cases e : x = d
                    · rw [if_pos e, if_pos e, if_pos (by rw [HFL.out]; omega), ← e, HY.out]
                    · rw [if_neg e, if_neg e]; exact HF.out d hd
                  · rw [List.getElem?_set]
                    by_cases e : i = k
                    · subst e
                      rw [if_pos HJ.out, if_pos (by rw [HXL.out]; omega), HLF.out]
                    · rw [if_neg (fun h => e (by have h' := congrArg (Sa.dn t) (HJ.out.symm.trans h); rw [Sa.dn_up, Sa.dn_up] at h'; exact h'.symm))]; exact HXV.out i (by omega)
                case measure => first | (simp [intOf]; done) | (simp [intOf]; omega)
            · obtain rfl : k = s.length := by omega
              have h10i : ¬ (s.length : Int) < (s.length : Int) := by omega
              have hmk := mk_ints s.length (by omega)
              have H1 := Lib.hid hb1
              have HBE := Lib.hid hbe
              clear hb1 hb3 hbe HF
              go_wp2
              obtain ⟨w8, hw8⟩ : ∃ w8, w8 = wr.alloc (.cells (Array.replicate s.length (.int .i64 0)) 3) := ⟨_, rfl⟩
              have hb4 : Blk w8 wr.heap.size 3 (natsC (List.replicate s.length 0)) := by rw [hw8]; exact Blk.newL _ _ _ _ _ rfl (by simp [natsC])
              have hbe8 : Below wr.heap.size wr w8 := by rw [hw8]; exact (Below.refl _ _).alloc (Nat.le_refl _) _
              obtain ⟨w9, rfl⟩ : ∃ x, x = wr := ⟨wr, rfl⟩
              have hws9 := HBE.out.size
              rw [← hw8]
              clear hw8 hmk
              go_loopw [14, 15] (fun r i wx => ∃ (k : Nat) (Y : List Nat), r = .int .i64 (Sa.wk s t k : Int) ∧ i = .int .i64 ((s.length : Int) - 1 - (k : Int)) ∧ k ≤ s.length ∧ Hid (Y.length = s.length) ∧ Hid (∀ j, j < k → Sa.wk s t j ≠ t) ∧ Hid (Sa.wk s t k ≤ s.length) ∧ Hid (∀ j, j < k → Y[s.length - 1 - j]? = some (Sa.sy s (Sa.dn t (Sa.wk s t j)))) ∧ Blk wx w9.heap.size 3 (natsC Y) ∧ Below w9.heap.size w9 wx) (fun _ i _ => (intOf i + 1).toNat)
              case atStart => exact ⟨0, _, rfl, by simp, by omega, Lib.hid (by simp), Lib.hid (fun j hj => by omega), Lib.hid (Nat.zero_le _), Lib.hid (fun j hj => by omega), hb4, hbe8⟩
              case round =>
                clear hb4 hbe8
                obtain ⟨k, Y, rfl, rfl, hk, HYL, HNT, HLE, HYV, hby, hbe⟩ := hrel
                have hbw := HBE.out.trans (hbe.mono hws9)
                by_cases h11 : k < s.length
                · have h11i : (0 : Int) ≤ (s.length : Int) - 1 - (k : Int) := by omega
                  by_cases hrt : Sa.wk s t k = t
                  · have hrti : ((Sa.wk s t k : Int) == (t : Int)) = true := by rw [beq_iff_eq]; omega
                    have HNO : Hid (¬ Sa.OkW s t) := Lib.hid (fun h => h.1 k h11 hrt)
                    clear hrt
                    go_wp2
                    go_ret2
                    exact ⟨hbw, .inr ⟨HNO.out, rfl⟩⟩
                  · have hrti : ((Sa.wk s t k : Int) == (t : Int)) = false := by rw [beq_eq_false_iff_ne]; omega
                    have HNX : Hid (Sa.wk s t (k + 1) = Sa.lf s (Sa.dn t (Sa.wk s t k))) := Lib.hid rfl
                    have hdn := Sa.dn_lt hrt HLE.out ht
                    have HLX : Hid (Sa.wk s t (k + 1) ≤ s.length) := Lib.hid (Sa.lf_top hdn)
                    have hxv := HXV.out _ hdn
                    rw [Sa.up_dn hrt, ← HNX.out] at hxv
                    have HRT := Lib.hid hrt
                    have k0 : (0 : Int) ≤ (Sa.wk s t k : Int) := by omega
                    have i1 : (s.length : Int) - 1 - (k : Int) < (s.length : Int) := by omega
                    have i2 : ((s.length : Int) - 1 - (k : Int)).toNat = s.length - 1 - k := by omega
                    obtain ⟨u, hu⟩ : ∃ u, Y[s.length - 1 - k]? = some u := ⟨_, List.getElem?_eq_getElem (by rw [HYL.out]; omega)⟩
                    obtain ⟨ab, rfl, cb⟩ := (HR.out.ext hbw (Nat.le_refl _)) _ _ (natsC_at (sy_get hdn))
                    have h1x := H1.out.extlt hbe H1.out.lt
                    have hb6 := hby.set (s.length - 1 - k) (.int .i64 (Sa.sy s (Sa.dn t (Sa.wk s t k)) : Int))
                    rw [← natsC_set] at hb6
                    have HB6 := Lib.hid hb6
                    have cg := hby.cell (natsC_at hu)
                    have fg := hby.froz (s.length - 1 - k)
                    have hgn : g ≠ w9.heap.size := by have := H1.out.lt; omega
                    have cx := (h1x.far (o := s.length - 1 - k) (.int .i64 (Sa.sy s (Sa.dn t (Sa.wk s t k)) : Int)) hgn).cell (natsC_at hxv)
                    have hdv : Sa.dn t (Sa.wk s t k) = if t < Sa.wk s t k then Sa.wk s t k - 1 else Sa.wk s t k := rfl
                    have hle := HLE.out
                    generalize hx1 : Sa.sy s (Sa.dn t (Sa.wk s t k)) = x1 at *
                    generalize hx2 : Sa.wk s t (k + 1) = x2 at *
                    have HXE := Lib.hid hx1
                    have HXQ := Lib.hid hx2
                    generalize hdd : Sa.dn t (Sa.wk s t k) = d at *
                    generalize hwx : Sa.wk s t k = x at *
                    have HDD := Lib.hid hdd
                    have HWX := Lib.hid hwx
                    clear hdd hwx hrt hx1 hx2 hb6 hu hxv h1x
                    by_cases htx : t < x
                    · rw [if_pos htx] at hdv
                      have h12 : (t : Int) < (x : Int) := by omega
                      have v0 : (0 : Int) ≤ (x : Int) - 1 := by omega
                      have v1 : (x : Int) - 1 < (s.length : Int) := by omega
                      have v2 : ((x : Int) - 1).toNat = d := by omega
                      have v3 : (x : Int) < (s.length : Int) + 1 := by omega
                      clear htx hdv
                      go_wp2
                      go_roundw
                      case rel =>
                        refine ⟨k + 1, _, by rw [HXQ.out], congrArg (Value.int .i64) (by omega), by omega, Lib.hid (by rw [List.length_set]; exact HYL.out), Lib.hid (fun j hj => ?_), Lib.hid (by rw [HXQ.out]; exact HLX.out), Lib.hid (fun j hj => ?_), HB6.out, hbe.setCell (Nat.le_refl _) _⟩
                        · by_cases e : j = k
                          · rw [e, HWX.out]; exact HRT.out
                          · exact HNT.out j (by omega)
                        · rw [List.getElem?_set]
                          by_cases e : s.length - 1 - k = s.length - 1 - j
                          · have : j = k := by omega
                            subst this
                            rw [if_pos rfl, if_pos (by rw [HYL.out]; omega), HWX.out, HDD.out, HXE.out]
                          · rw [if_neg e]; exact HYV.out j (by omega)
                      case measure => first | (simp [intOf]; done) | (simp [intOf]; omega)
                    · rw [if_neg htx] at hdv
                      have h12 : ¬ (t : Int) < (x : Int) := by omega
                      have v0 : (0 : Int) ≤ (x : Int) := by omega
                      have v1 : (x : Int) < (s.length : Int) := by omega
                      have v3 : (x : Int) < (s.length : Int) + 1 := by omega
                      clear htx
                      obtain rfl : d = x := hdv
                      go_wp2
                      go_roundw
                      case rel =>
                        refine ⟨k + 1, _, by rw [HXQ.out], congrArg (Value.int .i64) (by omega), by omega, Lib.hid (by rw [List.length_set]; exact HYL.out), Lib.hid (fun j hj => ?_), Lib.hid (by rw [HXQ.out]; exact HLX.out), Lib.hid (fun j hj => ?_), HB6.out, hbe.setCell (Nat.le_refl _) _⟩
                        · by_cases e : j = k
                          · rw [e, HWX.out]; exact HRT.out
                          · exact HNT.out j (by omega)
                        · rw [List.getElem?_set]
                          by_cases e : s.length - 1 - k = s.length - 1 - j
                          · have : j = k := by omega
                            subst this
                            rw [if_pos rfl, if_pos (by rw [HYL.out]; omega), HWX.out, HDD.out, HXE.out]
                          · rw [if_neg e]; exact HYV.out j (by omega)
                      case measure => first | (simp [intOf]; done) | (simp [intOf]; omega)
                · obtain rfl : k = s.length := by omega
                  have h11i : ¬ (0 : Int) ≤ (s.length : Int) - 1 - (s.length : Int) := by omega
                  by_cases hrt : Sa.wk s t s.length = t
                  · have hrti : ((Sa.wk s t s.length : Int) != (t : Int)) = false := by rw [hrt]; simp
                    have HOK : Hid (Sa.OkW s t) := Lib.hid ⟨HNT.out, hrt⟩
                    have hY : Y = Sa.outW s t := List.ext_getElem? (fun j => by
                      by_cases hj : j < s.length
                      · have := HYV.out (s.length - 1 - j) (by omega)
                        rw [show s.length - 1 - (s.length - 1 - j) = j by omega] at this
                        rw [this]
                        unfold Sa.outW
                        rw [List.getElem?_map, List.getElem?_range hj]; rfl
                      · rw [List.getElem?_eq_none (by rw [HYL.out]; omega), List.getElem?_eq_none (by rw [Sa.outW_len]; omega)])
                    subst hY
                    have HRY := Lib.hid hby.rds
                    have HBW := Lib.hid hbw
                    have HBR := Lib.hid ((HR.out.ext hbw (Nat.le_refl _)))
                    have hol := Sa.outW_len s t
                    have HMK : Hid (Calls Try.prog 23 #[.slice (some ⟨w9.heap.size, 0, none⟩) s.length s.length] wr fun e w' => ∃ (A5 : Option Addr) (c5 : Nat), e = .returned (.tuple #[.slice A5 s.length c5, .int .i64 (t : Int)]) ∧ Rds w' A5 (natsC s) ∧ Below wr.heap.size wr w') := Lib.hid (by
                      have h := refMake_any wr (some ⟨w9.heap.size, 0, none⟩) s.length (Sa.outW s t) (by omega) hby.rds
                      rw [hol] at h
                      refine h.mono ?_
                      rintro e w5 ⟨b, v, rfl, hsa, hown, hb5⟩
                      obtain ⟨A5, c5, rfl, r1, r2, r3, r4, r5⟩ := own_rds hown
                      obtain ⟨b', hsa', ho, ha⟩ := Sa.OkW.make ht HOK.out
                      obtain rfl : b = b' := hsa.eq hsa'
                      rw [ho] at r4
                      rw [hol, ha]
                      exact ⟨A5, c5, rfl, r4, hb5⟩)
                    clear hrt hby hbw hbe hol
                    go_wp2_with fail
                    refine HMK.out.mono ?_
                    rintro e w5 ⟨A5, c5, rfl, r4, hb5⟩
                    have HB5 := Lib.hid hb5
                    have HEQ := Lib.hid (EqNumbers_any w5 A5 s.length c5 (s.map fun v : Nat => (v : Int)) (by simp) (natsC_rint r4) A s.length c (s.map fun v : Nat => (v : Int)) (by simp) (natsC_rint (HBR.out.ext hb5 (Nat.le_refl _))) (by omega))
                    rw [decide_eq_true rfl] at HEQ
                    have htt : ((t : Int) == (t : Int)) = true := by simp
                    clear r4 hb5 HMK
                    go_wp2_with fail
                    refine HEQ.out.mono ?_
                    rintro e w6' ⟨rfl, q6, rfl⟩
                    go_wp2
                    go_ret2
                    have hb := HB5.out.trans ((drawn_below w5 q6).mono HB5.out.size)
                    exact ⟨HBW.out.trans (hb.mono HBW.out.size), .inl ⟨HOK.out, _, _, rfl, HRY.out.ext hb (Nat.le_refl _)⟩⟩
                  · have hrti : ((Sa.wk s t s.length : Int) != (t : Int)) = true := by rw [bne_iff_ne]; omega
                    have HNO : Hid (¬ Sa.OkW s t) := Lib.hid (fun h => hrt h.2)
                    clear hrt
                    go_wp2
                    go_ret2
                    exact ⟨hbw, .inr ⟨HNO.out, rfl⟩⟩

theorem refBack_bad (w : World) (A : Option Addr) (n c : Nat) (L : List Int) (t : Int) (hn : L.length = n) (hm : n ≤ 131072) (hr : Rds w A (intsV L)) (hbad : mayS 512 L = false ∨ t < 0 ∨ (n : Int) < t) :
    Calls Try.prog 28 #[.int .i64 t, .slice A n c] w fun e w' => e = .returned (.tuple #[.slice none 0 0, .bool false]) ∧ w = w' := by
  have HMAY := Lib.hid (May_any w A n c L 512 hn (by omega) hr)
  clear hr hn
  generalize mayS 512 L = u at *
  by_cases ht : t < 0
  · clear hbad
    go_enter Try.func28, Try.ntmps28
    go_wp2
    go_ret2
    exact ⟨rfl, rfl⟩
  · by_cases ht2 : (n : Int) < t
    · clear hbad
      go_enter Try.func28, Try.ntmps28
      go_wp2
      go_ret2
      exact ⟨rfl, rfl⟩
    · have hu : u = false := by
        rcases hbad with h | h | h
        · exact h
        · exact absurd h ht
        · exact absurd h ht2
      subst hu
      clear hbad
      go_enter Try.func28, Try.ntmps28
      go_wp2_with fail
      refine HMAY.out.mono ?_
      rintro e w1 ⟨rfl, rfl⟩
      go_wp2
      go_ret2
      exact ⟨rfl, rfl⟩
end Go.Proofs.Ytkjajdhempceaaa
