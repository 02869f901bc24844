/- The walk of a frame's names. -/
import Derived.Test.YtfiioobdknbacaaSufD
import Derived.Test.YtfiioobdknbacaaSa
set_option linter.unusedVariables false
set_option linter.unusedSimpArgs false
namespace Go.Proofs.Ytfiioobdknbacaa
open Go.RowKit Lec
def NamesPost (w : World) (s : List Nat) (e : Ending) (w' : World) : Prop :=
  ∃ (g : Nat) (l o : List Nat), e = .returned (.tuple #[.slice (some ⟨g, 0, none⟩) (Sa.lmsL s).length (Sa.lmsL s).length, .int .i64 ((Sa.nm s o ((Sa.lmsL s).length - 1) + 1 : Nat) : Int)]) ∧ Blk w' g 3 (natsC l) ∧ w.heap.size ≤ g ∧ Below w.heap.size w w' ∧
    l.length = (Sa.lmsL s).length ∧ Sa.Ord s o ∧ (∀ i v, o[i]? = some v → l[Sa.idx s v]? = some (Sa.nm s o i))

set_option maxRecDepth 100000 in
set_option maxHeartbeats 4000000 in
theorem names_any (w : World) (p : Nat) (s : List Nat) (K : Nat) (hf : Frm w p s K) (hm : s.length ≤ 131072) (hk : K ≤ 200000) (hpos : 0 < s.length) (hks : ∀ i, i < s.length → Sa.sy s i < K) :
    Calls Try.prog 123 #[.pointer (some ⟨p, 0, none⟩)] w (NamesPost w s) := by
  obtain ⟨A, c, a1, a2, a3, a4, c4, a5, xs3, h0, h1, h2, h3, h4, h5, r0, r1, r2, r3, r4, r5, h6, h7⟩ := hf.out
  have HIND := Lib.hid (induce_any w p s (Sa.lmsL s) K hf hm hk (Sa.layL hpos hks) a4 c4 r4)
  have HF := Lib.hid hf
  have HK4 := Lib.hid h4
  have HK5 := Lib.hid h5
  have HR5 := Lib.hid r5
  clear h0 h1 h2 h3 h5 r0 r1 r2 r3 r4 r5 h6 h7 hf
  have hhalf := Sa.lmsL_half s
  go_enter Try.func123, Try.ntmps123
  go_wp2_with fail
  refine HIND.out.mono ?_
  rintro e w1 ⟨g, b, rfl, hb, hg, hI, hbel⟩
  clear HIND h4
  obtain ⟨b', e1, e2, e3, e4⟩ := hI.nat
  have hbb : b' = b := by
    have := List.map_inj_right (f := fun v : Nat => (v : Int)) (fun x y h => by have h' : (x : Int) = (y : Int) := h; omega) |>.1 e1
    exact this.symm
  subst hbb
  have HORD := Lib.hid hI.ord
  have HBL := Lib.hid e2
  have HB4 := Lib.hid e4
  have hbz := Nat.le_refl w1.heap.size
  clear hI e1 e3 e4 e2
  go_wp2
  go_loopw [4, 18] (fun v i wr => ∃ (m : Nat) (A4 : Option Addr) (c4 : Nat), i = .int .i64 (m : Int) ∧ m ≤ s.length ∧ v = .slice A4 ((b'.take m).filter (Sa.lmsB s)).length c4 ∧ Hid (wr.ownsRow w1.heap.size 3 1 v ((b'.take m).filter (Sa.lmsB s)).length (natsC ((b'.take m).filter (Sa.lmsB s)))) ∧ Below w1.heap.size w1 wr) (fun _ i _ => s.length - (intOf i).toNat)
  case atStart => exact ⟨0, none, 0, rfl, by omega, rfl, Lib.hid (World.ownsRow_nil _ _ _ _), Below.refl _ _⟩
  case round =>
    obtain ⟨m, A4, c4', rfl, hmn, rfl, HO, hbe⟩ := hrel
    have hlen : ((b'.take m).filter (Sa.lmsB s)).length ≤ m := Nat.le_trans (List.length_filter_le _ _) (by rw [List.length_take]; omega)
    by_cases hm2 : m < s.length
    · have hmi : (m : Int) < (s.length : Int) := by omega
      have hm0 : (0 : Int) ≤ (m : Int) := by omega
      have hmb : m < b'.length := by rw [HBL.out]; exact hm2
      have vb := (hb.ext hbe (Nat.le_refl _)).cell (natsC_at (List.getElem?_eq_getElem hmb))
      have hv := HB4.out _ (List.getElem_mem hmb)
      have HT : Hid ((b'.take (m + 1)).filter (Sa.lmsB s) = (b'.take m).filter (Sa.lmsB s) ++ (if Sa.lmsB s b'[m] = true then [b'[m]] else [])) := Lib.hid (by rw [List.take_succ_eq_append_getElem hmb, List.filter_append]; cases h : Sa.lmsB s b'[m] <;> simp [h])
      generalize b'[m] = v at *
      have hbw := hbel.trans (hbe.mono hbel.size)
      have kp := cell_ext hbw (Nat.le_refl _) HK5.out
      have hvi : (v : Int) < (s.length : Int) + 1 := by omega
      have hv0 : (0 : Int) ≤ (v : Int) := by omega
      obtain ⟨aa, rfl, c1⟩ := (HR5.out.ext hbw (Nat.le_refl _)) v _ (intsV_at (v := numb s v) (by rw [List.getElem?_map, List.getElem?_range (by omega)]; rfl))
      have hbz2 : w1.heap.size ≤ wr.heap.size := hbe.size
      cases hl : Sa.lmsB s v with
      | true =>
        have hnn : numb s v = (Sa.idx s v : Int) := by unfold numb; rw [if_pos hl]
        rw [hnn] at c1
        have HT2 : Hid ((b'.take (m + 1)).filter (Sa.lmsB s) = (b'.take m).filter (Sa.lmsB s) ++ [v]) := Lib.hid (by rw [HT.out, if_pos hl])
        have hix : (0 : Int) ≤ (Sa.idx s v : Int) := by omega
        generalize hFL : (b'.take m).filter (Sa.lmsB s) = fl at *
        have HFL := Lib.hid hFL
        clear hnn hl hFL hbw HT
        generalize Sa.idx s v = ix at *
        go_wp2_with (at_builtin; refine wp_app1 (w0 := wr) rfl rfl _ _ 45 rfl w1.heap.size 3 (.int .i64 0) 1 8 Try.underlying45 info_int rfl (by decide) (by decide) _ fl.length _ rfl HO.out rfl rfl (one_cell1 rfl) (by omega) hbz2 ?_; intro v' w2 hown' hg' hb'; obtain ⟨A6, c6, rfl, _, _, _, _, _⟩ := own_rds hown'; have HO2 := Lib.hid hown'; have HB2 := Lib.hid hb'; clear hown' hg' hb')
        go_roundw
        case rel =>
          refine ⟨m + 1, A6, c6, by go_num, by omega, ?_, ?_, hbe.trans HB2.out⟩
          · rw [HT2.out]; simp
          · rw [HT2.out]; have h := HO2.out; simpa [natsC] using Lib.hid h
        case measure => first | (simp [intOf]; done) | (simp [intOf]; omega)
      | false =>
        have hnn : numb s v = -1 := by unfold numb; rw [if_neg (by rw [hl]; exact Bool.false_ne_true)]
        rw [hnn] at c1
        have HT2 : Hid ((b'.take (m + 1)).filter (Sa.lmsB s) = (b'.take m).filter (Sa.lmsB s)) := Lib.hid (by rw [HT.out, if_neg (by rw [hl]; exact Bool.false_ne_true), List.append_nil])
        clear hnn hl hbw HT
        go_wp2
        go_roundw
        case rel =>
          refine ⟨m + 1, A4, c4', by go_num, by omega, ?_, ?_, hbe⟩
          · rw [HT2.out]
          · rw [HT2.out]; exact HO
        case measure => first | (simp [intOf]; done) | (simp [intOf]; omega)
    · obtain rfl : m = s.length := by omega
      have hmi : ¬ (s.length : Int) < (s.length : Int) := by omega
      have hT : b'.take s.length = b' := List.take_of_length_le (by rw [HBL.out]; exact Nat.le_refl _)
      rw [hT] at HO hlen ⊢
      have hol := HORD.out.len
      generalize b'.filter (Sa.lmsB s) = o at *
      have hbw := hbel.trans (hbe.mono hbel.size)
      have hlw := hbw.size
      obtain ⟨A5, c5, he5, _, _, _, r5', _⟩ := own_rds HO.out
      obtain ⟨rfl, _, rfl⟩ := Value.slice.inj he5
      have HRO := Lib.hid r5'
      have hmk := mk_ints o.length (by omega)
      have HOL := Lib.hid hol
      clear hol
      clear he5 r5' HO hb hbe hbz
      go_wp2
      obtain ⟨w2, hw2⟩ : ∃ w2, w2 = wr.alloc (.cells (Array.replicate o.length (.int .i64 0)) 3) := ⟨_, rfl⟩
      have hb2 : Blk w2 wr.heap.size 3 (natsC (List.replicate o.length 0)) := by rw [hw2]; exact Blk.newL _ _ _ _ _ rfl (by simp [natsC])
      have hbe2 : Below wr.heap.size wr w2 := by rw [hw2]; exact (Below.refl _ _).alloc (Nat.le_refl _) _
      rw [← hw2]
      clear hw2 hmk
      generalize hG : wr.heap.size = G at *
      have HG := Lib.hid hG
      clear hG
      obtain ⟨w0, rfl⟩ : ∃ x, x = wr := ⟨wr, rfl⟩
      go_loopw [8, 40] (fun k i wx => ∃ (m : Nat) (l : List Nat), i = .int .i64 (m : Int) ∧ m ≤ o.length ∧ k = .int .i64 (Sa.nm s o (m - 1) : Int) ∧ Hid (l.length = o.length) ∧ Hid (∀ j v, j < m → o[j]? = some v → l[Sa.idx s v]? = some (Sa.nm s o j)) ∧ Blk wx G 3 (natsC l) ∧ Below G w0 wx) (fun _ i _ => o.length - (intOf i).toNat)
      case atStart => exact ⟨0, _, rfl, by omega, rfl, Lib.hid (by simp), Lib.hid (fun j v hj => by omega), hb2, hbe2⟩
      case round =>
        clear hb2 hbe2
        obtain ⟨m, l, rfl, hmo, rfl, HLL, HLN, hbl, hbe2⟩ := hrel
        have hbw2 : Below w.heap.size w wr := hbw.trans (hbe2.mono hlw)
        have HRO2 := Lib.hid (HRO.out.ext hbe2 (Nat.le_of_eq HG.out))
        by_cases hm3 : m < o.length
        · have hmi2 : (m : Int) < (o.length : Int) := by omega
          have hv : o[m]? = some o[m] := List.getElem?_eq_getElem hm3
          generalize o[m] = v at *
          have hLv := (HORD.out.mem v).1 (List.mem_iff_getElem?.2 ⟨m, hv⟩)
          obtain ⟨ao, rfl, co⟩ := HRO2.out m _ (natsC_at hv)
          have kp := cell_ext hbw2 (Nat.le_refl _) HK5.out
          obtain ⟨aa, rfl, c1⟩ := (HR5.out.ext hbw2 (Nat.le_refl _)) v _ (intsV_at (v := (Sa.idx s v : Int)) (by rw [List.getElem?_map, List.getElem?_range (by have := hLv.2.1; omega)]; simp [numb, (Sa.lmsB_iff s v).2 hLv]))
          have hvl := hLv.2.1
          have hvi : (v : Int) < (s.length : Int) + 1 := by omega
          have hv0 : (0 : Int) ≤ (v : Int) := by omega
          have hix := Sa.idx_lt hLv
          have hixn : Sa.idx s v < o.length := by rw [HOL.out]; exact hix
          have hixi : (Sa.idx s v : Int) < (o.length : Int) := by omega
          have hix0 : (0 : Int) ≤ (Sa.idx s v : Int) := by omega
          obtain ⟨y, hy⟩ : ∃ y, l[Sa.idx s v]? = some y := ⟨_, List.getElem?_eq_getElem (by rw [HLL.out]; exact hixn)⟩
          have HLN2 : Hid (∀ j u, j < m + 1 → o[j]? = some u → (l.set (Sa.idx s v) (Sa.nm s o m))[Sa.idx s u]? = some (Sa.nm s o j)) := Lib.hid (fun j u hj hu => by
            rw [List.getElem?_set]
            by_cases e : j = m
            · subst e
              obtain rfl : v = u := by rw [hv] at hu; injection hu
              simp [HLL.out, hixn]
            · have hne : Sa.idx s v ≠ Sa.idx s u := fun h => by
                have hLu := (HORD.out.mem u).1 (List.mem_iff_getElem?.2 ⟨j, hu⟩)
                have h1 := Sa.idx_at hLv
                have h2 := Sa.idx_at hLu
                rw [h, h2] at h1
                injection h1 with h1
                subst h1
                have hn := HORD.out.nod
                rw [List.nodup_iff_pairwise_ne, List.pairwise_iff_getElem] at hn
                obtain ⟨a1, b1⟩ := List.getElem?_eq_some_iff.1 hv
                obtain ⟨a2, b2⟩ := List.getElem?_eq_some_iff.1 hu
                exact hn j m a2 a1 (by omega) (b2.trans b1.symm)
              rw [if_neg hne]
              exact HLN.out j u (by omega) hu)
          have HLL2 : Hid ((l.set (Sa.idx s v) (Sa.nm s o m)).length = o.length) := Lib.hid (by rw [List.length_set]; exact HLL.out)
          have HY := Lib.hid hy
          have HHV := Lib.hid hv
          have hnm := Sa.nm_le s o m
          have hnm1 := Sa.nm_le s o (m - 1)
          clear hv hy hix
          by_cases hm0 : m = 0
          · have HE0 : Hid (Sa.nm s o m = Sa.nm s o (m - 1)) := Lib.hid (by rw [hm0])
            have hmz : ¬ (0 : Int) < (m : Int) := by omega
            clear hm0
            have vl := hbl.cell (natsC_at HY.out)
            have fl := hbl.froz (Sa.idx s v)
            have hb3 := hbl.set (Sa.idx s v) (.int .i64 (Sa.nm s o m : Int))
            rw [← natsC_set] at hb3
            have HB3 := Lib.hid hb3
            rw [HE0.out] at HB3
            clear hb3 hbl
            generalize Sa.nm s o (m - 1) = k0 at *
            generalize Sa.idx s v = ix at *
            go_wp2
            go_roundw
            case rel => exact ⟨m + 1, _, by go_num, by omega, by rw [← HE0.out]; rfl, HLL2, HLN2, by rw [HE0.out]; exact HB3.out, hbe2.setCell (Nat.le_refl _) _⟩
            case measure => first | (simp [intOf]; done) | (simp [intOf]; omega)
          · have hmz : (0 : Int) < (m : Int) := by omega
            have hu : o[m - 1]? = some o[m - 1] := List.getElem?_eq_getElem (by omega)
            generalize o[m - 1] = u at *
            have hLu := (HORD.out.mem u).1 (List.mem_iff_getElem?.2 ⟨m - 1, hu⟩)
            obtain ⟨ao', e', cu⟩ := HRO2.out (m - 1) _ (natsC_at hu)
            obtain rfl := Option.some.inj e'
            clear e'
            have hmt : ((m : Int) - 1).toNat = m - 1 := by omega
            have hmo0 : (0 : Int) ≤ (m : Int) - 1 := by omega
            have hmo1 : (m : Int) - 1 < (o.length : Int) := by omega
            have HSM := Lib.hid (same_any wr p s K (HF.out.ext hbw2 (Nat.le_refl _)) hm u v hLu hLv)
            have HNS : Hid (Sa.nm s o m = Sa.nm s o (m - 1) + (if Sa.sameB s u v then 0 else 1)) := Lib.hid (by
              obtain ⟨m', rfl⟩ : ∃ m', m = m' + 1 := ⟨m - 1, by omega⟩
              rw [Nat.add_sub_cancel] at hu ⊢
              rw [Sa.nm, Sa.getD_of hu, Sa.getD_of HHV.out])
            clear hu hm0 hLv hLu
            generalize Sa.idx s v = ix at *
            go_wp2_with fail
            refine HSM.out.mono ?_
            rintro e w3 ⟨rfl, q3, rfl⟩
            have hbl3 := hbl.drew q3
            have vl := hbl3.cell (natsC_at HY.out)
            have fl := hbl3.froz ix
            have hb3 := hbl3.set ix (.int .i64 (Sa.nm s o m : Int))
            rw [← natsC_set] at hb3
            have HB3 := Lib.hid hb3
            clear hb3 hbl3 vl fl
            have vl := hbl.cell (natsC_at HY.out)
            have fl := hbl.froz ix
            clear HSM
            cases hsb : Sa.sameB s u v with
            | true =>
              have HN3 : Hid (Sa.nm s o m = Sa.nm s o (m - 1)) := Lib.hid (by rw [HNS.out, hsb]; rfl)
              rw [HN3.out] at HB3
              clear hsb HNS
              generalize Sa.nm s o (m - 1) = k0 at *
              go_wp2
              go_roundw
              case rel => exact ⟨m + 1, _, by go_num, by omega, by rw [← HN3.out]; rfl, HLL2, HLN2, by rw [HN3.out]; exact HB3.out, Below.setCell (hbe2.trans ((drawn_below wr q3).mono (Nat.le_of_lt hbl.lt))) (Nat.le_refl _) _⟩
              case measure => first | (simp [intOf]; done) | (simp [intOf]; omega)
            | false =>
              have HN3 : Hid (Sa.nm s o m = Sa.nm s o (m - 1) + 1) := Lib.hid (by rw [HNS.out, hsb]; rfl)
              rw [HN3.out] at HB3
              rw [show ((Sa.nm s o (m - 1) + 1 : Nat) : Int) = (Sa.nm s o (m - 1) : Int) + 1 by omega] at HB3
              clear hsb HNS
              generalize Sa.nm s o (m - 1) = k0 at *
              go_wp2
              go_roundw
              case rel => exact ⟨m + 1, _, by go_num, by omega, by rw [show m + 1 - 1 = m by omega, HN3.out]; go_num, HLL2, HLN2, by rw [HN3.out]; exact HB3.out, Below.setCell (hbe2.trans ((drawn_below wr q3).mono (Nat.le_of_lt hbl.lt))) (Nat.le_refl _) _⟩
              case measure => first | (simp [intOf]; done) | (simp [intOf]; omega)
        · obtain rfl : m = o.length := by omega
          have hmi2 : ¬ (o.length : Int) < (o.length : Int) := by omega
          have hnm1 := Sa.nm_le s o (o.length - 1)
          go_wp2
          go_ret2
          refine ⟨G, l, o, ?_, hbl, hlw, hbw2, by rw [HLL.out, HOL.out], HORD.out, fun i v hv => HLN.out i v ((List.getElem?_eq_some_iff.1 hv).1) hv⟩
          rw [← HOL.out]
          rfl
end Go.Proofs.Ytfiioobdknbacaa
