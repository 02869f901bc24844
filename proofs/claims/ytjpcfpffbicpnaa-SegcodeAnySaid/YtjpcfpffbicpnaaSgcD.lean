/- The walk of segcode.Decode. -/
import Derived.Test.YtjpcfpffbicpnaaSgcW
set_option linter.unusedVariables false
set_option linter.unusedSimpArgs false
namespace Go.Proofs.Ytjpcfpffbicpnaa
open Go.RowKit Lec
theorem pairs_sz : ∀ (l : List ByteArray), (∀ s ∈ l, s.size ≤ 1000000) → ∀ d ∈ pairsD l, d.id.size ≤ 1000000000 ∧ d.text.size ≤ 1000000000
  | [], _ => fun d h => by cases h
  | [_], _ => fun d h => by cases h
  | a :: b :: l, hs => fun d h => by
    rw [pairsD] at h
    rcases List.mem_cons.1 h with rfl | h
    · have h1 := hs a (by simp)
      have h2 := hs b (by simp)
      dsimp only
      omega
    · exact pairs_sz l (fun s h => hs s (by simp [h])) d h
theorem size_pairs : ∀ (l : List ByteArray), Sg.sizeD (pairsD l) ≤ (textsB l).length
  | [] => Nat.le_refl _
  | [_] => Nat.zero_le _
  | a :: b :: l => by
    have h1 := size_pairs l
    rw [pairsD, show textsB (a :: b :: l) = textB a ++ (textB b ++ textsB l) from by simp [textsB], List.length_append, List.length_append, textB_len, textB_len]
    simp only [Sg.sizeD, List.map_cons, List.sum_cons] at h1 ⊢
    omega
def DecPost (w : World) (bs : List UInt8) (e : Ending) (w' : World) : Prop := Below w.heap.size w w' ∧
  ((decD bs = none ∧ e = .returned (.tuple #[.pointer none, .int .i64 1])) ∨ (∃ ds x lo, decD bs = some ds ∧ e = .returned (.tuple #[.pointer (some ⟨x, 0, none⟩), .int .i64 0]) ∧ SegN w' x ds lo))
set_option maxRecDepth 100000 in
set_option maxHeartbeats 4000000 in
theorem Decode_any (w : World) (A : Option Addr) (n c : Nat) (bs : List UInt8) (hn : bs.length = n) (hnc : n ≤ c) (hm : n ≤ 1000000) (hr : Rds w A (bytesV bs)) :
    Calls Try.prog 10 #[.slice A n c] w (DecPost w bs) := by
  have HR := Lib.hid hr
  have HN := Lib.hid hn
  clear hr hn
  go_enter Try.func10, Try.ntmps10
  by_cases h4 : n < 4
  · have h4i : (n : Int) < 4 := by omega
    have HD : Hid (decD bs = none) := Lib.hid (lay_none_dec (by rw [HN.out]; exact h4))
    go_wp2
    go_ret2
    exact ⟨Below.refl _ _, .inl ⟨HD.out, rfl⟩⟩
  · have h4i : ¬ (n : Int) < 4 := by omega
    obtain ⟨m, rfl⟩ : ∃ m, n = m + 4 := ⟨n - 4, by omega⟩
    have hc0 : ¬ c = 0 := by omega
    have hmi : ((m + 4 : Nat) : Int) - 4 = (m : Int) := by omega
    have h0m : ¬ (m : Int) < 0 := by omega
    have hmc : (m : Int) ≤ (c : Int) := by omega
    have HT : Hid (bs.take (bs.length - 4) = bs.take m) := Lib.hid (by rw [HN.out]; rfl)
    have HG := Lib.hid (Get_any w A m c (bs.take m) (by rw [List.length_take, HN.out]; omega) (by omega) (by omega) (by have := HR.out.take m; rwa [← List.map_take] at this))
    go_upto_region 3 with (fail)
    go_wp2_with fail
    refine HG.out.mono ?_
    rintro e w1 ⟨hb1, ⟨hno, rfl⟩ | ⟨l, v, hl, rfl, hown1⟩⟩
    · have HB1 := Lib.hid hb1
      have HD : Hid (decD bs = none) := Lib.hid (get_none_dec (by rw [HN.out]; omega) (by rw [HT.out]; exact hno))
      clear hno hb1
      go_wp2
      go_ret2
      exact ⟨HB1.out, .inl ⟨HD.out, rfl⟩⟩
    · have HDE := Lib.hid (get_some_dec (bs := bs) (l := l) (by rw [HN.out]; omega) (by rw [HT.out]; exact hl))
      have HSZ : Hid (l.length ≤ 1000000 ∧ ∀ s ∈ l, s.size ≤ 1000000) := Lib.hid (by
        have h1 := getL_split hl
        have h2 : (bs.take m).length ≤ 1000000 := by rw [List.length_take, HN.out]; omega
        have h3 := lens_le l
        rw [← h1] at h3
        exact ⟨by omega, fun s hs => by have := h3.2 s hs; omega⟩)
      have HTB : Hid ((textsB l).length ≤ 1000000) := Lib.hid (by
        have h1 := congrArg List.length (getL_split hl)
        have h2 : (bs.take m).length ≤ 1000000 := by rw [List.length_take, HN.out]; omega
        rw [putB, List.length_append] at h1
        omega)
      obtain ⟨A1, c1, rfl, _, _, _, r1, _⟩ := own_rds hown1
      have HR1 := Lib.hid r1
      have HB1 := Lib.hid hb1
      have HO1 := Lib.hid hown1
      have hll := HSZ.out.1
      clear hl hown1 hb1 r1 HG h4 h4i hmi h0m hmc
      by_cases hp : l.length % 2 = 0
      · have hpi : (l.length : Int) % 2 = 0 := by omega
        obtain ⟨K, hK⟩ : ∃ K, l.length = K * 2 := ⟨l.length / 2, by omega⟩
        have HKL := Lib.hid hK
        have HPL : Hid ((pairsD l).length = K) := Lib.hid (by rw [pairs_len, hK]; omega)
        have HPT : Hid (∀ k, k < K → ∃ a b, l[k * 2]? = some a ∧ l[k * 2 + 1]? = some b ∧ (pairsD l).take (k + 1) = (pairsD l).take k ++ [⟨a, b⟩]) := Lib.hid fun k hk => pairs_take l k (by omega)
        have HPS : Hid (∀ d ∈ pairsD l, d.id.size ≤ 1000000000 ∧ d.text.size ≤ 1000000000) := Lib.hid (pairs_sz l HSZ.out.2)
        have HSD : Hid (Sg.sizeD (pairsD l) ≤ 1000000) := Lib.hid (Nat.le_trans (size_pairs l) HTB.out)
        have HDP := Lib.hid (fun (h2 : layB (pairsD l) = some bs) (h3 : Sg.chkD (pairsD l) = 0) => HDE.out.trans (if_pos ⟨hp, h2, h3⟩))
        have HDN := Lib.hid (fun (h2 : ¬ (layB (pairsD l) = some bs ∧ Sg.chkD (pairsD l) = 0)) => HDE.out.trans (if_neg (fun (h : l.length % 2 = 0 ∧ layB (pairsD l) = some bs ∧ Sg.chkD (pairsD l) = 0) => h2 h.2)))
        generalize pairsD l = ds at *
        clear hp
        have hkk : K ≤ 500000 := by omega
        generalize l.length = L2 at *
        have HK2 := Lib.hid hK
        clear hK
        go_wp2
        go_loopw [6, 7] (fun v i wx => ∃ k p : Nat, k ≤ K ∧ Hid (p = k * 2) ∧ i = .int .i64 (p : Int) ∧ Hid (wx.ownsRow w1.heap.size 52 2 v k (docsC (ds.take k))) ∧ Hid (Below w1.heap.size w1 wx)) (fun _ i _ => L2 - (intOf i).toNat)
        case atStart => exact ⟨0, 0, by omega, Lib.hid rfl, rfl, World.ownsRow_nil _ _ _ _, Lib.hid (Below.refl _ _)⟩
        case round =>
          obtain ⟨k, p, hk, HP, rfl, HO, HB⟩ := hrel
          by_cases h8 : k < K
          · have h8i : (p : Int) < (L2 : Int) := by have := HP.out; have := HK2.out; omega
            have n2 : (p : Int) + 1 < (L2 : Int) := by have := HP.out; have := HK2.out; omega
            obtain ⟨sa, sb', hsa, hsb, htk⟩ := HPT.out k h8
            have HTK := Lib.hid htk
            have HRW := Lib.hid (HR1.out.ext HB.out (Nat.le_refl _))
            obtain ⟨a, rfl, hc1⟩ := HRW.out (k * 2) (.string sa) (by rw [List.getElem?_map, hsa]; rfl)
            obtain ⟨a', e', hc2⟩ := HRW.out (k * 2 + 1) (.string sb') (by rw [List.getElem?_map, hsb]; rfl)
            obtain rfl := Option.some.inj e'
            rw [← HP.out] at hc1 hc2
            have hc3 : wr.cell? ⟨a.block, a.off + (p + 1), none⟩ = some (.string sb') := by rw [← hc2]; unfold Addr.add; rw [if_neg (by omega)]
            obtain ⟨v, rfl⟩ : ∃ z, z = u6 := ⟨_, rfl⟩
            have hpm : p ≤ 1000000 := by omega
            clear hsa hsb htk hc2
            go_upto_region 10 with (fail)
            have n0 : (0 : Int) ≤ (p : Int) := by omega
            have n1 : (0 : Int) ≤ (p : Int) + 1 := by omega
            have n3 : ((p : Int) + 1).toNat = p + 1 := by omega
            have v1 : IntKind.i64.wrap ((p : Int) + 1) = (p : Int) + 1 := wrap_idB (by omega)
            have HBD : Hid (Below wr.heap.size wr (wr.drew.alloc (.cells #[.string sa, .string sb'] 52))) := Lib.hid ((below_drewA (Below.refl wr.heap.size wr)).alloc (Nat.le_refl _) _)
            have HOD := Lib.hid (own_ext HO.out HBD.out (Nat.le_refl _))
            have HRD : Hid (Rds (wr.drew.alloc (.cells #[.string sa, .string sb'] 52)) (some ⟨wr.heap.size, 0, none⟩) [.string sa, .string sb']) := Lib.hid (rds_litN wr.drew #[.string sa, .string sb'] 52)
            have hs7 : w1.heap.size ≤ (wr.drew.alloc (.cells #[.string sa, .string sb'] 52)).heap.size := Nat.le_trans HB.out.size HBD.out.size
            have HLT : Hid (∀ g, v.ownBlock = some g → w1.heap.size ≤ g) := Lib.hid fun g h => (HO.out.lt g h).1
            have HBY : Hid ((k + 1) * 32 ≤ 140737488355328) := Lib.hid (by show _ ≤ _; omega)
            go_region_law
              (first | (refine app_opN rfl _ _ 32 rfl w1.heap.size 52 (.agg #[.string ⟨#[]⟩, .string ⟨#[]⟩]) 2 32 Try.underlying32 info_doc rfl (by decide) (by decide) _ k _ rfl HOD.out ⟨wr.heap.size, 0, none⟩ 1 1 [.string sa, .string sb'] rfl rfl HRD.out (by intro u hu; simp at hu; rcases hu with rfl | rfl <;> rfl) HBY.out hs7 ?_
                        intro v7 w7 hown7 hg7))
            all_goals
              have HB7 : Hid (Below w1.heap.size w1 w7) := Lib.hid ((HB.out.trans (HBD.out.mono HB.out.size)).grown (row := v.ownBlock) hg7 hs7 HLT.out)
              have HO7 : Hid (w7.ownsRow w1.heap.size 52 2 v7 (k + 1) (docsC (ds.take (k + 1)))) := Lib.hid (by rw [HTK.out, docsC_app]; exact hown7)
              clear hown7 hg7 hs7 v1 n1 n3 n0 hc1 hc3
              go_wp2
              go_roundw
              case rel => exact ⟨k + 1, by omega, p + 2, Lib.hid (by have := HP.out; omega), by first | omega | go_num, HO7⟩
              case measure => first | (simp [intOf]; done) | (simp [intOf]; omega)
          · have h8i : ¬ (p : Int) < (L2 : Int) := by have := HP.out; have := HK2.out; omega
            obtain rfl : k = K := by omega
            rw [List.take_of_length_le (by rw [HPL.out]; exact Nat.le_refl _)] at HO
            obtain ⟨v, rfl⟩ : ∃ z, z = u6 := ⟨_, rfl⟩
            obtain ⟨Ad, cd, rfl, _, _, _, rd, _⟩ := own_rds HO.out
            have HBW : Hid (Below w.heap.size w wr) := Lib.hid (HB1.out.trans (HB.out.mono HB1.out.size))
            have HRD : Hid (∀ w', Below wr.heap.size wr w' → Rds w' Ad (docsC ds)) := Lib.hid fun w' h => rd.ext h (Nat.le_refl _)
            have HLY := Lib.hid (lay_any wr Ad cd ds (by rw [HPL.out]; omega) HPS.out rd)
            have hSZD : Sg.sizeD ds ≤ 1000000000 := Nat.le_trans HSD.out (by decide)
            have HNW : Hid (∀ w', Below wr.heap.size wr w' → Calls Try.prog 26 #[.slice Ad k cd] w' (NewSPost w' ds)) := Lib.hid fun w' h => NewS_any w' Ad cd k ds HPL.out (by omega) hSZD (HRD.out w' h)
            rw [HPL.out] at HLY
            clear rd HO hSZD
            go_wp2_with fail
            refine HLY.out.mono ?_
            rintro e w2 ⟨hb2, ⟨hno, rfl⟩ | ⟨b2, v2, hl2, rfl, hown2⟩⟩
            · have HB2 : Hid (Below wr.heap.size wr w2) := Lib.hid hb2
              have HD : Hid (decD bs = none) := Lib.hid (HDN.out (fun h => by rw [hno] at h; cases h.1))
              have HEQ := Lib.hid (bytesEqual_any w2 none 0 0 [] rfl (Rds.nil _ _) A (m + 4) c bs HN.out ((HR.out.ext HBW.out (Nat.le_refl _)).ext hb2 (Nat.le_refl _)))
              rw [decide_eq_false (fun h => by have := HN.out; rw [← h] at this; simp at this)] at HEQ
              clear hno hb2
              go_wp2_with fail
              refine HEQ.out.mono ?_
              rintro e w3 ⟨rfl, rfl⟩
              go_wp2
              go_ret2
              exact ⟨HBW.out.trans (HB2.out.mono HBW.out.size), .inl ⟨HD.out, rfl⟩⟩
            · have HB2 : Hid (Below wr.heap.size wr w2) := Lib.hid hb2
              obtain ⟨A3, c3, rfl, _, _, _, r3, _⟩ := own_rds hown2
              have HL2 := Lib.hid hl2
              have HEQ := Lib.hid (bytesEqual_any w2 A3 b2.length c3 b2 rfl r3 A (m + 4) c bs HN.out ((HR.out.ext HBW.out (Nat.le_refl _)).ext hb2 (Nat.le_refl _)))
              clear hb2 hown2 r3 hl2
              by_cases hbb : b2 = bs
              · rw [decide_eq_true hbb] at HEQ
                have HLB : Hid (layB ds = some bs) := Lib.hid (by rw [← hbb]; exact HL2.out)
                clear hbb HL2
                go_wp2_with fail
                refine HEQ.out.mono ?_
                rintro e w3 ⟨rfl, rfl⟩
                go_wp2_with fail
                refine (HNW.out _ HB2.out).mono ?_
                rintro e w4 ⟨hb4, ⟨hno, rfl⟩ | ⟨hok, x, rfl, hx⟩⟩
                · have HB4 : Hid (Below w.heap.size w w4) := Lib.hid ((HBW.out.trans (HB2.out.mono HBW.out.size)).trans (hb4.mono (HBW.out.trans (HB2.out.mono HBW.out.size)).size))
                  have HD : Hid (decD bs = none) := Lib.hid (HDN.out (fun h => hno h.2))
                  generalize Sg.chkD ds = ck at *
                  have hni : ((ck : Int) != 0) = true := by rw [bne_iff_ne]; omega
                  clear hb4 hno
                  go_wp2
                  go_ret2
                  exact ⟨HB4.out, .inl ⟨HD.out, rfl⟩⟩
                · have HB4 : Hid (Below w.heap.size w w4) := Lib.hid ((HBW.out.trans (HB2.out.mono HBW.out.size)).trans (hb4.mono (HBW.out.trans (HB2.out.mono HBW.out.size)).size))
                  have HD : Hid (decD bs = some ds) := Lib.hid (HDP.out HLB.out hok)
                  have HX := Lib.hid hx
                  clear hb4 hok hx
                  go_wp2
                  go_ret2
                  exact ⟨HB4.out, .inr ⟨ds, x, _, HD.out, rfl, HX.out⟩⟩
              · rw [decide_eq_false hbb] at HEQ
                have HD : Hid (decD bs = none) := Lib.hid (HDN.out (fun h => hbb (by have := h.1; rw [HL2.out] at this; exact Option.some.inj this)))
                clear hbb
                go_wp2_with fail
                refine HEQ.out.mono ?_
                rintro e w3 ⟨rfl, rfl⟩
                go_wp2
                go_ret2
                exact ⟨HBW.out.trans (HB2.out.mono HBW.out.size), .inl ⟨HD.out, rfl⟩⟩
      · have hpi : (l.length : Int) % 2 = 1 := by omega
        have HD : Hid (decD bs = none) := Lib.hid (HDE.out.trans (if_neg (fun h => hp h.1)))
        go_wp2
        go_ret2
        exact ⟨HB1.out, .inl ⟨HD.out, rfl⟩⟩
end Go.Proofs.Ytjpcfpffbicpnaa
