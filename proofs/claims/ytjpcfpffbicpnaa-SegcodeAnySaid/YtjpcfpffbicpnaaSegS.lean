/- The walk of segment.Search. -/
import Derived.Test.YtjpcfpffbicpnaaSegN
import Derived.Test.YtjpcfpffbicpnaaSegP
import Derived.Test.YtjpcfpffbicpnaaBndWhere
import Derived.Test.YtjpcfpffbicpnaaFmF
set_option linter.unusedVariables false
set_option linter.unusedSimpArgs false
namespace Go.Proofs.Ytjpcfpffbicpnaa
open Go.RowKit Lec
theorem SegN.ext {w w' : World} {p : Nat} {ds : List Doc} {lo B : Nat} (h : SegN w p ds lo) (hb : Below B w w') (hB : w.heap.size ≤ B) : SegN w' p ds lo := by
  obtain ⟨ix, A, c, bp, D, b, h1, h2, h3, h4, h5, h6, h7⟩ := h
  refine ⟨ix, A, c, bp, D, b, h1.ext hb hB, h2, h3.ext hb hB, ?_, h5.ext hb hB, h6, h7⟩
  obtain ⟨A', c', k1, k2, k3, k4, k5⟩ := h4
  exact ⟨A', c', cell_ext hb hB k1, k2, k3.ext hb hB, k4, k5⟩
theorem SegN.grown {w w' : World} {p : Nat} {ds : List Doc} {lo : Nat} {row : Option Nat} (h : SegN w p ds lo) (hg : w.grownBy w' row) (hr : ∀ k, row = some k → k < lo) : SegN w' p ds lo := by
  obtain ⟨ix, A, c, bp, D, b, h1, h2, h3, h4, h5, h6, h7⟩ := h
  exact ⟨ix, A, c, bp, D, b, h1.grown hg (fun e => by have := hr _ e; omega), h2, h3.grown hg hr, h4.grown hg hr, rds_grown h5 hg (fun a ha e => by have := hr _ e.symm; have := h6 a ha; omega), h6, h7⟩
theorem lens_ok {ds : List Doc} (h : Sg.chkD ds = 0) : okI (Sg.lensD ds) := by
  have h1 := (chk_none h).1
  have h2 := (chk_none h).2
  refine ⟨fun y hy => ?_, by rw [Sg.lensD_len]; exact h1, by rw [Sg.lensD_len, ← Sg.symD_length]; have := symLen ds; omega⟩
  unfold Sg.lensD at hy
  obtain ⟨d, _, rfl⟩ := List.mem_map.1 hy
  omega
theorem info_hit : (Try.prog.info? 56).map (fun i => (i.zero, i.size, i.bytes)) = some (some (.agg #[.string ⟨#[]⟩, .int .i64 0]), 2, 24) := by kernel_rfl
theorem ints_map (l : List Nat) : (l.map Int.ofNat).map Int.toNat = l := by rw [List.map_map]; exact (List.map_congr_left (fun z _ => rfl)).trans (List.map_id _)
theorem search_find (ds : List Doc) (p : ByteArray) (h : ¬ 4096 < p.size) : (Fm.findE 257 (Sg.symD ds) ((Sg.bytesN p).map Int.ofNat)).map (Sg.whereH ds) = Sg.searchH ds p ∧ Fm.wrongE 257 ((Sg.bytesN p).map Int.ofNat) = Sg.asksP p := by
  have hw : Fm.wrongE 257 ((Sg.bytesN p).map Int.ofNat) = Sg.asksP p := by
    unfold Fm.wrongE Sg.asksP
    rw [if_neg h]
    by_cases h0 : p.size = 0
    · have : Sg.bytesN p = [] := List.eq_nil_of_length_eq_zero (by rw [Sg.bytesN_len, h0])
      rw [if_pos h0, this]; rfl
    · have hne : Sg.bytesN p ≠ [] := fun e => h0 (by rw [← Sg.bytesN_len, e]; rfl)
      rw [if_neg h0, if_neg (by simpa using hne), if_pos ((Fm.patB_iff 257 _).2 fun y hy => by
        obtain ⟨z, hz, rfl⟩ := List.mem_map.1 hy
        have := Sg.bytesN_lt p z hz
        exact ⟨by simp, by simp; omega⟩)]
  refine ⟨?_, hw⟩
  unfold Fm.findE Sg.searchH
  rw [hw, ints_map]
  split <;> rfl
def SearchPost (w : World) (ds : List Doc) (p : ByteArray) (e : Ending) (w' : World) : Prop :=
  ∃ v, e = .returned (.tuple #[v, .int .i64 (Sg.asksP p : Int)]) ∧ w'.ownsRow w.heap.size 56 2 v (Sg.searchH ds p).length (hitsC (Sg.searchH ds p)) ∧ Below w.heap.size w w'
set_option maxRecDepth 100000 in
set_option maxHeartbeats 4000000 in
theorem Search_any (w : World) (x : Nat) (ds : List Doc) (lo : Nat) (h0 : Sg.chkD ds = 0) (h : SegN w x ds lo) (p : ByteArray) (hp : p.size ≤ 1000000) :
    Calls Try.prog 22 #[.pointer (some ⟨x, 0, none⟩), .string p] w (SearchPost w ds p) := by
  have HSG : Hid (∀ w', Below w.heap.size w w' → SegN w' x ds lo) := Lib.hid fun w' hb => h.ext hb (Nat.le_refl _)
  have HOK := Lib.hid (lens_ok h0)
  have h64 := (chk_none h0).1
  obtain ⟨ix, AN, cN, bp, D, b, h1, hfc, h3, h4, h5, h6, h7⟩ := h
  have HFC := Lib.hid hfc
  have HFM := Lib.hid h3
  have HBN := Lib.hid h4
  have HRN := Lib.hid h5
  have HBK := Lib.hid h1
  have HSL : Hid ((Sg.symD ds).length ≤ 131072) := hfc.len
  clear h1 h3 h4 h5 h6 h7 hfc
  go_enter Try.func22, Try.ntmps22
  by_cases hl : 4096 < p.size
  · have hli : (4096 : Int) < (p.size : Int) := by omega
    have HA : Hid (Sg.asksP p = 2) := by show _ = _; unfold Sg.asksP; rw [if_pos hl]
    have HS : Hid (Sg.searchH ds p = []) := Sg.search_no (by rw [HA.out]; omega)
    go_wp2
    go_ret2
    exact ⟨_, by rw [HA.out]; rfl, by rw [HS.out]; exact World.ownsRow_nil _ _ _ _, Below.refl _ _⟩
  · have hli : ¬ (4096 : Int) < (p.size : Int) := by omega
    have HFE : Hid ((Fm.findE 257 (Sg.symD ds) ((Sg.bytesN p).map Int.ofNat)).map (Sg.whereH ds) = Sg.searchH ds p ∧ Fm.wrongE 257 ((Sg.bytesN p).map Int.ofNat) = Sg.asksP p) := Lib.hid (search_find ds p hl)
    have HFL : Hid (∀ v ∈ Fm.findE 257 (Sg.symD ds) ((Sg.bytesN p).map Int.ofNat), v < (Sg.symD ds).length) := Lib.hid fun v hv => by
      unfold Fm.findE at hv
      split at hv
      · exact Sg.find_lt hv
      · simp at hv
    have HFN : Hid ((Fm.findE 257 (Sg.symD ds) ((Sg.bytesN p).map Int.ofNat)).length ≤ 131072) := Lib.hid (by
      unfold Fm.findE
      split
      · unfold Fm.findS
        have := List.length_filter_le (Fm.inP (Sg.symD ds) (((Sg.bytesN p).map Int.ofNat).map Int.toNat)) (List.range (Sg.symD ds).length)
        rw [List.length_range] at this
        have := HSL.out
        omega
      · simp)
    go_upto_region 3 with (fail)
    have HSY := Lib.hid (fun w' => symbols_any w' p hp)
    have HFI : Hid (∀ w', Below w.heap.size w w' → ∀ A c, Rds w' A (natsC (Sg.bytesN p)) → Calls Try.prog 33 #[.pointer (some ⟨ix, 0, none⟩), .slice A (Sg.bytesN p).length c] w' (FindPost w' 257 (Sg.symD ds) ((Sg.bytesN p).map Int.ofNat))) := Lib.hid fun w' hb A c hr => by
      have h := Find_any HFC.out (HFM.out.ext hb (Nat.le_refl _)) A c ((Sg.bytesN p).map Int.ofNat) (by rw [List.length_map, Sg.bytesN_len]; exact hp) (by unfold intsV; rw [List.map_map]; exact hr)
      rwa [List.length_map] at h
    have c0 := HBK.out.cell (o := 0) rfl
    have HB0 : Hid (Below w.heap.size w w.drew) := Lib.hid (below_drewA (Below.refl _ _))
    go_region_held3 (fun w' => w'.cell? ⟨x, 0, none⟩ = some (.pointer (some ⟨ix, 0, none⟩)))
      (first | (with_reducible exact c0) | (with_reducible exact c1) | (with_reducible exact c2) | go_keep)
      (first | (go_at_call 48
                (with_reducible refine (HSY.out _).mono ?_)
                rintro e w1 ⟨v1, rfl, hown1, hb1⟩
                obtain ⟨A1, k1, rfl, _, _, _, r1, _⟩ := own_rds hown1
                have HB1 : Hid (Below w.heap.size w w1) := Lib.hid (HB0.out.trans hb1)
                have HR1 := Lib.hid r1
                have c1 := cell_ext HB1.out (Nat.le_refl _) c0
                clear hown1 hb1 r1)
             | (go_at_call 33
                (with_reducible refine (HFI.out _ HB1.out _ _ HR1.out).mono ?_)
                rintro e w2 ⟨v2, rfl, hown2, hb2⟩
                obtain ⟨A2, k2, rfl, _, _, _, r2, _⟩ := own_rds hown2
                have HB2 : Hid (Below w.heap.size w w2) := Lib.hid (HB1.out.trans (hb2.mono HB1.out.size))
                have HR2 := Lib.hid r2
                have c2 := cell_ext HB2.out (Nat.le_refl _) c0
                clear hown2 hb2 r2))
    obtain ⟨HFE, HWE⟩ : Hid _ ∧ Hid _ := ⟨Lib.hid HFE.out.1, Lib.hid HFE.out.2⟩
    rw [HWE.out]
    generalize Fm.findE 257 (Sg.symD ds) ((Sg.bytesN p).map Int.ofNat) = F at *
    clear HSY HFI c0 HB0 HB1 HR1 c1 HFC HFM HSL HWE c2
    have hfn := HFN.out
    go_wp2
    go_loopw [4, 27] (fun v i wx => ∃ k : Nat, k ≤ F.length ∧ i = .int .i64 (k : Int) ∧ Hid (wx.ownsRow w2.heap.size 56 2 v k (hitsC ((F.take k).map (Sg.whereH ds)))) ∧ Hid (Below w2.heap.size w2 wx)) (fun _ i _ => F.length - (intOf i).toNat)
    case atStart => exact ⟨0, by omega, rfl, World.ownsRow_nil _ _ _ _, Lib.hid (Below.refl _ _)⟩
    case round =>
      obtain ⟨k, hk, rfl, HO, HB⟩ := hrel
      by_cases h8 : k < F.length
      · have h8i : (k : Int) < (F.length : Int) := by omega
        obtain ⟨v, rfl⟩ : ∃ z, z = u4 := ⟨_, rfl⟩
        obtain ⟨a2, rfl, cp⟩ := (HR2.out.ext HB.out (Nat.le_refl _)) k _ (natsC_at (List.getElem?_eq_getElem h8))
        have HWB : Hid (Below w.heap.size w wr) := Lib.hid (HB2.out.trans (HB.out.mono HB2.out.size))
        have HSK := Lib.hid (HBK.out.ext HWB.out (Nat.le_refl _))
        have c1 := HSK.out.cell (o := 1) rfl
        have c2 := HSK.out.cell (o := 2) rfl
        obtain ⟨hi1, hi2, hi3, hi4⟩ := Sg.where_at ds F[k] (HFL.out _ (List.getElem_mem h8))
        have HTK : Hid ((F.take (k + 1)).map (Sg.whereH ds) = (F.take k).map (Sg.whereH ds) ++ [(Sg.idAt ds (Sg.whereD ds F[k]).1, (Sg.whereD ds F[k]).2)]) := Lib.hid (by
          rw [List.take_succ_eq_append_getElem h8, List.map_append]; rfl)
        have HID : Hid (ds[(Sg.whereD ds F[k]).1].id = Sg.idAt ds (Sg.whereD ds F[k]).1) := Lib.hid (by unfold Sg.idAt; rw [List.getElem?_eq_getElem hi1])
        have HWH := Lib.hid (bWhere_any wr bp (Sg.lensD ds) HOK.out (F[k] : Nat) (Sg.whereD ds F[k]).1 (by rw [Sg.lensD_len]; exact hi1) hi2 hi3 (by rw [Sg.lensD_len]; exact (HBN.out.bnd.ext HWB.out (Nat.le_refl _))))
        rw [← hi4] at HWH
        obtain ⟨aN, rfl, cN'⟩ := (HRN.out.ext HWB.out (Nat.le_refl _)) (Sg.whereD ds F[k]).1 (.string ds[(Sg.whereD ds F[k]).1].id) (by rw [List.getElem?_map, List.getElem?_eq_getElem hi1]; rfl)
        rw [HID.out] at cN'
        generalize Sg.idAt ds (Sg.whereD ds F[k]).1 = id at *
        generalize (Sg.whereD ds F[k]).1 = di at *
        generalize (Sg.whereD ds F[k]).2 = at2 at *
        generalize F[k] = pl at *
        have hdi : (di : Int) < (ds.length : Int) := by omega
        clear hi2 hi3 hi4 HID
        have hk1 : k ≤ 131072 := by omega
        go_wp2_with fail
        refine HWH.out.mono ?_
        rintro e w3 ⟨rfl, hb3⟩
        have HB3 : Hid (Below w2.heap.size w2 w3) := Lib.hid (HB.out.trans (hb3.mono HB.out.size))
        have HWB3 : Hid (Below w.heap.size w w3) := Lib.hid (HB2.out.trans (HB3.out.mono HB2.out.size))
        have HO3 := Lib.hid (own_ext HO.out hb3 (Nat.le_refl _))
        have hs3 := HB3.out.size
        clear c2 cp
        have d1 := cell_ext hb3 (Nat.le_refl _) c1
        have dN := cell_ext hb3 (Nat.le_refl _) cN'
        clear hb3 c1 cN'
        go_wp2_with (at_builtin; refine wp_app1 (w0 := w3) rfl rfl _ _ 45 rfl w2.heap.size 56 (.agg #[.string ⟨#[]⟩, .int .i64 0]) 2 24 Try.underlying45 info_hit rfl (by decide) (by decide) _ k _ rfl HO3.out rfl rfl (by intro u hu; simp at hu; rcases hu with rfl | rfl <;> rfl) (by omega) hs3 ?_; intro v' w4 hown hg1 hb1)
        go_roundw
        case rel =>
          refine ⟨k + 1, by omega, by go_num, ?_, Lib.hid (HB3.out.trans hb1)⟩
          show World.ownsRow _ _ _ _ _ _ _
          rw [HTK.out, hitsC_app]; exact hown
        case measure => simp [intOf]; omega
      · obtain rfl : k = F.length := by omega
        have h8i : ¬ (F.length : Int) < (F.length : Int) := by omega
        obtain ⟨v, rfl⟩ : ∃ z, z = u4 := ⟨_, rfl⟩
        have HE : Hid (((F.take F.length).map (Sg.whereH ds)) = Sg.searchH ds p) := Lib.hid (by rw [List.take_length]; exact HFE.out)
        have HL : Hid (F.length = (Sg.searchH ds p).length) := Lib.hid (by rw [← HFE.out, List.length_map])
        go_wp2
        go_ret2
        refine ⟨_, rfl, ?_, HB2.out.trans (HB.out.mono HB2.out.size)⟩
        rw [← HE.out]
        have := HO.out
        rw [HE.out]
        rw [HE.out, HL.out] at this
        exact own_lower this HB2.out.size
end Go.Proofs.Ytjpcfpffbicpnaa
