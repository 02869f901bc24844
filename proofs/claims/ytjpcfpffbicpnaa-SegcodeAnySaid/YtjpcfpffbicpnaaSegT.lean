/- The walks of a segment's text, Docs, Size. -/
import Derived.Test.YtjpcfpffbicpnaaSegS
import Derived.Test.YtjpcfpffbicpnaaFmT
import Derived.Test.YtjpcfpffbicpnaaBldW
import Derived.Test.YtjpcfpffbicpnaaHelpD
set_option linter.unusedVariables false
set_option linter.unusedSimpArgs false
namespace Lec.Sg
theorem startI_take (ds : List Doc) (i : Nat) (h : i ≤ ds.length) : startI (lensD ds) i = ((symD (ds.take i)).length : Int) := by
  rw [symD_length]
  have h1 : (ds.take i).length = i := by rw [List.length_take, Nat.min_eq_left h]
  rw [h1]
  unfold startI lensD
  simp only [← List.map_take, List.take_take, Nat.min_self]
theorem sym_split {ds : List Doc} {i : Nat} (h : i < ds.length) : symD ds = symD (ds.take i) ++ (bytesN ds[i].text ++ 0 :: symD (ds.drop (i + 1))) := by
  conv => lhs; rw [← List.take_append_drop i ds, List.drop_eq_getElem_cons h]
  rw [symD_app, symD_cons]
theorem sym_text {ds : List Doc} {i : Nat} (h : i < ds.length) : ((symD ds).drop (symD (ds.take i)).length).take ds[i].text.size = bytesN ds[i].text := by
  rw [sym_split h, List.drop_left, ← bytesN_len, List.take_left]
theorem sym_le {ds : List Doc} {i : Nat} (h : i < ds.length) : (symD (ds.take i)).length + ds[i].text.size ≤ (symD ds).length := by
  conv => rhs; rw [sym_split h]
  rw [List.length_append, List.length_append, bytesN_len]
  omega
end Lec.Sg
namespace Go.Proofs.Ytjpcfpffbicpnaa
open Go.RowKit Lec
set_option maxRecDepth 100000 in
set_option maxHeartbeats 1000000 in
theorem text_any (w : World) (x : Nat) (ds : List Doc) (lo : Nat) (h0 : Sg.chkD ds = 0) (h : SegN w x ds lo) (i : Nat) (hi : i < ds.length) :
    Calls Try.prog 45 #[.pointer (some ⟨x, 0, none⟩), .int .i64 (i : Int)] w fun e w' => e = .returned (.string ds[i].text) ∧ Below w.heap.size w w' := by
  have hok := lens_ok h0
  have h64 := (chk_none h0).1
  have hss := Sg.sym_le hi
  have hsl := symLen ds
  have hz := (chk_none h0).2
  obtain ⟨ix, AN, cN, bp, D, b, h1, hfc, h3, h4, h5, h6, h7⟩ := h
  obtain ⟨f, hf⟩ : ∃ f, f = (Sg.symD (ds.take i)).length := ⟨_, rfl⟩
  have hsi : startI (Sg.lensD ds) i = (f : Int) := by rw [hf]; exact Sg.startI_take ds i (by omega)
  have hsj : startI (Sg.lensD ds) (i + 1) = (f : Int) + (ds[i].text.size : Int) + 1 := by
    rw [startI_step (by rw [Sg.lensD_len]; exact hi), hsi]
    simp [Sg.lensD]; omega
  rw [← hf] at hss
  have HTN : Hid (∀ w', Below w.heap.size w w' → Calls Try.prog 29 #[.pointer (some ⟨ix, 0, none⟩), .int .i64 (f : Int), .int .i64 (ds[i].text.size : Int)] w' fun e w'' =>
      ∃ A c, e = .returned (.tuple #[.slice A ds[i].text.size c, .int .i64 0]) ∧ Rds w'' A (natsC (Sg.bytesN ds[i].text)) ∧ Below w'.heap.size w' w'') := Lib.hid fun w' hb => by
    have h := Text_in hfc (h3.ext hb (Nat.le_refl _)) f ds[i].text.size hss
    unfold TextPost at h
    rw [hf, Sg.sym_text hi, ← hf] at h
    exact h
  have hll : i + 1 < (startsI (Sg.lensD ds) (ds.length + 1)).length := by rw [startsI_len]; omega
  have HST := Lib.hid (bStart_any w bp (startsI (Sg.lensD ds) (ds.length + 1)) i hll h4.bnd)
  have HSZ := Lib.hid (bSize_any w bp (startsI (Sg.lensD ds) (ds.length + 1)) i hll (f : Int) ((f : Int) + (ds[i].text.size : Int) + 1) (by rw [startsI_at]; exact hsi) (by rw [startsI_at]; exact hsj) (by omega) h4.bnd)
  rw [startsI_at, hsi] at HST
  rw [show (f : Int) + (ds[i].text.size : Int) + 1 - (f : Int) - 1 = (ds[i].text.size : Int) by omega] at HSZ
  have HTL : Hid (ds[i].text.size ≤ 1000000) := Lib.hid (by omega)
  have c0 := h1.cell (o := 0) rfl
  have c2 := h1.cell (o := 2) rfl
  have C0 := Lib.hid c0
  generalize ds[i].text = t at *
  clear hok h1 h3 h4 h5 h6 h7 hfc hsi hsj hf hll hss hz hsl h0
  have htl := HTL.out
  go_enter Try.func45, Try.ntmps45
  go_wp2_with fail
  refine HST.out.mono ?_
  rintro e w1 ⟨rfl, rfl⟩
  go_wp2_with fail
  refine HSZ.out.mono ?_
  rintro e w1 ⟨rfl, q, rfl⟩
  have HB1 : Hid (Below w.heap.size w (w.drewN q)) := Lib.hid (drawn_below w q)
  have d0 := cell_ext HB1.out (Nat.le_refl _) C0.out
  clear c0 c2 HST HSZ
  go_wp2_with fail
  refine (HTN.out _ HB1.out).mono ?_
  rintro e w2 ⟨A2, c2, rfl, r2, hb2⟩
  have HB2 : Hid (Below w.heap.size w w2) := Lib.hid (HB1.out.trans (hb2.mono HB1.out.size))
  have HR2 := Lib.hid r2
  clear hb2 r2 d0 HTN
  go_upto_region 5 with (fail)
  obtain ⟨w3, hw3⟩ : ∃ z, z = w2.alloc (.cells #[.pointer none, .slice none 0 0] 116) := ⟨_, rfl⟩
  have HI3 : Hid (Lib.IsBuilder 116 5 w2.heap.size w2.heap.size (Lib.byteCells (t.toList.take 0)) w3) := Lib.hid (by rw [hw3]; exact Lib.fresh_isBuilder _ _ _)
  have HB3 : Hid (Below w2.heap.size w2 w3) := Lib.hid (by rw [hw3]; exact (Below.refl _ _).alloc (Nat.le_refl _) _)
  rw [← hw3]
  clear hw3
  go_wp2
  go_loopw [44] (fun i wr => ∃ k : Nat, k ≤ t.size ∧ i = .int .i64 (k : Int) ∧ Hid (Lib.IsBuilder 116 5 w2.heap.size w2.heap.size (Lib.byteCells (t.toList.take k)) wr) ∧ Hid (Below w2.heap.size w2 wr)) (fun i _ => t.size - (intOf i).toNat)
  case atStart => exact ⟨0, by omega, rfl, HI3, HB3⟩
  case round =>
    obtain ⟨k, hk, rfl, HI, HB⟩ := hrel
    by_cases h8 : k < t.size
    · have h8i : (k : Int) < (t.size : Int) := by omega
      obtain ⟨c, hc1, hc2⟩ := bytes_get t k h8
      have hlt := c.toNat_lt
      obtain ⟨a2, rfl, cp⟩ := (HR2.out.ext HB.out (Nat.le_refl _)) k (.int .i64 ((c.toNat + 1 : Nat) : Int)) (natsC_at (by unfold Sg.bytesN; rw [List.getElem?_map, hc2]; rfl))
      have HTK : Hid (Lib.byteCells (t.toList.take (k + 1)) = Lib.byteCells (t.toList.take k) ++ [.int .u8 (c.toNat : Int)]) := Lib.hid (by
        obtain ⟨hl, e⟩ := List.getElem?_eq_some_iff.1 hc2
        unfold Lib.byteCells
        rw [List.take_succ_eq_append_getElem hl, e, List.map_append]; rfl)
      have HWB := Lib.hid (WriteByte_any w2.heap.size w2.heap.size (Lib.byteCells (t.toList.take k)) (c.toNat : Int) wr HI.out (by unfold Lib.byteCells; rw [List.length_map, List.length_take]; omega) HB.out.size)
      have hcn : (((c.toNat + 1 : Nat) : Int)) = (c.toNat : Int) + 1 := by omega
      rw [hcn] at cp
      generalize c.toNat = cn at *
      have hcm : (cn : Int) % 256 = (cn : Int) := by omega
      clear hc1 hc2 hcn
      go_wp2_with fail
      refine HWB.out.mono ?_
      rintro e w5 ⟨rfl, hb5, hbb⟩
      have HI5 : Hid (Lib.IsBuilder 116 5 w2.heap.size w2.heap.size (Lib.byteCells (t.toList.take (k + 1))) w5) := Lib.hid (by rw [HTK.out]; exact .inr hb5)
      have HB5 : Hid (Below w2.heap.size w2 w5) := Lib.hid (HB.out.trans hbb)
      clear hb5 hbb cp hcm
      go_wp2
      go_roundw
      case rel => exact ⟨k + 1, by omega, by go_num, HI5, HB5⟩
      case measure => first | (simp [intOf]; done) | (simp [intOf]; omega)
    · obtain rfl : k = t.size := by omega
      have h8i : ¬ (t.size : Int) < (t.size : Int) := by omega
      have HE : Hid (t.toList.take t.size = t.toList) := Lib.hid (List.take_of_length_le (by rw [Sg.toList_len]; exact Nat.le_refl _))
      rw [HE.out] at HI
      have HS := Lib.hid (Try.Builder_String_any w2.heap.size w2.heap.size t.toList wr HI.out HB.out.size)
      rw [show (⟨t.toList.toArray⟩ : ByteArray) = t from txt_inj (by rw [Go.ByteArray.toList_eq])] at HS
      go_wp2_with fail
      refine HS.out.mono ?_
      rintro e w6 ⟨rfl, hb6⟩
      have HB6 : Hid (Below w.heap.size w w6) := Lib.hid (HB2.out.trans ((HB.out.trans hb6).mono HB2.out.size))
      clear hb6
      go_wp2
      go_ret
      exact ⟨rfl, HB6.out⟩
set_option maxRecDepth 100000 in
set_option maxHeartbeats 1000000 in
theorem segDocs_any (w : World) (x : Nat) (ds : List Doc) (lo : Nat) (h0 : Sg.chkD ds = 0) (h : SegN w x ds lo) :
    Calls Try.prog 14 #[.pointer (some ⟨x, 0, none⟩)] w fun e w' => ∃ v, e = .returned v ∧ w'.ownsRow w.heap.size 52 2 v ds.length (docsC ds) ∧ Below w.heap.size w w' := by
  have HTX : Hid (∀ w', Below w.heap.size w w' → ∀ i (hi : i < ds.length), _) := Lib.hid fun w' hb i hi => text_any w' x ds lo h0 (h.ext hb (Nat.le_refl _)) i hi
  have h64 := (chk_none h0).1
  obtain ⟨ix, AN, cN, bp, D, b, h1, hfc, h3, h4, h5, h6, h7⟩ := h
  have c1 := h1.cell (o := 1) rfl
  have HRN := Lib.hid h5
  clear h0 h1 hfc h3 h4 h5 h6 h7
  go_enter Try.func14, Try.ntmps14
  go_wp2
  clear c1
  go_loopw [2, 10] (fun v i wx => ∃ k : Nat, k ≤ ds.length ∧ i = .int .i64 (k : Int) ∧ Hid (wx.ownsRow w.heap.size 52 2 v k (docsC (ds.take k))) ∧ Hid (Below w.heap.size w wx)) (fun _ i _ => ds.length - (intOf i).toNat)
  case atStart => exact ⟨0, by omega, rfl, World.ownsRow_nil _ _ _ _, Lib.hid (Below.refl _ _)⟩
  case round =>
    obtain ⟨k, hk, rfl, HO, HB⟩ := hrel
    by_cases h8 : k < ds.length
    · have h8i : (k : Int) < (ds.length : Int) := by omega
      obtain ⟨v, rfl⟩ : ∃ z, z = u2 := ⟨_, rfl⟩
      obtain ⟨aN, rfl, cN'⟩ := (HRN.out.ext HB.out (Nat.le_refl _)) k (.string ds[k].id) (by rw [List.getElem?_map, List.getElem?_eq_getElem h8]; rfl)
      have HT := Lib.hid (HTX.out wr HB.out k h8)
      have HL := Lib.hid (docs_step h8)
      have hk1 : k ≤ 64 := by omega
      generalize ds[k] = d at *
      go_wp2_with fail
      refine HT.out.mono ?_
      rintro e w3 ⟨rfl, hb3⟩
      have HB3 : Hid (Below w.heap.size w w3) := Lib.hid (HB.out.trans (hb3.mono HB.out.size))
      have HO3 := Lib.hid (own_ext HO.out hb3 (Nat.le_refl _))
      have hs3 := HB3.out.size
      clear hb3 cN'
      go_wp2_with (at_builtin; refine wp_app1 (w0 := w3) rfl rfl _ _ 32 rfl w.heap.size 52 (.agg #[.string ⟨#[]⟩, .string ⟨#[]⟩]) 2 32 Try.underlying32 info_doc rfl (by decide) (by decide) _ k _ rfl HO3.out rfl rfl (by intro u hu; simp at hu; rcases hu with rfl | rfl <;> rfl) (by omega) hs3 ?_; intro v' w' hown' hg' hb')
      go_roundw
      case rel => exact ⟨k + 1, by omega, by go_num, by show World.ownsRow _ _ _ _ _ _ _; rw [HL.out]; exact hown', HB3.out.trans hb'⟩
      case measure => simp [intOf]; omega
    · obtain rfl : k = ds.length := by omega
      have h8i : ¬ (ds.length : Int) < (ds.length : Int) := by omega
      have HTA : Hid (ds.take ds.length = ds) := List.take_length
      rw [HTA.out] at HO
      go_wp2
      go_ret
      exact ⟨_, rfl, HO.out, HB.out⟩
theorem segSize_any (w : World) (x : Nat) (ds : List Doc) (lo : Nat) (h : SegN w x ds lo) :
    Calls Try.prog 38 #[.pointer (some ⟨x, 0, none⟩)] w fun e w' => e = .returned (.int .i64 (Sg.sizeD ds : Int)) ∧ w = w' := by
  obtain ⟨ix, AN, cN, bp, D, b, h1, _⟩ := h
  have c3 := h1.cell (o := 3) rfl
  clear h1
  generalize Sg.sizeD ds = z at *
  go_enter Try.func38, Try.ntmps38
  go_wp2
  go_ret
  exact ⟨rfl, rfl⟩
end Go.Proofs.Ytjpcfpffbicpnaa
