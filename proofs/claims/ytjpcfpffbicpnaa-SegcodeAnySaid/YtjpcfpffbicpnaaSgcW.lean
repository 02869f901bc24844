/- The walks of segcode: Sealed, Equal, lay, Encode. -/
import Derived.Test.YtjpcfpffbicpnaaSgcL
import Derived.Test.YtjpcfpffbicpnaaSegF
import Derived.Test.YtjpcfpffbicpnaaPackSum
import Derived.Test.YtjpcfpffbicpnaaPackWire
set_option linter.unusedVariables false
set_option linter.unusedSimpArgs false
namespace Go.Proofs.Ytjpcfpffbicpnaa
open Go.RowKit Lec
theorem Sum0_any (w : World) (A : Option Addr) (n c : Nat) (bs : List UInt8) (hn : bs.length = n) (hm : n ≤ 9223372036854775807) (hr : Rds w A (bytesV bs)) :
    Calls Try.prog 63 #[.int .u32 0, .slice A n c] w fun e w' => e = .returned (.int .u32 (csum 0 bs : Int)) ∧ Below w.heap.size w w' := by
  by_cases h : n < 300
  · exact sum_small 0 (by decide) w A n c bs hn h hr
  · exact sum_large 0 (by decide) w A n c bs hn h hm hr
theorem info_u8S : (Try.prog.info? 5).map (fun i => (i.zero, i.size, i.bytes)) = some (some (.int .u8 0), 1, 1) := by kernel_rfl
theorem be4_cells {s : Nat} (hs : s < 4294967296) : bytesV (be4 s) = [.int .u8 ((s : Int) / 16777216), .int .u8 ((s : Int) / 65536 % 256), .int .u8 ((s : Int) / 256 % 256), .int .u8 ((s : Int) % 256)] := by
  unfold bytesV be4
  simp only [List.map_cons, List.map_nil, UInt8.toNat_ofNat']
  refine congr (congrArg List.cons ?_) (congr (congrArg List.cons ?_) (congr (congrArg List.cons ?_) (congr (congrArg List.cons ?_) rfl))) <;> congr 1 <;> omega
set_option maxRecDepth 100000 in
theorem Sealed_any (w : World) (base : Nat) (v : Value) (bs : List UInt8) (hown : w.ownsRow base 5 1 v bs.length (bytesV bs)) (hbase : base ≤ w.heap.size) (hl : bs.length ≤ 2000000) (s : Nat) (hs : s < 4294967296) :
    Calls Try.prog 62 #[v, .int .u32 (s : Int)] w fun e w' => ∃ v', e = .returned v' ∧ w'.ownsRow base 5 1 v' (bs ++ be4 s).length (bytesV (bs ++ be4 s)) ∧ Below base w w' := by
  have HE := Lib.hid (be4_cells hs)
  obtain ⟨wa, hwa⟩ : ∃ z, z = w.alloc (.cells #[.int .u8 ((s : Int) / 16777216), .int .u8 ((s : Int) / 65536 % 256), .int .u8 ((s : Int) / 256 % 256), .int .u8 ((s : Int) % 256)] 5) := ⟨_, rfl⟩
  have hba : Below w.heap.size w wa := by rw [hwa]; exact (Below.refl _ _).alloc (Nat.le_refl _) _
  have HRA : Hid (Rds wa (some ⟨w.heap.size, 0, none⟩) (bytesV (be4 s))) := Lib.hid (by rw [HE.out, hwa]; exact rds_litN w #[.int .u8 ((s : Int) / 16777216), .int .u8 ((s : Int) / 65536 % 256), .int .u8 ((s : Int) / 256 % 256), .int .u8 ((s : Int) % 256)] 5)
  have HO := Lib.hid (own_ext hown hba (Nat.le_refl _))
  have HBA := Lib.hid hba
  have HBS : Hid (base ≤ wa.heap.size) := Lib.hid (Nat.le_trans hbase hba.size)
  have HLT : Hid (∀ k, v.ownBlock = some k → base ≤ k) := Lib.hid fun k hk => (hown.lt k hk).1
  have HWA := Lib.hid hwa.symm
  clear hwa hba hown
  go_enter Try.func62, Try.ntmps62
  go_wp2_with (at_builtin; rw [HWA.out]; refine wp_app rfl _ _ 23 rfl base 5 (.int .u8 0) 1 1 Try.underlying23 info_u8S rfl (by decide) (by decide) _ bs.length _ rfl HO.out (some ⟨w.heap.size, 0, none⟩) 4 4 (bytesV (be4 s)) rfl (fun e => by cases e) (by simp [bytesV, be4]) HRA.out (bytes_one _) (by omega) HBS.out ?_; intro v' w' hown' hg')
  go_ret
  refine ⟨_, rfl, ?_, ?_⟩
  · rw [List.length_append]; unfold bytesV at hown' ⊢; rw [List.map_append]; exact hown'
  · exact (HBA.out.mono hbase).grown hg' HBS.out HLT.out
set_option maxRecDepth 100000 in
theorem bytesEqual_any (w : World) (A : Option Addr) (n c : Nat) (xs : List UInt8) (hn : xs.length = n) (hr : Rds w A (bytesV xs)) (B : Option Addr) (m d : Nat) (ys : List UInt8) (hm : ys.length = m) (hs : Rds w B (bytesV ys)) :
    Calls Try.prog 44 #[.slice A n c, .slice B m d] w fun e w' => e = .returned (.bool (decide (xs = ys))) ∧ w = w' := by
  have h1 := conv_str w 23 9 5 Try.underlying23 Try.underlying5 Try.underlying9 A n c xs hn hr
  have h2 := conv_str w 23 9 5 Try.underlying23 Try.underlying5 Try.underlying9 B m d ys hm hs
  have he : ((bytesOf xs).toList == (bytesOf ys).toList) = decide (xs = ys) := by
    rw [Go.ByteArray.toList_eq, Go.ByteArray.toList_eq]
    simp only [bytesOf]
    by_cases e : xs = ys
    · rw [e]; simp
    · rw [decide_eq_false e]; simpa using e
  have HE := Lib.hid he
  clear he hr hs hn hm
  generalize bytesOf xs = x at *
  generalize bytesOf ys = y at *
  go_enter Try.func44, Try.ntmps44
  go_wp2
  go_ret
  exact ⟨by rw [← HE.out]; rfl, rfl⟩
def LayPost (w : World) (ds : List Doc) (e : Ending) (w' : World) : Prop := Below w.heap.size w w' ∧
  ((layB ds = none ∧ e = .returned (.tuple #[.slice none 0 0, .int .i64 2])) ∨ (∃ bs v, layB ds = some bs ∧ e = .returned (.tuple #[v, .int .i64 0]) ∧ w'.ownsRow w.heap.size 5 1 v bs.length (bytesV bs)))
theorem csum_lt (bs : List UInt8) : csum 0 bs < 4294967296 := by unfold csum; omega
theorem info_strS : (Try.prog.info? 9).map (fun i => (i.zero, i.size, i.bytes)) = some (some (.string ⟨#[]⟩), 1, 16) := by kernel_rfl
theorem textsD_snoc {ds : List Doc} {k : Nat} (h : k < ds.length) : textsD (ds.take (k + 1)) = textsD (ds.take k) ++ [ds[k].id, ds[k].text] := by
  rw [List.take_succ_eq_append_getElem h, textsD_app]; rfl
set_option maxRecDepth 100000 in
set_option maxHeartbeats 1000000 in
theorem lay_any (w : World) (A : Option Addr) (c : Nat) (ds : List Doc) (hl : ds.length ≤ 1000000) (hsz : ∀ d ∈ ds, d.id.size ≤ 1000000000 ∧ d.text.size ≤ 1000000000) (hr : Rds w A (docsC ds)) :
    Calls Try.prog 43 #[.slice A ds.length c] w (LayPost w ds) := by
  have HR := Lib.hid hr
  have HS : Hid (∀ s ∈ textsD ds, s.size ≤ 140737488351232) := Lib.hid fun s hs => by
    obtain ⟨d, hd, hm⟩ := List.mem_flatMap.1 hs
    have := hsz d hd
    simp at hm
    rcases hm with rfl | rfl <;> omega
  clear hr hsz
  go_enter Try.func43, Try.ntmps43
  go_wp2
  go_loopw [4, 11] (fun v i wx => ∃ k : Nat, k ≤ ds.length ∧ i = .int .i64 (k : Int) ∧ Hid (wx.ownsRow w.heap.size 9 1 v (k * 2) ((textsD (ds.take k)).map Value.string)) ∧ Hid (Below w.heap.size w wx)) (fun _ i _ => ds.length - (intOf i).toNat)
  case atStart => exact ⟨0, by omega, rfl, World.ownsRow_nil _ _ _ _, Lib.hid (Below.refl _ _)⟩
  case round =>
    obtain ⟨k, hk, rfl, HO, HB⟩ := hrel
    by_cases h8 : k < ds.length
    · have h8i : (k : Int) < (ds.length : Int) := by omega
      obtain ⟨a, rfl, hc0, hc1⟩ := docs_cells (HR.out.ext HB.out (Nat.le_refl _)) k h8
      have HTK := Lib.hid (textsD_snoc h8)
      obtain ⟨v, rfl⟩ : ∃ z, z = u4 := ⟨_, rfl⟩
      generalize ds[k] = d at *
      go_upto_region 5 with (fail)
      obtain ⟨wa, hwa⟩ : ∃ z, z = wr.alloc (.cells #[.string d.id, .string d.text] 52) := ⟨_, rfl⟩
      have hba : Below wr.heap.size wr wa := by rw [hwa]; exact (Below.refl _ _).alloc (Nat.le_refl _) _
      have hB2 : Blk wa wr.heap.size 52 [.string d.id, .string d.text] := by rw [hwa]; exact Blk.new _ _ _
      rw [← hwa]
      have e0 := hB2.cell (o := 0) rfl
      have e1 := hB2.cell (o := 1) rfl
      have HOa := Lib.hid (own_ext HO.out hba (Nat.le_refl _))
      have HBa : Hid (Below w.heap.size w wa) := Lib.hid (HB.out.trans (hba.mono HB.out.size))
      have hsa := HBa.out.size
      have HBL : Hid (Below wa.heap.size wa (wa.alloc (.cells #[.string d.id, .string d.text] 9))) := (Below.refl _ _).alloc (Nat.le_refl _) _
      have HLT : Hid (∀ g, v.ownBlock = some g → w.heap.size ≤ g) := Lib.hid fun g h => (HO.out.lt g h).1
      have hk2 : k * 2 ≤ 2000000 := by omega
      clear hwa hba hB2 hc0 hc1
      go_wp2_with (at_builtin; refine wp_app rfl _ _ 38 rfl w.heap.size 9 (.string ⟨#[]⟩) 1 16 Try.underlying38 info_strS rfl (by decide) (by decide) _ (k * 2) _ rfl (own_ext HOa.out HBL.out (Nat.le_refl _)) (some ⟨wa.heap.size, 0, none⟩) 2 2 [.string d.id, .string d.text] rfl (fun e => by cases e) rfl (rds_litN wa #[.string d.id, .string d.text] 9) (by intro u hu; simp at hu; rcases hu with rfl | rfl <;> rfl) (by omega) (Nat.le_trans hsa HBL.out.size) ?_; intro v' w' hown' hg')
      go_roundw
      case rel =>
        refine ⟨k + 1, by omega, by go_num, ?_, Lib.hid ((HBa.out.trans (HBL.out.mono HBa.out.size)).grown hg' (Nat.le_trans hsa HBL.out.size) HLT.out)⟩
        show World.ownsRow _ _ _ _ _ _ _
        rw [HTK.out, List.map_append, show (k + 1) * 2 = k * 2 + 2 by omega]; exact hown'
      case measure => simp [intOf]; omega
    · obtain rfl : k = ds.length := by omega
      have h8i : ¬ (ds.length : Int) < (ds.length : Int) := by omega
      rw [List.take_length] at HO
      obtain ⟨v, rfl⟩ : ∃ z, z = u4 := ⟨_, rfl⟩
      obtain ⟨A2, c2, rfl, _, _, _, r2, _⟩ := own_rds HO.out
      have HPU := Lib.hid (Put_any wr A2 (ds.length * 2) c2 (textsD ds) (textsD_len ds) (by omega) HS.out r2)
      clear r2 HO HS
      obtain ⟨pb, hpb⟩ : ∃ pb, pb = putB (textsD ds) := ⟨_, rfl⟩
      have HPB : Hid (layB ds = if pb.length ≤ 1048576 then some (pb ++ be4 (csum 0 pb)) else none) := Lib.hid (by rw [hpb]; rfl)
      unfold PutPost at HPU
      rw [← hpb] at HPU
      clear hpb
      go_wp2_with fail
      refine HPU.out.mono ?_
      rintro e w2 ⟨hb2, ⟨hle, v2, rfl, hown2⟩ | ⟨hgt, rfl⟩⟩
      · have HB2 : Hid (Below w.heap.size w w2) := Lib.hid (HB.out.trans (hb2.mono HB.out.size))
        have HLE : Hid (layB ds = some (pb ++ be4 (csum 0 pb))) := Lib.hid (by rw [HPB.out, if_pos hle])
        obtain ⟨A3, c3, rfl, _, _, _, r3, _⟩ := own_rds hown2
        have HO2 := Lib.hid (own_lower hown2 HB.out.size)
        have HSM := Lib.hid (Sum0_any w2 A3 pb.length c3 pb rfl (by omega) r3)
        have hcs := csum_lt pb
        clear hb2 hown2 r3 HPU HPB
        generalize csum 0 pb = cs at *
        go_wp2_with fail
        refine HSM.out.mono ?_
        rintro e w3 ⟨rfl, hb3⟩
        have HB3 : Hid (Below w.heap.size w w3) := Lib.hid (HB2.out.trans (hb3.mono HB2.out.size))
        have HSL := Lib.hid (Sealed_any w3 w.heap.size (.slice A3 pb.length c3) pb (own_ext HO2.out hb3 (Nat.le_refl _)) HB3.out.size (by omega) cs hcs)
        clear hb3
        go_wp2_with fail
        refine HSL.out.mono ?_
        rintro e w4 ⟨v4, rfl, hown4, hb4⟩
        have HB4 : Hid (Below w.heap.size w w4) := Lib.hid (HB3.out.trans hb4)
        have HO4 := Lib.hid hown4
        clear hb4 hown4
        go_wp2
        go_ret2
        exact ⟨HB4.out, .inr ⟨_, _, HLE.out, rfl, HO4.out⟩⟩
      · have HB2 : Hid (Below w.heap.size w w2) := Lib.hid (HB.out.trans (hb2.mono HB.out.size))
        have HLE : Hid (layB ds = none) := Lib.hid (by rw [HPB.out, if_neg (by omega)])
        clear hb2
        go_wp2
        go_ret2
        exact ⟨HB2.out, .inl ⟨HLE.out, rfl⟩⟩
set_option maxRecDepth 100000 in
theorem Encode_any (w : World) (x : Nat) (ds : List Doc) (lo : Nat) (h0 : Sg.chkD ds = 0) (h : SegN w x ds lo) (hsz : ∀ d ∈ ds, d.id.size ≤ 1000000000 ∧ d.text.size ≤ 1000000000) :
    Calls Try.prog 15 #[.pointer (some ⟨x, 0, none⟩)] w (LayPost w ds) := by
  have HD := Lib.hid (segDocs_any w x ds lo h0 h)
  have h64 := (chk_none h0).1
  have HS := Lib.hid hsz
  clear h hsz
  go_enter Try.func15, Try.ntmps15
  go_wp2_with fail
  refine HD.out.mono ?_
  rintro e w1 ⟨v, rfl, hown, hb1⟩
  obtain ⟨A1, c1, rfl, _, _, _, r1, _⟩ := own_rds hown
  have HB1 := Lib.hid hb1
  have HL := Lib.hid (lay_any w1 A1 c1 ds (by omega) HS.out r1)
  clear hown hb1 r1
  go_wp2_with fail
  refine HL.out.mono ?_
  rintro e w2 ⟨hb2, ⟨hn, rfl⟩ | ⟨bs, v2, hl, rfl, hown2⟩⟩
  · have HB2 : Hid (Below w.heap.size w w2) := Lib.hid (HB1.out.trans (hb2.mono HB1.out.size))
    have HN := Lib.hid hn
    clear hn hb2
    go_wp2
    go_ret2
    exact ⟨HB2.out, .inl ⟨HN.out, rfl⟩⟩
  · have HB2 : Hid (Below w.heap.size w w2) := Lib.hid (HB1.out.trans (hb2.mono HB1.out.size))
    have HN := Lib.hid hl
    have HO := Lib.hid (own_lower hown2 HB1.out.size)
    clear hl hb2 hown2
    go_wp2
    go_ret2
    exact ⟨HB2.out, .inr ⟨_, _, HN.out, rfl, HO.out⟩⟩
end Go.Proofs.Ytjpcfpffbicpnaa
