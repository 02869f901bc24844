/- The walk of the law SegmentQuotas. -/
import Derived.Test.YtjpcfpffbicpnaaAskH
import Derived.Test.YtjpcfpffbicpnaaConv
set_option linter.unusedVariables false
set_option linter.unusedSimpArgs false
namespace Lec
open Go
def zeros (n : Nat) : ByteArray := bytesOf (List.replicate n 0)
theorem zeros_list (n : Nat) : (zeros n).toList = List.replicate n 0 := by rw [Go.ByteArray.toList_eq]; simp [zeros, bytesOf]
theorem zeros_size (n : Nat) : (zeros n).size = n := by rw [← Sg.toList_len, zeros_list, List.length_replicate]
def docQ (i : Nat) : Doc := ⟨bytesOf [UInt8.ofNat (97 + i / 26), UInt8.ofNat (97 + i % 26)], ⟨#[]⟩⟩
def docsQ (k : Nat) : List Doc := (List.range k).map docQ
theorem docsQ_step (k : Nat) : docsQ (k + 1) = docsQ k ++ [docQ k] := by unfold docsQ; rw [List.range_succ, List.map_append]; rfl
theorem docsQ_len (k : Nat) : (docsQ k).length = k := by simp [docsQ]
theorem docsQ_ok : Sg.chkD (docsQ 64) = 0 := by decide +kernel
theorem docsQ_much : Sg.chkD (docsQ 64 ++ [⟨⟨#[122, 122, 122]⟩, ⟨#[]⟩⟩]) = 2 := by decide +kernel
theorem docsQ_size : Sg.sizeD (docsQ 64) = 0 := by decide +kernel
theorem docsQ_size2 : Sg.sizeD (docsQ 64 ++ [⟨⟨#[122, 122, 122]⟩, ⟨#[]⟩⟩]) = 0 := by decide +kernel
theorem form_x (z : ByteArray) : Sg.formB [⟨⟨#[120]⟩, z⟩] = true := by
  refine Sg.form_all (fun i hi => ?_)
  have : i = 0 := by simpa using hi
  subst this
  rw [Sg.formAt_zero hi]
  show Sg.nameB ⟨#[120]⟩ = true
  decide +kernel
theorem chk_one (z : ByteArray) (h : z.size ≤ 2048) : Sg.chkD [⟨⟨#[120]⟩, z⟩] = 0 :=
  Sg.chk_ok (form_x z) (by simp) (fun i hi => by
    have : i = 0 := by simpa using hi
    subst this
    show ¬ 2048 < z.size
    omega) (by simp [Sg.sizeD]; omega)
theorem chk_two (z : ByteArray) (h : 2048 < z.size) : Sg.chkD [⟨⟨#[120]⟩, z⟩] = 2 := Sg.chk_long (form_x z) (i := 0) (by simp) h
theorem search_all {n : Nat} (h0 : 0 < n) (hn : n ≤ 2048) : Sg.searchH [⟨⟨#[120]⟩, zeros n⟩] (zeros n) = [(⟨#[120]⟩, 0)] := by
  rw [Sg.search_eq (by unfold Sg.asksP; rw [zeros_size, if_neg (by omega), if_neg (by omega)])]
  show Sg.textH _ _ _ ++ [] = _
  rw [List.append_nil, zeros_size, show n + 1 - n = 1 by omega]
  unfold Sg.textH
  rw [show List.range 1 = [0] from rfl, List.filter_cons, if_pos (by
    unfold Sg.hereT
    rw [decide_eq_true_iff, List.drop_zero, List.take_of_length_le (by rw [Sg.toList_len]; exact Nat.le_refl _)])]
  rfl
theorem search_none {n m : Nat} (hm : n < m) (hl : m ≤ 4096) : Sg.searchH [⟨⟨#[120]⟩, zeros n⟩] (zeros m) = [] := by
  rw [Sg.search_eq (by unfold Sg.asksP; rw [zeros_size, if_neg (by omega), if_neg (by omega)])]
  show Sg.textH _ _ _ ++ [] = _
  rw [List.append_nil, zeros_size, zeros_size, show n + 1 - m = 0 by omega]
  rfl
end Lec
namespace Go.Proofs.Ytjpcfpffbicpnaa
open Go.RowKit Lec
theorem info_u8Q : (Try.prog.info? 5).map (fun i => (i.zero, i.size, i.bytes)) = some (some (.int .u8 0), 1, 1) := by kernel_rfl
theorem conv_zeros (w : World) (g n : Nat) (hown : w.ownsRow 0 5 1 (.slice (some ⟨g, 0, none⟩) n n) n (madeCells (Value.int .u8 0).cells (n * 1)).toList) : (convert 23 9 (.slice (some ⟨g, 0, none⟩) n n)).run Try.prog w = .ok (.string (zeros n)) w := by
  have e0 : (madeCells (Value.int .u8 0).cells (n * 1)).toList = bytesV (List.replicate n 0) := by
    show (madeCells #[Value.int .u8 0] (n * 1)).toList = _
    rw [Nat.mul_one, toList_madeCells_one]; simp
  rw [e0] at hown
  obtain ⟨A', c', e, _, _, _, h, _⟩ := own_rds hown
  obtain ⟨rfl, rfl⟩ : some (⟨g, 0, none⟩ : Addr) = A' ∧ n = c' := by simpa using e
  exact conv_str w 23 9 5 Try.underlying23 Try.underlying5 Try.underlying9 _ n n _ (by simp) h
theorem below_none {w w' : World} (hg : w.grownBy w' none) : Below w.heap.size w w' := ⟨hg.os, hg.tape, hg.output, hg.size, fun k hk => hg.block k hk (fun h => by cases h)⟩
set_option maxRecDepth 100000 in
set_option maxHeartbeats 8000000 in
theorem SegmentQuotas_walk (W : World) (A B C : Option Addr) (c d e0 : Nat) (D : List Doc) (P N : List ByteArray) (hDl : D.length ≤ 4611686018427387903) (hPl : P.length ≤ 4611686018427387903) (hNl : N.length ≤ 4611686018427387903)
    (hDs : ∀ d ∈ D, d.id.size ≤ 1152921504606846976 ∧ d.text.size ≤ 1152921504606846976) (hPs : ∀ d ∈ P, d.size ≤ 1152921504606846976) (hNs : ∀ d ∈ N, d.size ≤ 1152921504606846976)
    (hd : Rds W A (docsC D)) (hp : Rds W B (P.map Value.string)) (hn : Rds W C (N.map Value.string)) :
    Calls Try.prog 5 #[.agg #[.slice A D.length c, .slice B P.length d, .slice C N.length e0]] W fun e w' => e = .returned (.bool true) ∧ Below W.heap.size W w' := by
  clear hDs hPs hNs hd hp hn hPl hNl
  go_enter Try.func5, Try.ntmps5
  go_upto_region 1 with (fail)
  obtain ⟨w0, hw0⟩ : ∃ w0, w0 = W.alloc (.cells #[.slice A D.length c, .slice B P.length d, .slice C N.length e0] 40) := ⟨_, rfl⟩
  rw [← hw0]
  have HX0 : Hid (Below W.heap.size W w0) := by rw [hw0]; exact (Below.refl _ _).alloc (Nat.le_refl _) _
  have HC0 : Hid (w0.cell? ⟨W.heap.size, 0, none⟩ = some (.slice A D.length c)) := by rw [hw0]; show _ = _; rw [cell_of_row _ _ _ _ _ _ (heap_alloc_new _ _)]; rfl
  clear hw0
  obtain ⟨ii, hi8, hz8, hs8, hy8⟩ := info_parts info_u8Q
  go_wp2
  go_loopw [3, 4] (fun v i wr => ∃ k : Nat, k ≤ 64 ∧ i = .int .i64 (k : Int) ∧ Hid (wr.ownsRow w0.heap.size 52 2 v k (docsC (docsQ k))) ∧ Hid (Below w0.heap.size w0 wr)) (fun _ i _ => 64 - (intOf i).toNat)
  case atStart => exact ⟨0, by omega, rfl, World.ownsRow_nil _ _ _ _, Lib.hid (Below.refl _ _)⟩
  case round =>
    obtain ⟨k, hk, rfl, HO, HB⟩ := hrel
    by_cases h8 : k < 64
    · have h8i : (k : Int) < 64 := by omega
      obtain ⟨v, rfl⟩ : ∃ z, z = u3 := ⟨_, rfl⟩
      have hcv := conv_str (wr.alloc (.cells #[.int .u8 (97 + (k : Int) / 26), .int .u8 (97 + (k : Int) % 26)] 5)) 23 9 5 Try.underlying23 Try.underlying5 Try.underlying9 (some ⟨wr.heap.size, 0, none⟩) 2 2 [UInt8.ofNat (97 + k / 26), UInt8.ofNat (97 + k % 26)] rfl
        (by
          have h1 : ((UInt8.ofNat (97 + k / 26)).toNat : Int) = 97 + (k : Int) / 26 := by simp; omega
          have h2 : ((UInt8.ofNat (97 + k % 26)).toNat : Int) = 97 + (k : Int) % 26 := by simp; omega
          show Rds _ _ [Value.int .u8 ((UInt8.ofNat (97 + k / 26)).toNat : Int), Value.int .u8 ((UInt8.ofNat (97 + k % 26)).toNat : Int)]
          rw [h1, h2]; exact rds_litN wr #[.int .u8 (97 + (k : Int) / 26), .int .u8 (97 + (k : Int) % 26)] 5)
      rw [show bytesOf [UInt8.ofNat (97 + k / 26), UInt8.ofNat (97 + k % 26)] = (docQ k).id from rfl] at hcv
      have HTK : Hid (docsC (docsQ (k + 1)) = docsC (docsQ k) ++ [.string (docQ k).id, .string ⟨#[]⟩]) := Lib.hid (by rw [docsQ_step, docsC_app]; rfl)
      obtain ⟨wa, hwa⟩ : ∃ z, z = wr.alloc (.cells #[.int .u8 (97 + (k : Int) / 26), .int .u8 (97 + (k : Int) % 26)] 5) := ⟨_, rfl⟩
      have HBa : Hid (Below wr.heap.size wr wa) := Lib.hid (by rw [hwa]; exact (Below.refl _ _).alloc (Nat.le_refl _) _)
      have HBB : Hid (Below w0.heap.size w0 wa) := Lib.hid (HB.out.trans (HBa.out.mono HB.out.size))
      have HOa := Lib.hid (own_ext HO.out HBa.out (Nat.le_refl _))
      have hsa := HBB.out.size
      generalize (docQ k).id = nm at *
      have HWA := Lib.hid hwa.symm
      have HSW : Hid (wr.heap.size + 1 = wa.heap.size) := Lib.hid (by rw [hwa]; simp)
      clear hwa
      go_wp2_with (at_builtin; rw [HWA.out, HSW.out]; refine wp_app1 (w0 := wa) rfl rfl _ _ 32 rfl w0.heap.size 52 (.agg #[.string ⟨#[]⟩, .string ⟨#[]⟩]) 2 32 Try.underlying32 info_doc rfl (by decide) (by decide) _ k _ rfl HOa.out rfl rfl (by intro u hu; simp at hu; rcases hu with rfl | rfl <;> rfl) (by omega) hsa ?_; intro v' w' hown' hg' hb')
      go_roundw
      case rel => exact ⟨k + 1, by omega, by go_num, by show World.ownsRow _ _ _ _ _ _ _; rw [HTK.out]; exact hown', HBB.out.trans hb'⟩
      case measure => simp [intOf]; omega
    · obtain rfl : k = 64 := by omega
      have h8i : ¬ ((64 : Nat) : Int) < 64 := by omega
      obtain ⟨v, rfl⟩ : ∃ z, z = u3 := ⟨_, rfl⟩
      obtain ⟨Ad, cd, rfl, _, _, _, rd, kd⟩ := own_rds HO.out
      have HRD := Lib.hid rd
      have HO1 := HO
      clear HO rd kd
      obtain ⟨q64, HQ⟩ : ∃ q : Nat, Hid (q = 64) := ⟨_, Lib.hid rfl⟩
      have HNW := Lib.hid (NewS_any wr Ad cd 64 (docsQ 64) (docsQ_len 64) (by decide) (by rw [docsQ_size]; decide) HRD.out)
      go_upto_region 6 with (fail)
      go_wp2_with fail
      refine HNW.out.mono ?_
      rintro e w1 ⟨hb1, ⟨hno, _⟩ | ⟨_, xa, rfl, hxa⟩⟩
      · exact absurd docsQ_ok hno
      have HB1 : Hid (Below w0.heap.size w0 w1) := Lib.hid (HB.out.trans (hb1.mono HB.out.size))
      have HCP := Lib.hid (CopyDocs_any w1 Ad 64 cd (docsQ 64) (docsQ_len 64) (by decide) (HRD.out.ext hb1 (Nat.le_refl _)))
      clear hb1 hxa HNW
      go_wp2_with fail
      refine HCP.out.mono ?_
      rintro e w2 ⟨v2, rfl, hown2, hb2⟩
      have HB2 : Hid (Below w0.heap.size w0 w2) := Lib.hid (HB1.out.trans (hb2.mono HB1.out.size))
      have HO2 := Lib.hid hown2
      have hs2 := hb2.size
      clear hown2 hb2 HCP
      obtain ⟨A2, c2, rfl, _, _, _, _, _⟩ := own_rds HO2.out
      go_wp2_with (at_builtin; go_loud (refine wp_app1 (w0 := w2) rfl rfl _ _ 32 rfl w1.heap.size 52 (.agg #[.string ⟨#[]⟩, .string ⟨#[]⟩]) 2 32 Try.underlying32 info_doc rfl (by decide) (by decide) _ 64 _ rfl HO2.out rfl rfl (by intro u hu; simp at hu; rcases hu with rfl | rfl <;> rfl) (by omega) hs2 ?_); intro v3 w3 hown3 hg3 hb3
                   obtain ⟨A3, c3, rfl, _, _, _, r3, _⟩ := own_rds hown3
                   have HB3 : Hid (Below w0.heap.size w0 w3) := Lib.hid (HB2.out.trans (hb3.mono HB1.out.size))
                   have HR3 : Hid (Rds w3 A3 (docsC (docsQ 64 ++ [⟨⟨#[122, 122, 122]⟩, ⟨#[]⟩⟩]))) := Lib.hid (by rw [docsC_app]; exact r3)
                   clear hown3 hg3 hb3 r3)
      refine (NewS_any w3 A3 c3 65 (docsQ 64 ++ [⟨⟨#[122, 122, 122]⟩, ⟨#[]⟩⟩]) (by rw [List.length_append, docsQ_len]; rfl) (by decide) (by rw [docsQ_size2]; decide) HR3.out).mono ?_
      rintro e w4 ⟨hb4, ⟨_, rfl⟩ | ⟨hok, _⟩⟩
      case inr => rw [docsQ_much] at hok; cases hok
      have HB4 : Hid (Below w0.heap.size w0 w4) := Lib.hid (HB3.out.trans (hb4.mono HB3.out.size))
      rw [docsQ_much]
      clear hb4 HR3 HB3 HO2 HB2 hs2 HB1 HO1 HRD
      go_upto_region 10 with (go_at_call 23; refine (num8 _ _).mono ?_; rintro e wq ⟨rfl, rfl⟩)
      obtain ⟨n1, hn1⟩ : ∃ n : Nat, n = 2048 := ⟨_, rfl⟩
      have HI1 : Hid ((2048 : Int) = (n1 : Int)) := Lib.hid (by omega)
      have HY1 : Hid (ii.bytes * n1 ≤ 281474976710656 ∧ n1 ≤ maxLen) := Lib.hid (by rw [hy8]; simp only [maxLen]; omega)
      have HC1 := Lib.hid (chk_one (zeros n1) (by rw [zeros_size]; omega))
      have HS1 : Hid (Sg.searchH [⟨⟨#[120]⟩, zeros n1⟩] (zeros n1) = [(⟨#[120]⟩, 0)]) := Lib.hid (search_all (by omega) (by omega))
      have HA1 : Hid (Sg.asksP (zeros n1) = 0) := Lib.hid (by unfold Sg.asksP; rw [zeros_size, if_neg (by omega), if_neg (by omega)])
      obtain ⟨n2, hn2⟩ : ∃ n : Nat, n = 2049 := ⟨_, rfl⟩
      have HI2 : Hid ((2049 : Int) = (n2 : Int)) := Lib.hid (by omega)
      have HY2 : Hid (ii.bytes * n2 ≤ 281474976710656 ∧ n2 ≤ maxLen) := Lib.hid (by rw [hy8]; simp only [maxLen]; omega)
      have HC2 := Lib.hid (chk_two (zeros n2) (by rw [zeros_size]; omega))
      obtain ⟨n3, hn3⟩ : ∃ n : Nat, n = 4096 := ⟨_, rfl⟩
      have HI3 : Hid ((4096 : Int) = (n3 : Int)) := Lib.hid (by omega)
      have HY3 : Hid (ii.bytes * n3 ≤ 281474976710656 ∧ n3 ≤ maxLen) := Lib.hid (by rw [hy8]; simp only [maxLen]; omega)
      have HS3 : Hid (Sg.searchH [⟨⟨#[120]⟩, zeros n1⟩] (zeros n3) = []) := Lib.hid (search_none (by omega) (by omega))
      have HA3 : Hid (Sg.asksP (zeros n3) = 0) := Lib.hid (by unfold Sg.asksP; rw [zeros_size, if_neg (by omega), if_neg (by omega)])
      obtain ⟨n4, hn4⟩ : ∃ n : Nat, n = 4097 := ⟨_, rfl⟩
      have HI4 : Hid ((4097 : Int) = (n4 : Int)) := Lib.hid (by omega)
      have HY4 : Hid (ii.bytes * n4 ≤ 281474976710656 ∧ n4 ≤ maxLen) := Lib.hid (by rw [hy8]; simp only [maxLen]; omega)
      have HA4 : Hid (Sg.asksP (zeros n4) = 2) := Lib.hid (by unfold Sg.asksP; rw [zeros_size, if_pos (by omega)])
      have HZ1 : Hid (Sg.sizeD [⟨⟨#[120]⟩, zeros n1⟩] ≤ 1000000000) := Lib.hid (by simp [Sg.sizeD, zeros_size]; omega)
      have HZ2 : Hid (Sg.sizeD [⟨⟨#[120]⟩, zeros n2⟩] ≤ 1000000000) := Lib.hid (by simp [Sg.sizeD, zeros_size]; omega)
      have HN1 : Hid ((zeros n1).size ≤ 1000000 ∧ (zeros n3).size ≤ 1000000 ∧ (zeros n4).size ≤ 1000000) := Lib.hid (by rw [zeros_size, zeros_size, zeros_size]; omega)
      clear hn1 hn2 hn3 hn4
      go_wp2_with (refine wpList_make_full w4 rfl _ _ _ rfl 0 5 _ (.int .u8 0) 1 Try.underlying23 hi8 hz8 hs8 .i64 .i64 2048 2048 n1 rfl rfl HI1.out HI1.out HY1.out.1 HY1.out.2 (Nat.zero_le _) ?_; intro w5 hown hg
                   have hcv := conv_zeros w5 _ n1 hown
                   have hbm := below_none hg
                   clear hown hg)
      clear hcv
      have HBm := Lib.hid (hbm.alloc hbm.size (.cells #[.string ⟨#[120]⟩, .string (zeros n1)] 52))
      have HB5 : Hid (Below w0.heap.size w0 _) := Lib.hid (HB4.out.trans (HBm.out.mono HB4.out.size))
      refine (NewS_any _ (some ⟨w5.heap.size, 0, none⟩) 1 1 [⟨⟨#[120]⟩, zeros n1⟩] rfl (by decide) HZ1.out (show Rds _ _ (docsC [⟨⟨#[120]⟩, zeros n1⟩]) from rds_litN w5 #[.string ⟨#[120]⟩, .string (zeros n1)] 52)).mono ?_
      rintro e w6 ⟨hb6, ⟨hno, _⟩ | ⟨_, xc, rfl, hxc⟩⟩
      · exact absurd HC1.out hno
      have HB6 : Hid (Below w0.heap.size w0 w6) := Lib.hid (HB5.out.trans (hb6.mono HB5.out.size))
      have HXC : Hid (∀ w', Below w6.heap.size w6 w' → SegN w' xc _ _) := Lib.hid fun w' h => hxc.ext h (Nat.le_refl _)
      clear hb6 hxc hbm HBm HB5
      obtain ⟨lo, hlo⟩ : ∃ lo, lo = (w5.alloc (.cells #[.string ⟨#[120]⟩, .string (zeros n1)] 52)).heap.size := ⟨_, rfl⟩
      rw [← hlo] at HXC
      clear hlo
      obtain ⟨ds, hds⟩ : ∃ ds : List Doc, ds = [⟨⟨#[120]⟩, zeros n1⟩] := ⟨_, rfl⟩
      rw [← hds] at HXC HC1 HS1 HS3
      clear hds HZ1
      obtain ⟨z1, hz1⟩ : ∃ z, z = zeros n1 := ⟨_, rfl⟩
      obtain ⟨z3, hz3⟩ : ∃ z, z = zeros n3 := ⟨_, rfl⟩
      obtain ⟨z4, hz4⟩ : ∃ z, z = zeros n4 := ⟨_, rfl⟩
      have HSE : Hid (∀ w', Below w6.heap.size w6 w' → ∀ p : ByteArray, p.size ≤ 1000000 → Calls Try.prog 22 #[.pointer (some ⟨xc, 0, none⟩), .string p] w' (SearchPost w' ds p)) := Lib.hid fun w' h p hp => Search_any w' xc ds lo HC1.out (HXC.out w' h) p hp
      clear HXC
      go_upto_region 11 with (fail)
      go_wp2_with (refine wpList_make_full w6 rfl _ _ _ rfl 0 5 _ (.int .u8 0) 1 Try.underlying23 hi8 hz8 hs8 .i64 .i64 2049 2049 n2 rfl rfl HI2.out HI2.out HY2.out.1 HY2.out.2 (Nat.zero_le _) ?_; intro w7 hown hg
                   have hcv := conv_zeros w7 _ n2 hown
                   have hbm := below_none hg
                   clear hown hg)
      clear hcv
      have HBm := Lib.hid (hbm.alloc hbm.size (.cells #[.string ⟨#[120]⟩, .string (zeros n2)] 52))
      refine (NewS_any _ (some ⟨w7.heap.size, 0, none⟩) 1 1 [⟨⟨#[120]⟩, zeros n2⟩] rfl (by decide) HZ2.out (show Rds _ _ (docsC [⟨⟨#[120]⟩, zeros n2⟩]) from rds_litN w7 #[.string ⟨#[120]⟩, .string (zeros n2)] 52)).mono ?_
      rintro e w8 ⟨hb8, ⟨_, rfl⟩ | ⟨hok, _⟩⟩
      case inr => rw [HC2.out] at hok; cases hok
      have HB8 : Hid (Below w6.heap.size w6 w8) := Lib.hid (HBm.out.trans (hb8.mono HBm.out.size))
      rw [HC2.out]
      clear hb8 hbm HBm HC2 HZ2 HI2 HY2
      go_upto_region 14 with (go_at_call 23; refine (num8 _ _).mono ?_; rintro e wq ⟨rfl, rfl⟩)
      go_wp2_with (refine wpList_make_full w8 rfl _ _ _ rfl 0 5 _ (.int .u8 0) 1 Try.underlying23 hi8 hz8 hs8 .i64 .i64 2048 2048 n1 rfl rfl HI1.out HI1.out HY1.out.1 HY1.out.2 (Nat.zero_le _) ?_; intro w9 hown hg
                   have hcv := conv_zeros w9 _ n1 hown
                   have hbm := below_none hg
                   clear hown hg)
      clear hcv
      have HB9 : Hid (Below w6.heap.size w6 w9) := Lib.hid (HB8.out.trans (hbm.mono HB8.out.size))
      have HQ1 := Lib.hid (HSE.out w9 HB9.out (zeros n1) HN1.out.1)
      unfold SearchPost at HQ1
      rw [HA1.out, HS1.out] at HQ1
      refine HQ1.out.mono ?_
      rintro e w10 ⟨v10, rfl, hown10, hb10⟩
      obtain ⟨A10, c10, rfl, _, _, _, r10, _⟩ := own_rds hown10
      have HB10 : Hid (Below w6.heap.size w6 w10) := Lib.hid (HB9.out.trans (hb10.mono HB9.out.size))
      have HR10 : Hid (∀ w', Below w10.heap.size w10 w' → Rds w' A10 (hitsC [(⟨#[120]⟩, 0)])) := Lib.hid fun w' h => r10.ext h (Nat.le_refl _)
      clear hbm hown10 hb10 r10 HQ1 HB8 HB9
      go_upto_region 15 with (fail)
      go_wp2_with (refine wpList_make_full w10 rfl _ _ _ rfl 0 5 _ (.int .u8 0) 1 Try.underlying23 hi8 hz8 hs8 .i64 .i64 4096 4096 n3 rfl rfl HI3.out HI3.out HY3.out.1 HY3.out.2 (Nat.zero_le _) ?_; intro w11 hown hg
                   have hcv := conv_zeros w11 _ n3 hown
                   have hbm := below_none hg
                   clear hown hg)
      clear hcv
      have HE11 : Hid (Below w10.heap.size w10 w11) := Lib.hid hbm
      have HB11 : Hid (Below w6.heap.size w6 w11) := Lib.hid (HB10.out.trans (hbm.mono HB10.out.size))
      have HQ3 := Lib.hid (HSE.out w11 HB11.out (zeros n3) HN1.out.2.1)
      unfold SearchPost at HQ3
      rw [HA3.out, HS3.out] at HQ3
      refine HQ3.out.mono ?_
      rintro e w12 ⟨v12, rfl, hown12, hb12⟩
      obtain ⟨A12, c12, rfl, _, _, _, _, _⟩ := own_rds hown12
      have HE12 : Hid (Below w10.heap.size w10 w12) := Lib.hid (HE11.out.trans (hb12.mono HE11.out.size))
      have HB12 : Hid (Below w6.heap.size w6 w12) := Lib.hid (HB10.out.trans (HE12.out.mono HB10.out.size))
      clear hbm hown12 hb12 HQ3 HE11 HB11
      go_upto_region 16 with (fail)
      go_wp2_with (refine wpList_make_full w12 rfl _ _ _ rfl 0 5 _ (.int .u8 0) 1 Try.underlying23 hi8 hz8 hs8 .i64 .i64 4097 4097 n4 rfl rfl HI4.out HI4.out HY4.out.1 HY4.out.2 (Nat.zero_le _) ?_; intro w13 hown hg
                   have hcv := conv_zeros w13 _ n4 hown
                   have hbm := below_none hg
                   clear hown hg)
      clear hcv
      have HE13 : Hid (Below w10.heap.size w10 w13) := Lib.hid (HE12.out.trans (hbm.mono HE12.out.size))
      have HB13 : Hid (Below w6.heap.size w6 w13) := Lib.hid (HB10.out.trans (HE13.out.mono HB10.out.size))
      have HQ4 := Lib.hid (HSE.out w13 HB13.out (zeros n4) HN1.out.2.2)
      unfold SearchPost at HQ4
      rw [HA4.out] at HQ4
      refine HQ4.out.mono ?_
      rintro e w14 ⟨v14, rfl, hown14, hb14⟩
      obtain ⟨A14, c14, rfl, _, _, _, _, _⟩ := own_rds hown14
      have HE14 : Hid (Below w10.heap.size w10 w14) := Lib.hid (HE13.out.trans (hb14.mono HE13.out.size))
      have HB14 : Hid (Below w6.heap.size w6 w14) := Lib.hid (HB10.out.trans (HE14.out.mono HB10.out.size))
      clear hbm hown14 hb14 HQ4 HE13 HB13 HE12 HB12
      go_upto_region 17 with (fail)
      have HQ5 := Lib.hid (HSE.out w14 HB14.out ⟨#[]⟩ (by decide))
      unfold SearchPost at HQ5
      rw [show Sg.asksP ⟨#[]⟩ = 5 from by decide +kernel] at HQ5
      go_wp2_with fail
      refine HQ5.out.mono ?_
      rintro e w15 ⟨v15, rfl, hown15, hb15⟩
      obtain ⟨A15, c15, rfl, _, _, _, _, _⟩ := own_rds hown15
      have HE15 : Hid (Below w10.heap.size w10 w15) := Lib.hid (HE14.out.trans (hb15.mono HE14.out.size))
      have HB15 : Hid (Below w0.heap.size w0 w15) := Lib.hid (HB6.out.trans ((HB10.out.trans (HE15.out.mono HB10.out.size)).mono HB6.out.size))
      clear hown15 hb15 HQ5 HE14 HB14
      go_upto_region 18 with (fail)
      have HBL : Hid (Below w15.heap.size w15 (w15.alloc (.cells #[.string ⟨#[120]⟩, .int .i64 0] 56))) := (Below.refl _ _).alloc (Nat.le_refl _) _
      have HE := Lib.hid (EqHits_any (w15.alloc (.cells #[.string ⟨#[120]⟩, .int .i64 0] 56)) A10 1 c10 [(⟨#[120]⟩, 0)] rfl (HR10.out _ (HE15.out.trans (HBL.out.mono HE15.out.size))) (some ⟨w15.heap.size, 0, none⟩) 1 1 [(⟨#[120]⟩, 0)] rfl (show Rds _ _ (hitsC [(⟨#[120]⟩, 0)]) from rds_litN w15 #[.string ⟨#[120]⟩, .int .i64 0] 56) (by decide))
      rw [decide_eq_true rfl] at HE
      have HBQ : Hid (∀ q, Below w0.heap.size w0 ((w15.alloc (.cells #[.string ⟨#[120]⟩, .int .i64 0] 56)).drewN q)) := Lib.hid fun q => (HB15.out.trans (HBL.out.mono HB15.out.size)).trans ((drawn_below _ q).mono (HB15.out.trans (HBL.out.mono HB15.out.size)).size)
      have HXQ : Hid (∀ q, Below W.heap.size W ((w15.alloc (.cells #[.string ⟨#[120]⟩, .int .i64 0] 56)).drewN q)) := Lib.hid fun q => HX0.out.trans ((HBQ.out q).mono HX0.out.size)
      have HKQ := Lib.hid (fun q => cell_ext (HBQ.out q) (Nat.le_refl _) HC0.out)
      go_wp2_with (first
        | (go_at_call 23; refine (num8 _ _).mono ?_; rintro e wq ⟨rfl, rfl⟩)
        | (go_at_call 24; refine HE.out.mono ?_; rintro e wq ⟨rfl, q, rfl⟩; have kq := HKQ.out q)
        | (go_at_call 19; refine (wakesG _).mono ?_; rintro e w20 ⟨rfl, hb20⟩))
      go_ret
      exact ⟨rfl, (HXQ.out q).trans (hb20.mono (HXQ.out q).size)⟩
end Go.Proofs.Ytjpcfpffbicpnaa
