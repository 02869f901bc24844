/- The walk of the law SegcodeAny. -/
import Derived.Test.YtjpcfpffbicpnaaSgcD
import Derived.Test.YtjpcfpffbicpnaaPackBas
import Derived.Test.YtjpcfpffbicpnaaHelpD
import Derived.Test.YtjpcfpffbicpnaaHelpCB
import Derived.Test.YtjpcfpffbicpnaaHelpEB
set_option linter.unusedVariables false
set_option linter.unusedSimpArgs false
namespace Lec
open Go Go.RowKit
def docsX : List Doc := [⟨⟨#[97]⟩, ⟨#[120]⟩⟩]
theorem docsX_ok : Sg.chkD docsX = 0 := by decide +kernel
theorem docsX_lay : ∃ b, layB docsX = some b ∧ b.length ≤ 1000 ∧ decD b = some docsX := by
  have h := (putB_light (ss := textsD docsX) (by decide +kernel)).1
  have h1 : textsLen (textsD docsX) = 2 := by decide +kernel
  have h2 : (textsD docsX).length = 2 := rfl
  rw [h1, h2] at h
  have hl : layB docsX = some (putB (textsD docsX) ++ be4 (csum 0 (putB (textsD docsX)))) := by unfold layB; rw [if_pos (by omega)]
  exact ⟨_, hl, by rw [List.length_append]; show _ + 4 ≤ _; omega, dec_lay hl docsX_ok⟩
end Lec
namespace Go.Proofs.Ytjpcfpffbicpnaa
open Go.RowKit Lec
abbrev AskC : Rep (List UInt8) := Rep.slice Rep.u8 1
theorem askC_of : AskC.Of Try.prog 23 := Rep.slice_of Try.underlying23 (by kernel_rfl) (by kernel_rfl) (Rep.u8_of Try.underlying5)
theorem asksC_of : (Rep.slice AskC 24).Of Try.prog 22 := Rep.slice_of Try.underlying22 (by kernel_rfl) (by kernel_rfl) askC_of
theorem askC_at {w : World} {A : Option Addr} {xs : List (List UInt8)} (h : Row AskC w A xs) (i : Nat) (hi : i < xs.length) :
    ∃ a B c, A = some a ∧ w.cell? (a.add i) = some (.slice B xs[i].length c) ∧ xs[i].length ≤ c ∧ (B = none → xs[i].length = 0 ∧ c = 0) ∧ Rds w B (bytesV xs[i]) := by
  obtain ⟨a, cs, e, hl, hc, ⟨B, c, rfl, b1, b2, b3, b4, b5⟩⟩ := h i hi
  exact ⟨a, B, c, e, by have := hc 0 _ rfl; rwa [show i * AskC.n + 0 = i by show i * 1 + 0 = i; omega] at this, b1, b3, b5.rds⟩
theorem num11 (w : World) (e : Int) : Calls Try.prog 12 #[.int .i64 e] w fun r w' => r = .returned (.int .i64 e) ∧ w = w' := by
  go_enter Try.func12, Try.ntmps12
  go_wp2
  go_ret
  exact ⟨rfl, rfl⟩
set_option maxRecDepth 100000 in
theorem wakes11 (w : World) : Calls Try.prog 16 #[] w fun e w' => e = .returned (.bool true) ∧ Below w.heap.size w w' := by
  obtain ⟨b1, hb1, hb2, hb3⟩ := docsX_lay
  have HL1 := Lib.hid hb1
  have HL2 := Lib.hid hb2
  have HL3 := Lib.hid hb3
  clear hb1 hb2 hb3
  go_enter Try.func16, Try.ntmps16
  go_wp2_with fail
  have HX0 : Hid (Below w.heap.size w (w.alloc (.cells #[.string ⟨#[97]⟩, .string ⟨#[120]⟩] 52))) := (Below.refl _ _).alloc (Nat.le_refl _) _
  refine (NewS_any _ _ 1 1 docsX rfl (by decide) (by decide +kernel) (show Rds _ _ (docsC docsX) from rds_litN w #[.string ⟨#[97]⟩, .string ⟨#[120]⟩] 52)).mono ?_
  rintro e w1 ⟨hb, ⟨hno, _⟩ | ⟨hok, x, rfl, hx⟩⟩
  · exact absurd docsX_ok hno
  have HX1 : Hid (Below w.heap.size w w1) := HX0.out.trans (hb.mono HX0.out.size)
  have HEN := Lib.hid (Encode_any w1 x docsX _ hok hx (by decide +kernel))
  clear hb hok hx HX0
  go_wp2_with fail
  refine HEN.out.mono ?_
  rintro e w2 ⟨hb2, ⟨hno, _⟩ | ⟨b, v, hl, rfl, hown⟩⟩
  · rw [HL1.out] at hno; cases hno
  obtain rfl : b1 = b := by rw [HL1.out] at hl; exact Option.some.inj hl
  obtain ⟨A2, c2, rfl, p1, _, _, r2, _⟩ := own_rds hown
  have HX2 : Hid (Below w.heap.size w w2) := HX1.out.trans (hb2.mono HX1.out.size)
  have HDC := Lib.hid (Decode_any w2 A2 b1.length c2 b1 rfl p1 (by have := HL2.out; omega) r2)
  clear hb2 hl hown p1 r2 HEN
  go_wp2_with fail
  refine HDC.out.mono ?_
  rintro e w3 ⟨hb3, ⟨hno, _⟩ | ⟨ds, y, lo, hd, rfl, hy⟩⟩
  · rw [HL3.out] at hno; cases hno
  obtain rfl : docsX = ds := by rw [HL3.out] at hd; exact Option.some.inj hd
  have HX3 : Hid (Below w.heap.size w w3) := HX2.out.trans (hb3.mono HX2.out.size)
  have HDO := Lib.hid (segDocs_any w3 y docsX lo docsX_ok hy)
  clear hb3 hd hy HDC
  go_wp2_with (first
    | (go_at_call 12; refine (num11 _ _).mono ?_; rintro e wq ⟨rfl, rfl⟩)
    | (go_at_call 14; refine HDO.out.mono ?_; rintro e w4 ⟨v4, rfl, hown4, hb4⟩
       obtain ⟨A4, c4, rfl, _, _, _, r4, _⟩ := own_rds hown4
       have HX4 : Hid (Below w.heap.size w w4) := HX3.out.trans (hb4.mono HX3.out.size)
       have HBL : Hid (Below w4.heap.size w4 (w4.alloc (.cells #[.string ⟨#[97]⟩, .string ⟨#[120]⟩] 52))) := (Below.refl _ _).alloc (Nat.le_refl _) _
       have HE4 : Hid (Calls Try.prog 37 #[.slice A4 1 c4, .slice (some ⟨w4.heap.size, 0, none⟩) 1 1] (w4.alloc (.cells #[.string ⟨#[97]⟩, .string ⟨#[120]⟩] 52)) fun e w'' => e = .returned (.bool true) ∧ ∃ q, (w4.alloc (.cells #[.string ⟨#[97]⟩, .string ⟨#[120]⟩] 52)).drewN q = w'') := Lib.hid (by
         have h2 := EqDocs_any (w4.alloc (.cells #[.string ⟨#[97]⟩, .string ⟨#[120]⟩] 52)) A4 1 c4 docsX rfl (r4.ext HBL.out (Nat.le_refl _)) (some ⟨w4.heap.size, 0, none⟩) 1 1 docsX rfl (show Rds _ _ (docsC docsX) from rds_litN w4 #[.string ⟨#[97]⟩, .string ⟨#[120]⟩] 52) (by decide)
         rwa [decide_eq_true rfl] at h2)
       clear hown4 hb4 r4)
    | (go_at_call 37; refine HE4.out.mono ?_; rintro e wq ⟨rfl, q, rfl⟩))
  go_ret
  exact ⟨rfl, (HX4.out.trans (HBL.out.mono HX4.out.size)).trans ((drawn_below _ q).mono (HX4.out.trans (HBL.out.mono HX4.out.size)).size)⟩
theorem decD_small {bs : List UInt8} {ds : List Doc} (h : decD bs = some ds) (hl : bs.length ≤ 1000000) : ∀ d ∈ ds, d.id.size ≤ 1000000000 ∧ d.text.size ≤ 1000000000 := by
  unfold decD at h
  split at h
  · cases h
  · split at h
    · cases h
    · rename_i l hg
      split at h
      · injection h with h
        subst h
        refine pairs_sz l (fun s hs => ?_)
        have h1 := getL_split hg
        have h3 := (lens_le l).2 s hs
        rw [← h1, List.length_take] at h3
        omega
      · cases h
set_option maxRecDepth 100000 in
set_option maxHeartbeats 4000000 in
theorem SegcodeAny_walk (W : World) (A : Option Addr) (c : Nat) (xs : List (List UInt8)) (hrow : Row AskC W A xs) (hlc : xs.length ≤ c) (hcm : c ≤ maxLen) (hnone : A = none → xs.length = 0 ∧ c = 0) (hby : c * 24 ≤ reachBytes) :
    Calls Try.prog 3 #[.slice A xs.length c] W fun e w' => e = .returned (.bool true) ∧ Below W.heap.size W w' := by
  have HR := Lib.hid hrow
  have hlen : xs.length ≤ 9223372036854775807 := by unfold maxLen at hcm; omega
  clear hrow hnone hby hcm hlc
  go_enter Try.func3, Try.ntmps3
  go_wp2
  go_loopw [3] (fun i wr => ∃ k : Nat, k ≤ xs.length ∧ i = .int .i64 (k : Int) ∧ Hid (Below W.heap.size W wr)) (fun i _ => xs.length - (intOf i).toNat)
  case atStart => exact ⟨0, by omega, rfl, Below.refl _ _⟩
  case round =>
    obtain ⟨k, hk, rfl, HX⟩ := hrel
    obtain ⟨w0, rfl⟩ : ∃ x, x = wr := ⟨wr, rfl⟩
    by_cases h1 : k < xs.length ∧ k < 12
    · obtain ⟨h1, h2⟩ := h1
      have h1i : (k : Int) < (xs.length : Int) := by omega
      have h2i : (k : Int) < 12 := by omega
      obtain ⟨a, B, cb, rfl, hc0, hb1, hb3, hb4⟩ := askC_at (HR.out.ext HX.out (Nat.le_refl _)) k h1
      generalize xs[k] = bs at *
      obtain ⟨l, hl⟩ : ∃ l, l = bs.length := ⟨_, rfl⟩
      rw [← hl] at hc0 hb1 hb3
      have HL := Lib.hid hl.symm
      clear hl
      by_cases h4 : 3000 < l
      · have h4i : (3000 : Int) < (l : Int) := by omega
        go_wp2
        go_ret
        exact ⟨rfl, HX.out⟩
      · have h4i : ¬ (3000 : Int) < (l : Int) := by omega
        have HC0 := Lib.hid hc0
        have HB4 := Lib.hid hb4
        have HCP := Lib.hid (CopyBytes_any w0 B l cb bs HL.out (by omega) hb4)
        clear hb4
        go_wp2_with fail
        refine HCP.out.mono ?_
        rintro e w2 ⟨v, rfl, hown, hbe2⟩
        obtain ⟨A2, c2, rfl, p1, p2, p3, p4, p5⟩ := own_rds hown
        have HC0Q : Hid (∀ wz, Below w2.heap.size w2 wz → wz.cell? (a.add k) = some (.slice B l cb)) := Lib.hid (fun wz h => cell_ext h (Nat.le_refl _) (cell_ext hbe2 (Nat.le_refl _) HC0.out))
        have HB4Q : Hid (∀ wz, Below w2.heap.size w2 wz → Rds wz B (bytesV bs)) := Lib.hid (fun wz h => (HB4.out.ext hbe2 (Nat.le_refl _)).ext h (Nat.le_refl _))
        have HINQ : Hid (∀ wz, Below w2.heap.size w2 wz → Rds wz A2 (bytesV bs)) := Lib.hid (fun wz h => Rds.ext p4 h (Nat.le_refl _))
        have HX2 : Hid (Below W.heap.size W w2) := HX.out.trans (hbe2.mono HX.out.size)
        have HPA := Lib.hid (Decode_any w2 A2 l c2 bs HL.out p1 (by omega) p4)
        have HEQQ : Hid (∀ wz, Below w2.heap.size w2 wz → Calls Try.prog 11 #[.slice A2 l c2, .slice B l cb] wz fun e w' => e = .returned (.bool true) ∧ ∃ q, wz.drewN q = w') := Lib.hid fun wz h => by
          have h2 := EqBytes_any wz A2 l c2 bs HL.out (HINQ.out wz h) B l cb bs HL.out (HB4Q.out wz h) (by omega)
          rwa [decide_eq_true rfl] at h2
        clear hbe2 hown p1 p2 p3 p4 p5 hc0 HC0 HB4 HX
        go_wp2_with fail
        refine HPA.out.mono ?_
        rintro e w3 ⟨hb3', ⟨hno, rfl⟩ | ⟨ds, x, lo, hd, rfl, hx⟩⟩
        · clear hno HPA
          have HB3 := Lib.hid hb3'
          have HE3 := Lib.hid (HEQQ.out w3 hb3')
          have hc0 := HC0Q.out w3 hb3'
          clear hb3'
          go_wp2_with (first
            | (go_at_call 12; refine (num11 _ _).mono ?_; rintro e wq ⟨rfl, rfl⟩)
            | (go_at_call 11; refine HE3.out.mono ?_; rintro e wq ⟨rfl, q, rfl⟩))
          go_roundw
          case rel => exact ⟨k + 1, by omega, by go_num, HX2.out.trans ((HB3.out.trans ((drawn_below w3 q).mono HB3.out.size)).mono HX2.out.size)⟩
          case measure => first | (simp [intOf]; done) | (simp [intOf]; omega)
        · obtain ⟨hly, hck⟩ := decD_lay hd
          have HLY := Lib.hid hly
          have HCK := Lib.hid hck
          have HSM := Lib.hid (decD_small hd (by rw [HL.out]; omega))
          have h64 := (chk_none hck).1
          have h16 := (chk_none hck).2
          have HB3 := Lib.hid hb3'
          have HE3 := Lib.hid (HEQQ.out w3 hb3')
          have hc0 := HC0Q.out w3 hb3'
          have HSG : Hid (∀ wz, Below w3.heap.size w3 wz → SegN wz x ds lo) := Lib.hid fun wz h => hx.ext h (Nat.le_refl _)
          clear hb3' HPA hd hly hck hx
          go_upto_region 10 with (first
            | (go_at_call 12; refine (num11 _ _).mono ?_; rintro e wq ⟨rfl, rfl⟩)
            | (go_at_call 11; refine HE3.out.mono ?_; rintro e wq ⟨rfl, q, rfl⟩))
          have HBq : Hid (Below w3.heap.size w3 (w3.drewN q)) := Lib.hid (drawn_below w3 q)
          obtain ⟨w4, hw4⟩ : ∃ z, z = w3.drewN q := ⟨_, rfl⟩
          rw [← hw4] at HBq ⊢
          have HDO := Lib.hid (segDocs_any w4 x ds lo HCK.out (HSG.out w4 HBq.out))
          clear hw4 hc0 HE3
          go_wp2_with (first
            | (go_at_call 12; refine (num11 _ _).mono ?_; rintro e wq ⟨rfl, rfl⟩)
            | (go_at_call 14; (with_reducible refine HDO.out.mono ?_); rintro e w5 ⟨v5, rfl, hown5, hb5⟩
               obtain ⟨A5, c5, rfl, _, _, _, r5, _⟩ := own_rds hown5
               have HB5 : Hid (Below w3.heap.size w3 w5) := Lib.hid (HBq.out.trans (hb5.mono HBq.out.size))
               have HCD := Lib.hid (sDocs_any w5 A5 c5 ds.length ds rfl (by omega) (by omega) r5)
               rw [HCK.out] at HCD
               clear hown5 hb5 r5)
            | (go_at_call 13; refine HCD.out.mono ?_; rintro e w6 ⟨rfl, q6, rfl⟩))
          have HB6 : Hid (Below w3.heap.size w3 (w5.drewN q6)) := Lib.hid (HB5.out.trans ((drawn_below w5 q6).mono HB5.out.size))
          refine (Encode_any _ x ds lo HCK.out (HSG.out _ HB6.out) HSM.out).mono ?_
          rintro e w7 ⟨hb7, ⟨hno, _⟩ | ⟨b7, v7, hl7, rfl, hown7⟩⟩
          · rw [HLY.out] at hno; cases hno
          obtain rfl : bs = b7 := by rw [HLY.out] at hl7; exact Option.some.inj hl7
          obtain ⟨A7, c7, rfl, _, _, _, r7, _⟩ := own_rds hown7
          have HB7 : Hid (Below w2.heap.size w2 w7) := Lib.hid (HB3.out.trans ((HB6.out.trans (hb7.mono HB6.out.size)).mono HB3.out.size))
          have HE7 : Hid (Calls Try.prog 11 #[.slice A7 bs.length c7, .slice B l cb] w7 fun e w' => e = .returned (.bool true) ∧ ∃ q, w7.drewN q = w') := Lib.hid (by
            have h2 := EqBytes_any w7 A7 bs.length c7 bs rfl r7 B l cb bs HL.out (HB4Q.out w7 HB7.out) (by rw [HL.out]; omega)
            rwa [decide_eq_true rfl] at h2)
          have hc0 := HC0Q.out w7 HB7.out
          clear hb7 hl7 hown7 r7
          go_wp2_with (first
            | (go_at_call 12; refine (num11 _ _).mono ?_; rintro e wq ⟨rfl, rfl⟩)
            | (go_at_call 11; (with_reducible refine HE7.out.mono ?_); rintro e wq ⟨rfl, q7, rfl⟩))
          go_roundw
          case rel => exact ⟨k + 1, by omega, by go_num, HX2.out.trans ((HB7.out.trans ((drawn_below w7 q7).mono HB7.out.size)).mono HX2.out.size)⟩
          case measure => first | (simp [intOf]; done) | (simp [intOf]; omega)
    · by_cases h2 : k < xs.length
      · have h1i : (k : Int) < (xs.length : Int) := by omega
        have h2i : ¬ (k : Int) < 12 := by omega
        go_wp2_with (go_at_call 16; refine (wakes11 _).mono ?_; rintro e w1 ⟨rfl, hb⟩)
        go_ret
        exact ⟨rfl, HX.out.trans (hb.mono HX.out.size)⟩
      · have h1i : ¬ (k : Int) < (xs.length : Int) := by omega
        go_wp2_with (go_at_call 16; refine (wakes11 _).mono ?_; rintro e w1 ⟨rfl, hb⟩)
        go_ret
        exact ⟨rfl, HX.out.trans (hb.mono HX.out.size)⟩
end Go.Proofs.Ytjpcfpffbicpnaa
