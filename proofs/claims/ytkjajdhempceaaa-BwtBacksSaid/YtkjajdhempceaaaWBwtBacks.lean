/- The walk of the law BwtBacks. -/
import Derived.Test.YtkjajdhempceaaaAskW
import Derived.Test.YtkjajdhempceaaaHelpCN
import Derived.Test.YtkjajdhempceaaaBackR
set_option linter.unusedVariables false
set_option linter.unusedSimpArgs false
namespace Go.Proofs.Ytkjajdhempceaaa
open Go.RowKit Lec
theorem symN_512 {L : List Int} (h : mayS 512 L = true) : ∀ x, x ∈ symN L → x < 512 := fun x hx => by
  have hsb := symN_lt h
  obtain ⟨i, hi, rfl⟩ := List.mem_iff_getElem.1 hx
  have := hsb i hi
  unfold Sa.sy at this
  rwa [List.getD_eq_getElem?_getD, List.getElem?_eq_getElem hi] at this

set_option maxRecDepth 100000 in
set_option maxHeartbeats 4000000 in
theorem BwtBacks_walk (W : World) (A : Option Addr) (c : Nat) (xs : List (List Int × Int)) (hrow : Row AskW W A xs) (hlc : xs.length ≤ c) (hcm : c ≤ maxLen) (hnone : A = none → xs.length = 0 ∧ c = 0) (hby : c * 32 ≤ reachBytes) :
    Calls Try.prog 8 #[.slice A xs.length c] W fun e w' => e = .returned (.bool true) ∧ Below W.heap.size W w' := by
  have HR := Lib.hid hrow
  have hlen : xs.length ≤ 9223372036854775807 := by unfold maxLen at hcm; omega
  clear hrow hnone hby hcm hlc
  go_enter Try.func8, Try.ntmps8
  go_wp2
  go_loopw [3] (fun i wr => ∃ k : Nat, k ≤ xs.length ∧ i = .int .i64 (k : Int) ∧ Hid (Below W.heap.size W wr)) (fun i _ => xs.length - (intOf i).toNat)
  case atStart => exact ⟨0, by omega, rfl, Below.refl _ _⟩
  case round =>
    obtain ⟨k, hk, rfl, HX⟩ := hrel
    obtain ⟨w0, rfl⟩ : ∃ x, x = wr := ⟨wr, rfl⟩
    by_cases h1 : k < xs.length ∧ k < 6
    · obtain ⟨h1, h2⟩ := h1
      have h1i : (k : Int) < (xs.length : Int) := by omega
      have h2i : (k : Int) < 6 := by omega
      obtain ⟨a, B, cb, rfl, hc0, hc1, hb1, hb3, hb4, ht⟩ := askW_at (HR.out.ext HX.out (Nat.le_refl _)) k h1
      generalize xs[k] = x at *
      obtain ⟨L, t⟩ := x
      dsimp only at hc0 hc1 hb1 hb3 hb4 ht
      generalize hu : heavyW L = u
      have HU := Lib.hid hu
      have HEV := Lib.hid (heavyW_any w0 B L.length cb t L rfl)
      clear ht hu
      rw [HU.out] at HEV
      go_wp2_with fail
      refine HEV.out.mono ?_
      rintro e w1 ⟨rfl, hbe1⟩
      have HX1 : Hid (Below W.heap.size W w1) := HX.out.trans (hbe1.mono HX.out.size)
      cases u with
      | true =>
        go_wp2
        go_ret
        exact ⟨rfl, HX1.out⟩
      | false =>
        have hl1 := heavyW_light HU.out
        have HC0 := Lib.hid (cell_ext hbe1 (Nat.le_refl _) hc0)
        have HB4 := Lib.hid (hb4.ext hbe1 (Nat.le_refl _))
        have HC1 := Lib.hid (cell_ext hbe1 (Nat.le_refl _) hc1)
        clear HU hbe1 HEV hc0 hc1 hb4 hb3
        obtain ⟨l, hl⟩ : ∃ l, l = L.length := ⟨_, rfl⟩
        have HLL : Hid (L.length = l) := Lib.hid hl.symm
        rw [← hl] at hb1 hl1 HC0 ⊢
        clear hl
        have hc0 := HC0.out
        have HCP := Lib.hid (CopyNumbers_any w1 B l cb L HLL.out (by omega) HB4.out)
        go_wp2_with fail
        refine HCP.out.mono ?_
        rintro e w2 ⟨v, rfl, hown, hbe2⟩
        obtain ⟨A2, c2, rfl, p1, p2, p3, p4, p5⟩ := own_rds hown
        have HIN : Hid (Rds w2 A2 (intsV L)) := p4
        have HI3 : Hid (A2 = none → l = 0 ∧ c2 = 0) := p3
        have HB2 : Hid (Below w1.heap.size w1 w2) := Lib.hid hbe2
        clear hbe2 hown p1 p2 p3 p4 p5 hc0 HCP
        have hc0 := cell_ext HB2.out (Nat.le_refl _) HC0.out
        have HC02 := Lib.hid (cell_ext HB2.out (Nat.le_refl _) HC0.out)
        have HC12 := Lib.hid (cell_ext HB2.out (Nat.le_refl _) HC1.out)
        have HB42 := Lib.hid (HB4.out.ext HB2.out (Nat.le_refl _))
        have HX2 := Lib.hid (HX1.out.trans (HB2.out.mono HX1.out.size))
        clear hc0 HC0 HC1 HB4 HB2 HX1
        have HCQ0 : Hid (∀ wz, Below w2.heap.size w2 wz → wz.cell? (a.add (k * 2)) = some (.slice B l cb)) := Lib.hid (fun wz h => cell_ext h (Nat.le_refl _) HC02.out)
        have HCQ1 : Hid (∀ wz, Below w2.heap.size w2 wz → wz.cell? ⟨(a.add (k * 2)).block, (a.add (k * 2)).off + 1, none⟩ = some (.int .i64 t)) := Lib.hid (fun wz h => cell_ext h (Nat.le_refl _) HC12.out)
        have HB4Q : Hid (∀ wz, Below w2.heap.size w2 wz → Rds wz B (intsV L)) := Lib.hid (fun wz h => HB42.out.ext h (Nat.le_refl _))
        have HINQ : Hid (∀ wz, Below w2.heap.size w2 wz → Rds wz A2 (intsV L)) := Lib.hid (fun wz h => HIN.out.ext h (Nat.le_refl _))
        have hd2 := drawn_below w2 1
        have HEQ2 : Hid (∀ wz, Below w2.heap.size w2 wz → Calls Try.prog 16 #[.slice A2 l c2, .slice B l cb] wz fun e w' => e = .returned (.bool true) ∧ ∃ q, wz.drewN q = w') := Lib.hid (fun wz h => by
          have := EqNumbers_any wz A2 l c2 L HLL.out (HINQ.out wz h) B l cb L HLL.out (HB4Q.out wz h) (by omega)
          rw [decide_eq_true rfl] at this
          exact this)
        by_cases hbad : mayS 512 L = false ∨ t < 0 ∨ (l : Int) < t
        · have HBAD := Lib.hid (Back_bad w2 A2 l c2 L t HLL.out (by omega) HIN.out hbad)
          have HRB := Lib.hid (refBack_bad w2.drew B l cb L t HLL.out (by omega) (HB4Q.out _ hd2) hbad)
          have HEQ := Lib.hid (HEQ2.out _ hd2)
          have hc0 := HC02.out
          have hc1 := HC12.out
          have HD : Hid (Below w2.heap.size w2 w2.drew) := Lib.hid hd2
          have hc2 := HCQ0.out _ hd2
          clear hbad hd2
          go_wp2_with fail
          refine HBAD.out.mono ?_
          rintro e w3 ⟨rfl, rfl⟩
          go_upto_region 8 with (fail)
          go_region_held3 (fun w' => w'.cell? (a.add (k * 2)) = some (.slice B l cb) ∧ w'.cell? ⟨(a.add (k * 2)).block, (a.add (k * 2)).off + 1, none⟩ = some (.int .i64 t)) (first | (with_reducible exact ⟨hc0, hc1⟩) | go_keep) (first | (go_at_call 28; with_reducible refine HRB.out.mono ?_; rintro e w4 ⟨rfl, rfl⟩))
          go_wp2_with (go_at_call 22; refine (num5 _ _).mono ?_; rintro e wq ⟨rfl, rfl⟩)
          refine HEQ.out.mono ?_
          rintro e w6 ⟨rfl, q, rfl⟩
          go_wp2
          go_roundw
          case rel => exact ⟨k + 1, by omega, by go_num, HX2.out.trans ((drawn_below w2 (1 + q)).mono HX2.out.size)⟩
          case measure => first | (simp [intOf]; done) | (simp [intOf]; omega)
        · have hms : mayS 512 L = true := by
            cases h : mayS 512 L with
            | true => rfl
            | false => exact absurd (.inl h) hbad
          obtain ⟨t', rfl⟩ : ∃ t' : Nat, t = (t' : Int) := ⟨t.toNat, by omega⟩
          have HLS := Lib.hid (symN_cells hms)
          have hsl := symN_len L
          have HS512 := Lib.hid (symN_512 hms)
          have htl : t' ≤ l := by omega
          clear hbad hms
          generalize symN L = s at *
          have hls : l = s.length := by rw [hsl]; exact HLL.out.symm
          subst hls
          have HBK := Lib.hid (Back_any w2 A2 c2 s t' (by omega) (by rw [← HLS.out]; exact HIN.out) HS512.out htl)
          have hc0 := HC02.out
          have hc1 := HC12.out
          clear hsl hd2
          go_wp2_with fail
          refine HBK.out.mono ?_
          rintro e w3 ⟨hb3, ⟨hok, g, rfl, hg, hblk⟩ | ⟨hno, rfl⟩⟩
          · have HB3 : Hid (Below w2.heap.size w2 w3.drew) := Lib.hid (hb3.trans ((drawn_below w3 1).mono hb3.size))
            have HRB : Hid (Calls Try.prog 28 #[.int .i64 (t' : Int), .slice B s.length cb] w3.drew fun e w' => ∃ (E : Option Addr) (ce : Nat), e = .returned (.tuple #[.slice E s.length ce, .bool true]) ∧ Below w3.drew.heap.size w3.drew w' ∧ Rds w' E (natsC (Sa.outW s t'))) :=
              Lib.hid ((refBack_any w3.drew B cb s t' (by omega) (by rw [← HLS.out]; exact HB4Q.out _ HB3.out) HS512.out htl).mono (by
                rintro e w' ⟨hb, ⟨_, E, ce, rfl, hr⟩ | ⟨hno, _⟩⟩
                · exact ⟨E, ce, rfl, hb, hr⟩
                · exact absurd hok hno))
            have HOK := Lib.hid hok
            have HY := Lib.hid (hblk.drew 1).rds
            have HOL := Lib.hid (Sa.outW_len s t')
            have hc0 := HCQ0.out _ hb3
            have hc1 := HCQ1.out _ hb3
            clear hb3 hok hg hblk
            go_upto_region 8 with (fail)
            go_region_held3 (fun w' => w'.cell? (a.add (k * 2)) = some (.slice B s.length cb) ∧ w'.cell? ⟨(a.add (k * 2)).block, (a.add (k * 2)).off + 1, none⟩ = some (.int .i64 (t' : Int))) (first | (with_reducible exact ⟨hc0, hc1⟩) | go_keep) (first | (go_at_call 28; with_reducible refine HRB.out.mono ?_; rintro e w4 ⟨E, ce, rfl, hb4, hre⟩; have hbz := HB3.out.trans (hb4.mono HB3.out.size); have hc0 := HCQ0.out _ hbz; have hc1 := HCQ1.out _ hbz; clear hbz))
            have HB4 : Hid (Below w2.heap.size w2 w4) := Lib.hid (HB3.out.trans (hb4.mono HB3.out.size))
            have HY4 := Lib.hid (HY.out.ext hb4 (Nat.le_refl _))
            have hc0 := HCQ0.out _ HB4.out
            have HEQ := Lib.hid (EqNumbers_any w4 (some ⟨g, 0, none⟩) s.length s.length ((Sa.outW s t').map fun v : Nat => (v : Int)) (by simp [HOL.out]) (natsC_rint HY4.out) E s.length ce ((Sa.outW s t').map fun v : Nat => (v : Int)) (by simp [HOL.out]) (natsC_rint hre) (by omega))
            rw [decide_eq_true rfl] at HEQ
            clear hb4 hre HY HRB
            go_wp2_with (go_at_call 22; refine (num5 _ _).mono ?_; rintro e wq ⟨rfl, rfl⟩)
            refine HEQ.out.mono ?_
            rintro e w6 ⟨rfl, q, rfl⟩
            have HB6 := Lib.hid (HB4.out.trans ((drawn_below w4 q).mono HB4.out.size))
            have HEQ3 := Lib.hid (HEQ2.out _ HB6.out)
            have hc0 := HCQ0.out _ HB6.out
            generalize w4.drewN q = w6 at *
            go_wp2_with fail
            refine HEQ3.out.mono ?_
            rintro e w7 ⟨rfl, q', rfl⟩
            go_wp2
            go_roundw
            case rel => exact ⟨k + 1, by omega, by go_num, HX2.out.trans ((HB6.out.trans ((drawn_below w6 q').mono HB6.out.size)).mono HX2.out.size)⟩
            case measure => first | (simp [intOf]; done) | (simp [intOf]; omega)
          · have HB3 : Hid (Below w2.heap.size w2 w3.drew) := Lib.hid (hb3.trans ((drawn_below w3 1).mono hb3.size))
            have HRB : Hid (Calls Try.prog 28 #[.int .i64 (t' : Int), .slice B s.length cb] w3.drew fun e w' => e = .returned (.tuple #[.slice none 0 0, .bool false]) ∧ Below w3.drew.heap.size w3.drew w') :=
              Lib.hid ((refBack_any w3.drew B cb s t' (by omega) (by rw [← HLS.out]; exact HB4Q.out _ HB3.out) HS512.out htl).mono (by
                rintro e w' ⟨hb, ⟨hok, _⟩ | ⟨_, rfl⟩⟩
                · exact absurd hok hno
                · exact ⟨rfl, hb⟩))
            have hc0 := HCQ0.out _ hb3
            have hc1 := HCQ1.out _ hb3
            clear hb3 hno
            go_upto_region 8 with (fail)
            go_region_held3 (fun w' => w'.cell? (a.add (k * 2)) = some (.slice B s.length cb) ∧ w'.cell? ⟨(a.add (k * 2)).block, (a.add (k * 2)).off + 1, none⟩ = some (.int .i64 (t' : Int))) (first | (with_reducible exact ⟨hc0, hc1⟩) | go_keep) (first | (go_at_call 28; with_reducible refine HRB.out.mono ?_; rintro e w4 ⟨rfl, hb4⟩; have hbz := HB3.out.trans (hb4.mono HB3.out.size); have hc0 := HCQ0.out _ hbz; have hc1 := HCQ1.out _ hbz; clear hbz))
            have HB6 : Hid (Below w2.heap.size w2 w4) := Lib.hid (HB3.out.trans (hb4.mono HB3.out.size))
            have HEQ3 := Lib.hid (HEQ2.out _ HB6.out)
            have hc0 := HCQ0.out _ HB6.out
            clear hb4
            go_wp2_with (go_at_call 22; refine (num5 _ _).mono ?_; rintro e wq ⟨rfl, rfl⟩)
            refine HEQ3.out.mono ?_
            rintro e w7 ⟨rfl, q', rfl⟩
            go_wp2
            go_roundw
            case rel => exact ⟨k + 1, by omega, by go_num, HX2.out.trans ((HB6.out.trans ((drawn_below w4 q').mono HB6.out.size)).mono HX2.out.size)⟩
            case measure => first | (simp [intOf]; done) | (simp [intOf]; omega)
    · by_cases h2 : k < xs.length
      · have h1i : (k : Int) < (xs.length : Int) := by omega
        have h2i : ¬ (k : Int) < 6 := by omega
        go_wp2_with (go_at_call 24; refine (wakes5 _).mono ?_; rintro e w1 ⟨rfl, hb⟩)
        go_ret
        exact ⟨rfl, HX.out.trans (hb.mono HX.out.size)⟩
      · have h1i : ¬ (k : Int) < (xs.length : Int) := by omega
        go_wp2_with (go_at_call 24; refine (wakes5 _).mono ?_; rintro e w1 ⟨rfl, hb⟩)
        go_ret
        exact ⟨rfl, HX.out.trans (hb.mono HX.out.size)⟩
end Go.Proofs.Ytkjajdhempceaaa
