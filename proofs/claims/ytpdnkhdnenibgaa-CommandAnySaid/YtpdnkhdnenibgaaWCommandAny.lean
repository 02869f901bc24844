/- The walk of the law CommandAny. -/
import Derived.Test.YtpdnkhdnenibgaaCmdP
import Derived.Test.YtpdnkhdnenibgaaCmdR
import Derived.Test.YtpdnkhdnenibgaaRead
import Derived.Test.YtpdnkhdnenibgaaHelpCB
import Derived.Test.YtpdnkhdnenibgaaHelpEB
set_option linter.unusedVariables false
set_option linter.unusedSimpArgs false
namespace Lec
open Go Go.RowKit
theorem readS_numS {n : Nat} (h : n < 9223372036854775808) : readS (numS (n : Int)) = some n := by
  unfold readS numS
  rw [sb_bytesOf, bytesOf_size, Int.toNat_natCast]
  have := getB_numB n 0 0 [] (by have := numB_len9 h; omega) (by omega)
  simp at this
  rw [this]
  simp
theorem parse_bytes {c : Cmd} (h : mayC c) (h1 : (0 ≤ c.1 ∧ c.1 < 9223372036854775808) ∧ (0 ≤ c.2.1 ∧ c.2.1 < 9223372036854775808) ∧ (0 ≤ c.2.2.1 ∧ c.2.2.1 < 9223372036854775808)) (hl : (bytesC c).length ≤ 8000) : parseC (bytesC c) = some c := by
  obtain ⟨k, cl, sq, id, tx⟩ := c
  dsimp only at h1
  obtain ⟨k, rfl⟩ := Int.eq_ofNat_of_zero_le h1.1.1
  obtain ⟨cl, rfl⟩ := Int.eq_ofNat_of_zero_le h1.2.1.1
  obtain ⟨sq, rfl⟩ := Int.eq_ofNat_of_zero_le h1.2.2.1
  have hg : getL (bytesC ((k : Int), (cl : Int), (sq : Int), id, tx)) = some [numS k, numS cl, numS sq, id, tx] := by
    unfold bytesC at hl ⊢
    exact getL_put (fits_of_len (by omega)) (by omega)
  rw [parse_five hg, readS_numS (by omega), readS_numS (by omega), readS_numS (by omega)]
  dsimp only
  rw [if_pos h]
end Lec
namespace Go.Proofs.Ytpdnkhdnenibgaa
open Go.RowKit Lec
abbrev AskC : Rep (List UInt8) := Rep.slice Rep.u8 1
theorem askC_of : AskC.Of Try.prog 58 := Rep.slice_of Try.underlying58 (by kernel_rfl) (by kernel_rfl) (Rep.u8_of Try.underlying5)
theorem asksC_of : (Rep.slice AskC 24).Of Try.prog 57 := Rep.slice_of Try.underlying57 (by kernel_rfl) (by kernel_rfl) askC_of
theorem askC_at {w : World} {A : Option Addr} {xs : List (List UInt8)} (h : Row AskC w A xs) (i : Nat) (hi : i < xs.length) :
    ∃ a B c, A = some a ∧ w.cell? (a.add i) = some (.slice B xs[i].length c) ∧ xs[i].length ≤ c ∧ (B = none → xs[i].length = 0 ∧ c = 0) ∧ Rds w B (bytesV xs[i]) := by
  obtain ⟨a, cs, e, hl, hc, ⟨B, c, rfl, b1, b2, b3, b4, b5⟩⟩ := h i hi
  exact ⟨a, B, c, e, by have := hc 0 _ rfl; rwa [show i * AskC.n + 0 = i by show i * 1 + 0 = i; omega] at this, b1, b3, b5.rds⟩
theorem num16 (w : World) (e : Int) : Calls Try.prog 36 #[.int .i64 e] w fun r w' => r = .returned (.int .i64 e) ∧ w = w' := by
  go_enter Try.func36, Try.ntmps36
  go_wp2
  go_ret
  exact ⟨rfl, rfl⟩
theorem may1 : mayC (1, 0, 0, ⟨#[]⟩, ⟨#[]⟩) := .inl ⟨rfl, rfl, rfl, rfl, rfl⟩
set_option maxRecDepth 100000 in
theorem wakes16 (w : World) : Calls Try.prog 39 #[] w fun e w' => e = .returned (.bool true) ∧ Below w.heap.size w w' := by
  have HBY := Lib.hid (Bytes_any w (1, 0, 0, ⟨#[]⟩, ⟨#[]⟩))
  unfold cmdV at HBY
  dsimp only at HBY
  go_enter Try.func39, Try.ntmps39
  go_wp2_with fail
  refine HBY.out.mono ?_
  rintro e w1 ⟨hb, ⟨_, v, rfl, hown⟩ | ⟨hno, _⟩⟩
  · obtain ⟨A1, c1, rfl, p1, p2, p3, p4, p5⟩ := own_rds hown
    have hlen := bytesC_len may1
    have hps := parse_bytes may1 (by decide) hlen
    generalize bytesC (1, 0, 0, ⟨#[]⟩, ⟨#[]⟩) = bs at *
    have HPA := Lib.hid (Parse_any w1 A1 bs.length c1 bs rfl p1 (by omega) p4)
    have HPS := Lib.hid hps
    have HX := Lib.hid hb
    clear hb hown p1 p2 p3 p4 p5 hlen hps HBY
    go_wp2_with fail
    refine HPA.out.mono ?_
    rintro e w2 ⟨hb2, ⟨c, hc, rfl⟩ | ⟨hn, _⟩⟩
    · obtain rfl : (1, 0, 0, ⟨#[]⟩, ⟨#[]⟩) = c := Option.some.inj (HPS.out.symm.trans hc)
      have HX2 := Lib.hid (HX.out.trans (hb2.mono HX.out.size))
      clear hb2 hc HPA HPS HX
      unfold cmdV
      dsimp only
      go_wp2_with (go_at_call 36; refine (num16 _ _).mono ?_; rintro e wq ⟨rfl, rfl⟩)
      go_ret
      exact ⟨rfl, HX2.out.alloc HX2.out.size _⟩
    · rw [HPS.out] at hn; cases hn
  · exact absurd may1 hno
set_option maxRecDepth 100000 in
set_option maxHeartbeats 4000000 in
theorem CommandAny_walk (W : World) (A : Option Addr) (c : Nat) (xs : List (List UInt8)) (hrow : Row AskC W A xs) (hlc : xs.length ≤ c) (hcm : c ≤ maxLen) (hnone : A = none → xs.length = 0 ∧ c = 0) (hby : c * 24 ≤ reachBytes) :
    Calls Try.prog 11 #[.slice A xs.length c] W fun e w' => e = .returned (.bool true) ∧ Below W.heap.size W w' := by
  have HR := Lib.hid hrow
  have hlen : xs.length ≤ 9223372036854775807 := by unfold maxLen at hcm; omega
  clear hrow hnone hby hcm hlc
  go_enter Try.func11, Try.ntmps11
  go_wp2
  go_loopw [3] (fun i wr => ∃ k : Nat, k ≤ xs.length ∧ i = .int .i64 (k : Int) ∧ Hid (Below W.heap.size W wr)) (fun i _ => xs.length - (intOf i).toNat)
  case atStart => exact ⟨0, by omega, rfl, Below.refl _ _⟩
  case round =>
    obtain ⟨k, hk, rfl, HX⟩ := hrel
    obtain ⟨w0, rfl⟩ : ∃ x, x = wr := ⟨wr, rfl⟩
    by_cases h1 : k < xs.length ∧ k < 20
    · obtain ⟨h1, h2⟩ := h1
      have h1i : (k : Int) < (xs.length : Int) := by omega
      have h2i : (k : Int) < 20 := by omega
      obtain ⟨a, B, cb, rfl, hc0, hb1, hb3, hb4⟩ := askC_at (HR.out.ext HX.out (Nat.le_refl _)) k h1
      generalize xs[k] = bs at *
      obtain ⟨l, hl⟩ : ∃ l, l = bs.length := ⟨_, rfl⟩
      rw [← hl] at hc0 hb1 hb3
      have HL := Lib.hid hl.symm
      clear hl
      by_cases h4 : 4000 < l
      · have h4i : (4000 : Int) < (l : Int) := by omega
        go_wp2
        go_ret
        exact ⟨rfl, HX.out⟩
      · have h4i : ¬ (4000 : Int) < (l : Int) := by omega
        have HC0 := Lib.hid hc0
        have HB4 := Lib.hid hb4
        have HCP := Lib.hid (CopyBytes_any w0 B l cb bs HL.out (by omega) hb4)
        clear hb4
        go_wp2_with fail
        refine HCP.out.mono ?_
        rintro e w2 ⟨v, rfl, hown, hbe2⟩
        obtain ⟨A2, c2, rfl, p1, p2, p3, p4, p5⟩ := own_rds hown
        have HC0Q : Hid (∀ wz, Below w2.heap.size w2 wz → wz.cell? (a.add k) = some (.slice B l cb)) := Lib.hid (fun wz h => cell_ext h (Nat.le_refl _) (cell_ext hbe2 (Nat.le_refl _) HC0.out))
        have HB4Q : Hid (∀ wz, Below w2.heap.size w2 wz → Rds wz B (bytesV bs)) := Lib.hid (fun wz h => (HB4.out.ext hbe2 (Nat.le_refl _)).ext h (Nat.le_refl _))
        have HINQ : Hid (∀ wz, Below w2.heap.size w2 wz → Rds wz A2 (bytesV bs)) := Lib.hid (fun wz h => Rds.ext p4 h (Nat.le_refl _))
        have HX2 : Hid (Below W.heap.size W w2) := HX.out.trans (hbe2.mono HX.out.size)
        have HPA := Lib.hid (Parse_any w2 A2 l c2 bs HL.out p1 (by omega) p4)
        clear hbe2 hown p1 p2 p3 p4 p5 hc0 HC0 HB4 HX
        go_wp2_with fail
        refine HPA.out.mono ?_
        rintro e w3 ⟨hb3', ⟨x, hx, rfl⟩ | ⟨hno, rfl⟩⟩
        · obtain ⟨hbx, hmx⟩ := parse_split hx
          have HBX := Lib.hid hbx
          have HMX := Lib.hid hmx
          clear hbx hmx hx
          obtain ⟨x0, x1, x2, x3, x4⟩ := x
          have HB3 : Hid (Below w2.heap.size w2 w3) := hb3'
          have HB3S : Hid (w2.heap.size ≤ w3.heap.size) := hb3'.size
          clear hb3' HPA
          unfold cmdV
          dsimp only
          go_upto_region 8 with (fail)
          obtain ⟨w4, hw4⟩ : ∃ w4, w4 = w3.alloc (.cells #[.int .i64 x0, .int .i64 x1, .int .i64 x2, .string x3, .string x4] 61) := ⟨_, rfl⟩
          have hb4 : Below w3.heap.size w3 w4 := by rw [hw4]; exact (Below.refl _ _).alloc (Nat.le_refl _) _
          have HCM : Hid (Cm w4 w3.heap.size (x0, x1, x2, x3, x4)) := by rw [hw4]; exact Cm.new w3 (x0, x1, x2, x3, x4) _
          rw [← hw4]
          generalize w3.heap.size = p at *
          have HB4 : Hid (Below w2.heap.size w2 w4) := HB3.out.trans (hb4.mono HB3S.out)
          clear hw4 hb4
          have HEQ := Lib.hid (EqBytes_any w4 A2 l c2 bs HL.out (HINQ.out w4 HB4.out) B l cb bs HL.out (HB4Q.out w4 HB4.out) (by omega))
          rw [decide_eq_true rfl] at HEQ
          have hc0 := HC0Q.out w4 HB4.out
          obtain ⟨c0, c1, c2', c3, c4, f0, f1, f2, f3, f4, _⟩ := HCM.out
          dsimp only at c0 c1 c2' c3 c4
          go_wp2_with fail
          refine HEQ.out.mono ?_
          rintro e w5 ⟨rfl, q5, rfl⟩
          have HB5 : Hid (Below w2.heap.size w2 (w4.drewN q5)) := Lib.hid (HB4.out.trans ((drawn_below w4 q5).mono HB4.out.size))
          have HC5 := Lib.hid (HCM.out.ext (drawn_below w4 q5) (Nat.le_refl _))
          generalize w4.drewN q5 = w5 at *
          clear c0 c1 c2' c3 c4 f0 f1 f2 f3 f4 hc0 HEQ HCM HB4
          obtain ⟨c0, c1, c2', c3, c4, f0, f1, f2, f3, f4, _⟩ := HC5.out
          dsimp only at c0 c1 c2' c3 c4
          have HBY := Lib.hid (Bytes_any w5 (x0, x1, x2, x3, x4))
          unfold cmdV at HBY
          dsimp only at HBY
          go_wp2_with (go_at_call 36; refine (num16 _ _).mono ?_; rintro e wq ⟨rfl, rfl⟩)
          refine HBY.out.mono ?_
          rintro e w6 ⟨hb6, ⟨_, v6, rfl, hown6⟩ | ⟨hno6, _⟩⟩
          · obtain ⟨A6, c6, rfl, p1, p2, p3, p4, p5⟩ := own_rds hown6
            rw [HBX.out, HL.out] at p1 p3
            rw [HBX.out] at p4
            rw [HBX.out, HL.out]
            have HR6 := Lib.hid p4
            have HB6 : Hid (Below w2.heap.size w2 w6) := HB5.out.trans (hb6.mono HB5.out.size)
            have HC6 := Lib.hid (HC5.out.ext hb6 (Nat.le_refl _))
            clear c0 c1 c2' c3 c4 f0 f1 f2 f3 f4 hb6 hown6 p1 p2 p3 p4 p5 HBY HC5 HB5
            obtain ⟨c0, c1, c2', c3, c4, f0, f1, f2, f3, f4, _⟩ := HC6.out
            dsimp only at c0 c1 c2' c3 c4
            have HEQ := Lib.hid (EqBytes_any w6 A6 l c6 bs HL.out HR6.out B l cb bs HL.out (HB4Q.out w6 HB6.out) (by omega))
            rw [decide_eq_true rfl] at HEQ
            have hc0 := HC0Q.out w6 HB6.out
            go_wp2_with (go_at_call 36; refine (num16 _ _).mono ?_; rintro e wq ⟨rfl, rfl⟩)
            refine HEQ.out.mono ?_
            rintro e w7 ⟨rfl, q7, rfl⟩
            have HB7 : Hid (Below w2.heap.size w2 (w6.drewN q7)) := Lib.hid (HB6.out.trans ((drawn_below w6 q7).mono HB6.out.size))
            have HC7 := Lib.hid (HC6.out.ext (drawn_below w6 q7) (Nat.le_refl _))
            generalize w6.drewN q7 = w7 at *
            clear c0 c1 c2' c3 c4 f0 f1 f2 f3 f4 hc0 HEQ HC6 HB6 HR6
            obtain ⟨c0, c1, c2', c3, c4, f0, f1, f2, f3, f4, _⟩ := HC7.out
            dsimp only at c0 c1 c2' c3 c4
            have HRC := Lib.hid (refCommand_any w7 (x0, x1, x2, x3, x4))
            unfold cmdV at HRC
            dsimp only at HRC
            rw [decide_eq_true HMX.out] at HRC
            go_wp2_with (go_at_call 36; refine (num16 _ _).mono ?_; rintro e wq ⟨rfl, rfl⟩)
            refine HRC.out.mono ?_
            rintro e w8 ⟨rfl, hb8⟩
            have HB8 : Hid (Below w2.heap.size w2 w8) := HB7.out.trans (hb8.mono HB7.out.size)
            clear c0 c1 c2' c3 c4 f0 f1 f2 f3 f4 hb8 HRC
            go_wp2
            go_roundw
            case rel => exact ⟨k + 1, by omega, by go_num, HX2.out.trans (HB8.out.mono HX2.out.size)⟩
            case measure => first | (simp [intOf]; done) | (simp [intOf]; omega)
          · exact absurd HMX.out hno6
        · clear hno
          unfold noC
          have HB3 : Hid (Below w2.heap.size w2 w3) := hb3'
          have HB3S : Hid (w2.heap.size ≤ w3.heap.size) := hb3'.size
          clear hb3' HPA
          unfold cmdV
          dsimp only
          go_upto_region 8 with (fail)
          obtain ⟨w4, hw4⟩ : ∃ w4, w4 = w3.alloc (.cells #[.int .i64 0, .int .i64 0, .int .i64 0, .string ⟨#[]⟩, .string ⟨#[]⟩] 61) := ⟨_, rfl⟩
          have hb4 : Below w3.heap.size w3 w4 := by rw [hw4]; exact (Below.refl _ _).alloc (Nat.le_refl _) _
          have HCM : Hid (Cm w4 w3.heap.size noC) := by rw [hw4]; exact Cm.new w3 noC _
          rw [← hw4]
          generalize w3.heap.size = p at *
          have HB4 : Hid (Below w2.heap.size w2 w4) := HB3.out.trans (hb4.mono HB3S.out)
          clear hw4 hb4
          have HEQ := Lib.hid (EqBytes_any w4 A2 l c2 bs HL.out (HINQ.out w4 HB4.out) B l cb bs HL.out (HB4Q.out w4 HB4.out) (by omega))
          rw [decide_eq_true rfl] at HEQ
          have hc0 := HC0Q.out w4 HB4.out
          obtain ⟨c0, c1, c2', c3, c4, f0, f1, f2, f3, f4, _⟩ := HCM.out
          dsimp only [noC] at c0 c1 c2' c3 c4
          go_wp2_with fail
          refine HEQ.out.mono ?_
          rintro e w5 ⟨rfl, q5, rfl⟩
          have HB5 : Hid (Below w2.heap.size w2 (w4.drewN q5)) := Lib.hid (HB4.out.trans ((drawn_below w4 q5).mono HB4.out.size))
          have HC5 := Lib.hid (HCM.out.ext (drawn_below w4 q5) (Nat.le_refl _))
          generalize w4.drewN q5 = w5 at *
          clear c0 c1 c2' c3 c4 f0 f1 f2 f3 f4 hc0 HEQ HCM HB4
          obtain ⟨c0, c1, c2', c3, c4, f0, f1, f2, f3, f4, _⟩ := HC5.out
          dsimp only [noC] at c0 c1 c2' c3 c4
          go_wp2_with (go_at_call 36; refine (num16 _ _).mono ?_; rintro e wq ⟨rfl, rfl⟩)
          go_roundw
          case rel => exact ⟨k + 1, by omega, by go_num, HX2.out.trans (HB5.out.mono HX2.out.size)⟩
          case measure => first | (simp [intOf]; done) | (simp [intOf]; omega)
    · by_cases h2 : k < xs.length
      · have h1i : (k : Int) < (xs.length : Int) := by omega
        have h2i : ¬ (k : Int) < 20 := by omega
        go_wp2_with (go_at_call 39; refine (wakes16 _).mono ?_; rintro e w1 ⟨rfl, hb⟩)
        go_ret
        exact ⟨rfl, HX.out.trans (hb.mono HX.out.size)⟩
      · have h1i : ¬ (k : Int) < (xs.length : Int) := by omega
        go_wp2_with (go_at_call 39; refine (wakes16 _).mono ?_; rintro e w1 ⟨rfl, hb⟩)
        go_ret
        exact ⟨rfl, HX.out.trans (hb.mono HX.out.size)⟩
end Go.Proofs.Ytpdnkhdnenibgaa
