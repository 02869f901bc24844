/- The walk of the law WirePuts. -/
import Derived.Test.YthibhndeejichaaWakes10
import Derived.Test.YthibhndeejichaaRefGet
import Derived.Test.YthibhndeejichaaSpoilB
import Derived.Test.YthibhndeejichaaHelpCB
import Derived.Test.YthibhndeejichaaHelpES
set_option linter.unusedVariables false
set_option linter.unusedSimpArgs false
namespace Go.Proofs.Ythibhndeejichaa
open Go.RowKit Lec

set_option maxRecDepth 100000 in
set_option maxHeartbeats 2000000 in
theorem WirePuts_walk (W : World) (A : Option Addr) (c : Nat) (xs : List (Int × List ByteArray × List UInt8)) (hrow : Row Ask10 W A xs) (hlc : xs.length ≤ c) (hcm : c ≤ maxLen) (hnone : A = none → xs.length = 0 ∧ c = 0) (hby : c * 56 ≤ reachBytes) :
    Calls Try.prog 12 #[.slice A xs.length c] W fun e w' => e = .returned (.bool true) ∧ Below W.heap.size W w' := by
  have HR := Lib.hid hrow
  have hlen : xs.length ≤ 9223372036854775807 := by unfold maxLen at hcm; omega
  clear hrow hnone hby hcm hlc
  go_enter Try.func12, Try.ntmps12
  go_wp2
  go_loopw [3] (fun i wr => ∃ k : Nat, k ≤ xs.length ∧ i = .int .i64 k ∧ Hid (Below W.heap.size W wr)) (fun i _ => xs.length - (intOf i).toNat)
  case atStart => exact ⟨0, by omega, rfl, Below.refl _ _⟩
  case round =>
    obtain ⟨k, hk, rfl, HX⟩ := hrel
    by_cases h1 : k < xs.length ∧ k < 12
    · obtain ⟨h1, h2⟩ := h1
      have h1i : (k : Int) < (xs.length : Int) := by omega
      have h2i : (k : Int) < 12 := by omega
      obtain ⟨a, B, cb, C, cc, rfl, hc0, hN, hc1, hc2, hb1, hb2, hb3, hb4, hb5, hd1, hd2, hd3, hd4⟩ := ask10_at HR.out k h1
      have HC0 := Lib.hid hc0
      have HC1 := Lib.hid hc1
      have HC2 := Lib.hid hc2
      have HB3 := Lib.hid hb3
      have HB4 := Lib.hid hb4
      have HB5 := Lib.hid hb5
      have HD4 := Lib.hid hd4
      have HD3 := Lib.hid hd3
      clear hb3 hb4 hb5 hd3 hd4 hc0 hc1 hc2
      generalize xs[k].1 = N at *
      generalize xs[k].2.1 = L at *
      generalize xs[k].2.2 = bs at *
      have hc0 := cell_ext HX.out (Nat.le_refl _) HC0.out
      have hc1 := cell_ext HX.out (Nat.le_refl _) HC1.out
      have hc2 := cell_ext HX.out (Nat.le_refl _) HC2.out
      by_cases hh : heavy10 L bs = true
      · go_wp2_with (go_at_call 21; refine (heavy10_any _ N B _ cb L rfl (by omega) HB5.out (HB4.out.ext HX.out (Nat.le_refl _)) C _ cc bs rfl).mono ?_; rintro e w1 ⟨rfl, hb⟩)
        go_ret
        exact ⟨rfl, HX.out.trans (hb.mono HX.out.size)⟩
      · have hh' : heavy10 L bs = false := by simpa using hh
        have HL := Lib.hid (heavy10_light hh')
        have hbl : bs.length ≤ 8000 := HL.out.2
        have hpl := putB_light HL.out.1
        have htl := HL.out.1
        clear hh
        go_wp2_with fail
        refine (heavy10_any _ N B _ cb L rfl (by omega) HB5.out (HB4.out.ext HX.out (Nat.le_refl _)) C _ cc bs rfl).mono ?_
        rintro e w1 ⟨rfl, hb⟩
        have HX1 : Hid (Below W.heap.size W w1) := HX.out.trans (hb.mono HX.out.size)
        clear hb hc0 hc1 hc2 HX
        have hc1 := cell_ext HX1.out (Nat.le_refl _) HC1.out
        go_wp2_with fail
        refine (Put_any w1 B _ cb L rfl (by omega) HB5.out (HB4.out.ext HX1.out (Nat.le_refl _))).mono ?_
        rintro e w2 ⟨hb, ⟨hle, v, rfl, hown⟩ | ⟨hlt, _⟩⟩
        case inr => exfalso; omega
        obtain ⟨A2, c2, rfl, q1, q2, q3, q4, q5⟩ := own_rds hown
        have HO2 := Lib.hid hown
        have HX2 : Hid (Below W.heap.size W w2) := HX1.out.trans (hb.mono HX1.out.size)
        have HS2 := Lib.hid hb.size
        clear hb hown q1 q2 q3 q4 q5 hc1
        have hc1 := cell_ext HX2.out (Nat.le_refl _) HC1.out
        go_wp2_with fail
        refine (refPut_any w2 B _ cb L rfl (by omega) HB5.out hle (HB4.out.ext HX2.out (Nat.le_refl _))).mono ?_
        rintro e w3 ⟨v, rfl, hown, hb⟩
        obtain ⟨A3, c3, rfl, q1, q2, q3, q4, q5⟩ := own_rds hown
        have HX3 : Hid (Below W.heap.size W w3) := HX2.out.trans (hb.mono HX2.out.size)
        have HO3 := Lib.hid (own_ext HO2.out hb (Nat.le_refl _))
        obtain ⟨A2', c2', e2, r1, r2, r3, r4, r5⟩ := own_rds HO3.out
        obtain ⟨rfl, rfl⟩ : A2 = A2' ∧ c2 = c2' := by simpa using e2
        have HQ4 := Lib.hid q4
        have HR4 := Lib.hid r4
        have HBASE : Hid (W.heap.size ≤ w1.heap.size ∧ w1.heap.size ≤ w3.heap.size) := ⟨HX1.out.size, Nat.le_trans HS2.out hb.size⟩
        clear hb hown q1 q2 q3 q4 q5 r1 r2 r3 r4 r5 e2 hc1 HO2
        generalize hpu : putB L = pl at *
        go_wp2_with fail
        refine (num10 _ _).mono ?_
        rintro e wq ⟨rfl, rfl⟩
        go_wp2_with fail
        refine (EqBytes_any w3 A2 _ c2 pl rfl HR4.out A3 _ c3 pl rfl HQ4.out (by omega)).mono ?_
        rintro e w4 ⟨rfl, q, rfl⟩
        have hdd : decide (pl = pl) = true := by simp
        have HO4 : Hid ((w3.drewN q).ownsRow w1.heap.size 5 1 (.slice A2 pl.length c2) pl.length (bytesV pl)) := HO3.out
        have HX4 : Hid (Below W.heap.size W (w3.drewN q)) := HX3.out.trans ((drawn_below w3 q).mono HX3.out.size)
        have HS4 : Hid (w1.heap.size ≤ (w3.drewN q).heap.size) := HBASE.out.2
        clear HO3 HX3 HR4 HQ4
        generalize w3.drewN q = w4 at *
        go_wp2_with fail
        refine (spoilB_any w4 w1.heap.size _ pl.length pl rfl (by omega) HS4.out HO4.out).mono ?_
        rintro e w5 ⟨rfl, hg5⟩
        have HX5 : Hid (Below W.heap.size W w5) := HX4.out.grown hg5 HX4.out.size (fun k hk => Nat.le_trans HBASE.out.1 (HO4.out.lt k hk).1)
        clear hg5 HO4 HX4 HS4 HBASE
        have hc2 := cell_ext HX5.out (Nat.le_refl _) HC2.out
        go_wp2_with fail
        refine (CopyBytes_any w5 C _ cc bs rfl (by omega) (HD4.out.ext HX5.out (Nat.le_refl _))).mono ?_
        rintro e w6 ⟨v, rfl, hown, hb⟩
        obtain ⟨A6, c6, rfl, q1, q2, q3, q4, q5⟩ := own_rds hown
        have HX6 : Hid (Below W.heap.size W w6) := HX5.out.trans (hb.mono HX5.out.size)
        have HQ4 := Lib.hid q4
        have HQ5 : Hid (∀ a, A6 = some a → a.block < w6.heap.size) := fun a e => by obtain ⟨g, rfl, _, h⟩ := q5 a e; exact h
        clear hb hown q2 q3 q4 q5 hc2 HX5
        go_wp2_with fail
        refine (Get_any w6 A6 _ c6 bs rfl q1 (by omega) HQ4.out HQ5.out).mono ?_
        rintro e w7 ⟨hb7, hpost⟩
        have HX7 : Hid (Below W.heap.size W w7) := HX6.out.trans (hb7.mono HX6.out.size)
        have HQ7 := Lib.hid (HQ4.out.ext hb7 (Nat.le_refl _))
        have HD7 := Lib.hid (HD4.out.ext HX7.out (Nat.le_refl _))
        have hc2 := cell_ext HX7.out (Nat.le_refl _) HC2.out
        clear hb7 HX6 HQ4 HQ5
        rcases hpost with ⟨hG, rfl⟩ | ⟨l, v, hG, rfl, hown⟩
        · have HG := Lib.hid hG
          clear hG
          go_wp2_with fail
          refine (refGet_any w7 C _ cc bs rfl hd1 (by omega) HD7.out).mono ?_
          rintro e w8 ⟨hb8, ⟨hG2, v8, rfl⟩ | ⟨l2, v8, hG2, _, _⟩⟩
          · have HX8 : Hid (Below W.heap.size W w8) := HX7.out.trans (hb8.mono HX7.out.size)
            have HQ8 := Lib.hid (HQ7.out.ext hb8 (Nat.le_refl _))
            have HD8 := Lib.hid (HD4.out.ext HX8.out (Nat.le_refl _))
            clear hc2 hb8 HX7 HQ7 HD7 hG2
            have hc2 := cell_ext HX8.out (Nat.le_refl _) HC2.out
            have hdb : decide (bs = bs) = true := by simp
            go_wp2_with (first
              | (go_at_call 23; refine (num10 _ _).mono ?_; rintro e wq ⟨rfl, rfl⟩)
              | (go_at_call 17; refine (EqBytes_any w8 A6 _ c6 bs rfl HQ8.out C _ cc bs rfl HD8.out (by omega)).mono ?_; rintro e w9 ⟨rfl, q, rfl⟩))
            exact ⟨⟨k + 1, by omega, by go_num, HX8.out.trans ((drawn_below w8 q).mono HX8.out.size)⟩, by simp [intOf]; omega⟩
          · rw [HG.out] at hG2; cases hG2
        · have HG := Lib.hid hG
          obtain ⟨A8, c8, rfl, q1, q2, q3, q4, q5⟩ := own_rds hown
          have HL7 := Lib.hid q4
          have HLL := Lib.hid q2
          clear hG hown q1 q2 q3 q4 q5
          go_wp2_with fail
          refine (refGet_any w7 C _ cc bs rfl hd1 (by omega) HD7.out).mono ?_
          rintro e w8 ⟨hb8, ⟨hG2, v8, rfl⟩ | ⟨l2, v8, hG2, rfl, hown⟩⟩
          · rw [HG.out] at hG2; cases hG2
          · obtain rfl : l = l2 := by rw [HG.out] at hG2; exact Option.some.inj hG2
            obtain ⟨A9, c9, rfl, q1, q2, q3, q4, q5⟩ := own_rds hown
            have HX8 : Hid (Below W.heap.size W w8) := HX7.out.trans (hb8.mono HX7.out.size)
            have HQ8 := Lib.hid (HQ7.out.ext hb8 (Nat.le_refl _))
            have HD8 := Lib.hid (HD4.out.ext HX8.out (Nat.le_refl _))
            have HL8 := Lib.hid (HL7.out.ext hb8 (Nat.le_refl _))
            have HL9 := Lib.hid q4
            have hll : l.length ≤ 9223372036854775807 := by have := Nat.le_trans q1 q2; unfold maxLen at this; omega
            clear hc2 hb8 HX7 HQ7 HD7 hG2 hown q1 q2 q3 q4 q5
            have hc2 := cell_ext HX8.out (Nat.le_refl _) HC2.out
            have hdb : decide (bs = bs) = true := by simp
            have hdl : decide (l = l) = true := by simp
            go_wp2_with fail
            refine (num10 _ _).mono ?_
            rintro e wq ⟨rfl, rfl⟩
            go_wp2_with fail
            refine (EqStrings_any w8 A8 _ _ l rfl HL8.out A9 _ c9 l rfl HL9.out hll).mono ?_
            rintro e w9 ⟨rfl, q, rfl⟩
            have hc9 : (w8.drewN q).cell? ⟨(a.add (k * 3)).block, (a.add (k * 3)).off + 2, none⟩ = some (.slice C bs.length cc) := hc2
            have HQ9 : Hid (Rds (w8.drewN q) A6 (bytesV bs)) := HQ8.out
            have HD9 : Hid (Rds (w8.drewN q) C (bytesV bs)) := HD8.out
            have HX9 : Hid (Below W.heap.size W (w8.drewN q)) := HX8.out.trans ((drawn_below w8 q).mono HX8.out.size)
            clear hc2 HQ8 HD8 HX8 HL8 HL9
            generalize w8.drewN q = w9 at *
            go_wp2_with fail
            refine (EqBytes_any w9 A6 _ c6 bs rfl HQ9.out C _ cc bs rfl HD9.out (by omega)).mono ?_
            rintro e w10 ⟨rfl, q2, rfl⟩
            go_wp2_with fail
            exact ⟨⟨k + 1, by omega, by go_num, HX9.out.trans ((drawn_below w9 q2).mono HX9.out.size)⟩, by simp [intOf]; omega⟩
    · by_cases h2 : k < xs.length
      · have h1i : (k : Int) < (xs.length : Int) := by omega
        have h2i : ¬ (k : Int) < 12 := by omega
        go_wp2_with (go_at_call 27; refine (wakes10 _).mono ?_; rintro e w1 ⟨rfl, hb⟩)
        go_ret
        exact ⟨rfl, HX.out.trans (hb.mono HX.out.size)⟩
      · have h1i : ¬ (k : Int) < (xs.length : Int) := by omega
        go_wp2_with (go_at_call 27; refine (wakes10 _).mono ?_; rintro e w1 ⟨rfl, hb⟩)
        go_ret
        exact ⟨rfl, HX.out.trans (hb.mono HX.out.size)⟩
end Go.Proofs.Ythibhndeejichaa
