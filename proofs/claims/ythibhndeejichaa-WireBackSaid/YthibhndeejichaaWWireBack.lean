/- The walk of the law WireBack. -/
import Derived.Test.YthibhndeejichaaWakes10
import Derived.Test.YthibhndeejichaaBackL
import Derived.Test.YthibhndeejichaaQuiet
import Derived.Test.YthibhndeejichaaHelpCB
import Derived.Test.YthibhndeejichaaHelpES
set_option linter.unusedVariables false
set_option linter.unusedSimpArgs false
namespace Go.Proofs.Ythibhndeejichaa
open Go.RowKit Lec

set_option maxRecDepth 100000 in
set_option maxHeartbeats 2000000 in
theorem WireBack_walk (W : World) (A : Option Addr) (c : Nat) (xs : List (Int × List ByteArray × List UInt8)) (hrow : Row Ask10 W A xs) (hlc : xs.length ≤ c) (hcm : c ≤ maxLen) (hnone : A = none → xs.length = 0 ∧ c = 0) (hby : c * 56 ≤ reachBytes) :
    Calls Try.prog 13 #[.slice A xs.length c] W fun e w' => e = .returned (.bool true) ∧ Below W.heap.size W w' := by
  have HR := Lib.hid hrow
  have hlen : xs.length ≤ 9223372036854775807 := by unfold maxLen at hcm; omega
  clear hrow hnone hby hcm hlc
  go_enter Try.func13, Try.ntmps13
  go_wp2
  go_loopw [3] (fun i wr => ∃ k : Nat, k ≤ xs.length ∧ i = .int .i64 k ∧ Hid (Below W.heap.size W wr)) (fun i _ => xs.length - (intOf i).toNat)
  case atStart => exact ⟨0, by omega, rfl, Below.refl _ _⟩
  case round =>
    obtain ⟨k, hk, rfl, HX⟩ := hrel
    by_cases h1 : k < xs.length ∧ k < 12
    · obtain ⟨h1, h2⟩ := h1
      have h1i : (k : Int) < (xs.length : Int) := by omega
      have h2i : (k : Int) < 12 := by omega
      obtain ⟨a, B, cb, C, cc, rfl, hc0, hN, hc1, hc2, hb1, hb2, hb3, hb4, hb5, hd1, hd2, hd3, hd4⟩ := ask10_at HR.out k h1
      have HC0 := Lib.hid hc0
      have HC1 := Lib.hid hc1
      have HC2 := Lib.hid hc2
      have HB3 := Lib.hid hb3
      have HB4 := Lib.hid hb4
      have HB5 := Lib.hid hb5
      have HD4 := Lib.hid hd4
      have HD3 := Lib.hid hd3
      clear hb3 hb4 hb5 hd3 hd4 hc0 hc1 hc2
      generalize xs[k].1 = N at *
      generalize xs[k].2.1 = L at *
      generalize xs[k].2.2 = bs at *
      have hc0 := cell_ext HX.out (Nat.le_refl _) HC0.out
      have hc1 := cell_ext HX.out (Nat.le_refl _) HC1.out
      have hc2 := cell_ext HX.out (Nat.le_refl _) HC2.out
      by_cases hh : heavy10 L bs = true
      · go_wp2_with (go_at_call 21; refine (heavy10_any _ N B _ cb L rfl (by omega) HB5.out (HB4.out.ext HX.out (Nat.le_refl _)) C _ cc bs rfl).mono ?_; rintro e w1 ⟨rfl, hb⟩)
        go_ret
        exact ⟨rfl, HX.out.trans (hb.mono HX.out.size)⟩
      · have hh' : heavy10 L bs = false := by simpa using hh
        have HL := Lib.hid (heavy10_light hh')
        have hbl : bs.length ≤ 8000 := HL.out.2
        have hpl := putB_light HL.out.1
        have htl := HL.out.1
        clear hh
        go_wp2_with fail
        refine (heavy10_any _ N B _ cb L rfl (by omega) HB5.out (HB4.out.ext HX.out (Nat.le_refl _)) C _ cc bs rfl).mono ?_
        rintro e w1 ⟨rfl, hb⟩
        have HX1 : Hid (Below W.heap.size W w1) := HX.out.trans (hb.mono HX.out.size)
        clear hb hc0 hc1 hc2 HX
        have hc1 := cell_ext HX1.out (Nat.le_refl _) HC1.out
        go_wp2_with fail
        refine (Put_any w1 B _ cb L rfl (by omega) HB5.out (HB4.out.ext HX1.out (Nat.le_refl _))).mono ?_
        rintro e w2 ⟨hb, ⟨hle, v, rfl, hown⟩ | ⟨hlt, _⟩⟩
        case inr => exfalso; omega
        obtain ⟨A2, c2, rfl, p1, p2, q3, q4, q5⟩ := own_rds hown
        have hc2m : c2 ≤ 9223372036854775807 := by unfold maxLen at p2; omega
        have HX2 : Hid (Below W.heap.size W w2) := HX1.out.trans (hb.mono HX1.out.size)
        have HF : Hid (fits L) := ⟨by omega, fun s hs => by have := HB5.out s hs; omega⟩
        have HP2 := Lib.hid q4
        have HA2 : Hid (∀ a, A2 = some a → a.block < w2.heap.size) := fun a e => by obtain ⟨g, rfl, _, h⟩ := q5 a e; exact h
        have HG1 := Lib.hid (getL_put HF.out hle)
        have HG2 := Lib.hid (getL_behind HF.out (by omega))
        have HG3 := Lib.hid (fun k hk => getL_cut HF.out hle k hk)
        clear hb hown q3 q4 q5 hc1 p2
        generalize hpu : putB L = pl at *
        go_wp2_with fail
        refine (Get_any w2 A2 _ c2 pl rfl p1 (by omega) HP2.out).mono ?_
        rintro e w3 ⟨hb, ⟨hG, _⟩ | ⟨l, v, hG, rfl, hown⟩⟩
        case inl => rw [HG1.out] at hG; cases hG
        obtain rfl : L = l := by rw [HG1.out] at hG; exact Option.some.inj hG
        obtain ⟨A3, c3, rfl, q1, q2, q3, q4, q5⟩ := own_rds hown
        have HX3 : Hid (Below W.heap.size W w3) := HX2.out.trans (hb.mono HX2.out.size)
        have HL3 := Lib.hid q4
        have HP3 := Lib.hid (HP2.out.ext hb (Nat.le_refl _))
        have HA3 : Hid (∀ a, A2 = some a → a.block < w3.heap.size) := fun a e => Nat.lt_of_lt_of_le (HA2.out a e) hb.size
        clear hb hG hown q1 q2 q3 q4 q5 HX2 HP2 HA2 HG1
        go_wp2_with fail
        refine (CopyBytes_any w3 A2 _ c2 pl rfl (by omega) HP3.out).mono ?_
        rintro e w4 ⟨v, rfl, hown, hb4⟩
        obtain ⟨A4, c4, rfl, _, _, _, _, _⟩ := own_rds hown
        have HO4 := Lib.hid hown
        have HX4 : Hid (Below W.heap.size W w4) := HX3.out.trans (hb4.mono HX3.out.size)
        have HB4' := Lib.hid hb4
        clear hown hb4
        go_wp2_with (first
          | (at_builtin; refine wp_app1 (w0 := w4) rfl rfl _ _ 24 rfl w3.heap.size 5 (.int .u8 0) 1 1 Try.underlying24 info_b8 rfl (by decide) (by decide) _ pl.length _ rfl HO4.out rfl rfl (one_cell1 rfl) (by omega) HB4'.out.size ?_; intro v5 w5 hown5 hg5 hb5; obtain ⟨A5, c5, rfl, r1, r2, r3, r4, r5⟩ := own_rds hown5; have HB5' := Lib.hid hb5; clear hown5 hg5 hb5)
          | fail)
        have HX5 : Hid (Below W.heap.size W w5) := HX4.out.trans (HB5'.out.mono HX3.out.size)
        have HP5 : Hid (Rds w5 A5 (bytesV (pl ++ [0]))) := by show Rds _ _ _; unfold bytesV; rw [List.map_append]; exact r4
        have HA5 : Hid (∀ a, A5 = some a → a.block < w5.heap.size) := fun a e => by obtain ⟨g, rfl, _, h⟩ := r5 a e; exact h
        have hb35 := HB4'.out.trans HB5'.out
        have HP5b := Lib.hid (HP3.out.ext hb35 (Nat.le_refl _))
        have HL5 := Lib.hid (HL3.out.ext hb35 (Nat.le_refl _))
        clear hb35
        clear r3 r4 r5 HB4' HB5' HO4 HX4 HX3 HP3 HL3
        refine (Get_any w5 A5 _ c5 (pl ++ [0]) (by simp) r1 (by omega) HP5.out).mono ?_
        rintro e w6 ⟨hb6, ⟨hG, rfl⟩ | ⟨l2, v, hG, rfl, hown⟩⟩
        case inr => rw [HG2.out] at hG; cases hG
        have HX6 : Hid (Below W.heap.size W w6) := HX5.out.trans (hb6.mono HX5.out.size)
        have HP6 := Lib.hid (HP5b.out.ext hb6 (Nat.le_refl _))
        have HL6 := Lib.hid (HL5.out.ext hb6 (Nat.le_refl _))
        have HB6 := Lib.hid (HB4.out.ext HX6.out (Nat.le_refl _))
        clear hb6 hG HX5 HP5 HA5 HP5b HL5 r1 r2
        have hc1 := cell_ext HX6.out (Nat.le_refl _) HC1.out
        have hdl : decide (L = L) = true := by simp
        go_wp2_with fail
        refine (num10 _ _).mono ?_
        rintro e wq ⟨rfl, rfl⟩
        go_wp2_with fail
        refine (num10 _ _).mono ?_
        rintro e wq ⟨rfl, rfl⟩
        go_wp2_with fail
        refine (EqStrings_any w6 A3 _ c3 L rfl HL6.out B _ cb L rfl HB6.out (by omega)).mono ?_
        rintro e w7 ⟨rfl, q, rfl⟩
        have HP7 : Hid (Rds (w6.drewN q) A2 (bytesV pl)) := HP6.out
        have HX7 : Hid (Below W.heap.size W (w6.drewN q)) := HX6.out.trans ((drawn_below w6 q).mono HX6.out.size)
        clear hc1 HP6 HX6 HL6 HB6
        generalize w6.drewN q = w7 at *
        go_wp2_with fail
        refine (num10 _ _).mono ?_
        rintro e wq ⟨rfl, rfl⟩
        go_wp2
        go_loopw [10] (fun i wr => ∃ j : Nat, i = .int .i64 j ∧ j ≤ 4000000 ∧ Hid (Below w7.heap.size w7 wr)) (fun i _ => pl.length - (intOf i).toNat)
        case atStart => exact ⟨0, rfl, by omega, Below.refl _ _⟩
        case round =>
          obtain ⟨j, rfl, hj, HY⟩ := hrel
          have HYW : Hid (Below W.heap.size W _) := HX7.out.trans (HY.out.mono HX7.out.size)
          by_cases g1 : j < pl.length
          · have g1i : (j : Int) < (pl.length : Int) := by omega
            have HT := Lib.hid ((HP7.out.ext HY.out (Nat.le_refl _)).take j)
            go_wp2_with fail
            refine (Get_any _ A2 j c2 (pl.take j) (by rw [List.length_take]; omega) (by omega) (by omega) (by have := HT.out; rwa [map_take] at this)).mono ?_
            rintro e w8 ⟨hb8, ⟨hG, rfl⟩ | ⟨l2, v, hG, rfl, hown⟩⟩
            case inr => rw [HG3.out j g1] at hG; cases hG
            have HY8 : Hid (Below w7.heap.size w7 w8) := HY.out.trans (hb8.mono HY.out.size)
            clear hb8 hG HT HY HYW
            go_wp2_with fail
            refine (num10 _ _).mono ?_
            rintro e wq ⟨rfl, rfl⟩
            go_wp2
            exact ⟨⟨j + 1 + pl.length / 20, by refine congrArg _ ?_; omega, by omega, HY8⟩, by simp [intOf]; omega⟩
          · have g1i : ¬ (j : Int) < (pl.length : Int) := by omega
            have hc2 := cell_ext HYW.out (Nat.le_refl _) HC2.out
            go_wp2_with fail
            refine (Get_any _ C _ cc bs rfl hd1 (by omega) (HD4.out.ext HYW.out (Nat.le_refl _))).mono ?_
            rintro e w8 ⟨hb8, hpost⟩
            have HX8 : Hid (Below W.heap.size W w8) := HYW.out.trans (hb8.mono HYW.out.size)
            clear hb8 hc2 HYW HY HX7 HP7
            rcases hpost with ⟨hG, rfl⟩ | ⟨y, v, hG, rfl, hown⟩
            · go_wp2_with fail
              refine (num10 _ _).mono ?_
              rintro e wq ⟨rfl, rfl⟩
              go_wp2
              exact ⟨⟨k + 1, by omega, by go_num, HX8⟩, by simp [intOf]; omega⟩
            · obtain ⟨A9, c9, rfl, q1, q2, q3, q4, q5⟩ := own_rds hown
              have HE := Lib.hid (getL_split hG)
              have hyl := lens_le y
              rw [← HE.out] at hyl
              have HYL := Lib.hid hyl
              have hyl1 := hyl.1
              have HY9 := Lib.hid q4
              clear hG hown q1 q2 q3 q4 q5 hyl
              go_wp2_with fail
              refine (num10 _ _).mono ?_
              rintro e wq ⟨rfl, rfl⟩
              go_wp2_with fail
              refine (Put_any w8 A9 _ c9 y rfl (by omega) (fun s hs => by have := HYL.out.2 s hs; omega) HY9.out).mono ?_
              rintro e w9 ⟨hb9, ⟨hle9, v, rfl, hown⟩ | ⟨hlt, _⟩⟩
              case inr => rw [← HE.out] at hlt; exfalso; omega
              rw [← HE.out] at hown
              obtain ⟨A10, c10, rfl, q1, q2, q3, q4, q5⟩ := own_rds hown
              have HX9 : Hid (Below W.heap.size W w9) := HX8.out.trans (hb9.mono HX8.out.size)
              have HQ9 := Lib.hid q4
              have HD9 := Lib.hid (HD4.out.ext HX9.out (Nat.le_refl _))
              clear hb9 hown q1 q2 q3 q4 q5 hle9 HX8 HY9
              have hc2 := cell_ext HX9.out (Nat.le_refl _) HC2.out
              have hdb : decide (bs = bs) = true := by simp
              go_wp2_with (first
                | (go_at_call 23; refine (num10 _ _).mono ?_; rintro e wq ⟨rfl, rfl⟩)
                | (go_at_call 17; refine (EqBytes_any w9 A10 _ c10 bs rfl HQ9.out C _ cc bs rfl HD9.out (by omega)).mono ?_; rintro e w10 ⟨rfl, q, rfl⟩))
              exact ⟨⟨k + 1, by omega, by go_num, HX9.out.trans ((drawn_below w9 q).mono HX9.out.size)⟩, by simp [intOf]; omega⟩
    · by_cases h2 : k < xs.length
      · have h1i : (k : Int) < (xs.length : Int) := by omega
        have h2i : ¬ (k : Int) < 12 := by omega
        go_wp2_with (go_at_call 27; refine (wakes10 _).mono ?_; rintro e w1 ⟨rfl, hb⟩)
        go_ret
        exact ⟨rfl, HX.out.trans (hb.mono HX.out.size)⟩
      · have h1i : ¬ (k : Int) < (xs.length : Int) := by omega
        go_wp2_with (go_at_call 27; refine (wakes10 _).mono ?_; rintro e w1 ⟨rfl, hb⟩)
        go_ret
        exact ⟨rfl, HX.out.trans (hb.mono HX.out.size)⟩
end Go.Proofs.Ythibhndeejichaa
