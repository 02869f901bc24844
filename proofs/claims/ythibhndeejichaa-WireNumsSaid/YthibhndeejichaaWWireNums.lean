/- The walk of the law WireNums. -/
import Derived.Test.YthibhndeejichaaWakes10
import Derived.Test.YthibhndeejichaaWireGet
import Derived.Test.YthibhndeejichaaHelpCB
import Derived.Test.YthibhndeejichaaQuiet
set_option linter.unusedVariables false
set_option linter.unusedSimpArgs false
namespace Lec
theorem getR_num (n : Nat) (hn : n < 9223372036854775808) (rest : List UInt8) : getR (numB n ++ rest) = ((n : Int), ((numB n).length : Int), 0) := by
  unfold getR
  rw [getB_numB n 0 0 rest (by have := numB_len9 hn; omega) (by omega)]
  simp
theorem getR_ref (bs : List UInt8) : (getR bs).1 = (refR bs).1 ∧ (getR bs).2.1 = (refR bs).2 ∧ (((getR bs).2.2 = 0 ∧ 0 < (refR bs).2) ∨ ((getR bs).2.2 = 1 ∧ (refR bs).2 = 0)) := by
  unfold getR refR
  cases h : getB 0 0 bs with
  | none => simp
  | some x =>
    obtain ⟨m, k⟩ := x
    have := (getB_bound bs 0 0 m k (by omega) (by omega) h).2.1
    simp; omega
end Lec
namespace Go.Proofs.Ythibhndeejichaa
open Go.RowKit Lec

set_option maxRecDepth 100000 in
set_option maxHeartbeats 1000000 in
theorem WireNums_walk (W : World) (A : Option Addr) (c : Nat) (xs : List (Int × List ByteArray × List UInt8)) (hrow : Row Ask10 W A xs) (hlc : xs.length ≤ c) (hcm : c ≤ maxLen) (hnone : A = none → xs.length = 0 ∧ c = 0) (hby : c * 56 ≤ reachBytes) :
    Calls Try.prog 6 #[.slice A xs.length c] W fun e w' => e = .returned (.bool true) ∧ Below W.heap.size W w' := by
  have HR := Lib.hid hrow
  have hlen : xs.length ≤ 9223372036854775807 := by unfold maxLen at hcm; omega
  clear hrow hnone hby hcm hlc
  go_enter Try.func6, Try.ntmps6
  go_wp2
  go_loopw [3] (fun i wr => ∃ k : Nat, k ≤ xs.length ∧ i = .int .i64 k ∧ Hid (Below W.heap.size W wr)) (fun i _ => xs.length - (intOf i).toNat)
  case atStart => exact ⟨0, by omega, rfl, Below.refl _ _⟩
  case round =>
    obtain ⟨k, hk, rfl, HX⟩ := hrel
    by_cases h1 : k < xs.length ∧ k < 12
    · obtain ⟨h1, h2⟩ := h1
      have h1i : (k : Int) < (xs.length : Int) := by omega
      have h2i : (k : Int) < 12 := by omega
      obtain ⟨a, B, cb, C, cc, rfl, hc0, hN, hc1, hc2, hb1, hb2, hb3, hb4, hb5, hd1, hd2, hd3, hd4⟩ := ask10_at (HR.out.ext HX.out (Nat.le_refl _)) k h1
      have HB4 := Lib.hid hb4
      have HB5 := Lib.hid hb5
      have HD4 := Lib.hid hd4
      have HD3 := Lib.hid hd3
      clear hb3 hb4 hb5 hd3 hd4
      generalize xs[k].1 = N at *
      generalize xs[k].2.1 = L at *
      generalize xs[k].2.2 = bs at *
      by_cases hh : heavy10 L bs = true
      · go_wp2_with (go_at_call 21; refine (heavy10_any _ N B _ cb L rfl (by omega) HB5.out HB4.out C _ cc bs rfl).mono ?_; rintro e w1 ⟨rfl, hb⟩)
        go_ret
        exact ⟨rfl, HX.out.trans (hb.mono HX.out.size)⟩
      · have hh' : heavy10 L bs = false := by simpa using hh
        have HL := Lib.hid (heavy10_light hh')
        have hbl : bs.length ≤ 8000 := HL.out.2
        clear hh
        go_wp2_with fail
        refine (heavy10_any _ N B _ cb L rfl (by omega) HB5.out HB4.out C _ cc bs rfl).mono ?_
        rintro e w1 ⟨rfl, hb⟩
        have hc0' := cell_ext hb (Nat.le_refl _) hc0
        have hc2' := cell_ext hb (Nat.le_refl _) hc2
        have HX1 : Hid (Below W.heap.size W w1) := HX.out.trans (hb.mono HX.out.size)
        have HD5 := Lib.hid (HD4.out.ext hb (Nat.le_refl _))
        clear hb hc0 hc1 hc2 HB4 HD4 HX
        by_cases hneg : N < 0
        · go_wp2_with fail
          refine (Num_neg _ N hneg).mono ?_
          rintro e w2 ⟨rfl, rfl⟩
          go_wp2_with fail
          refine (num10 _ _).mono ?_
          rintro e w2 ⟨rfl, rfl⟩
          go_wp2_with fail
          refine (GetNum_any w1 C bs.length cc bs rfl (by omega) HD5.out).mono ?_
          rintro e wy ⟨rfl, rfl⟩
          have hg := getR_ref bs
          obtain ⟨g1, g2, g3⟩ := hg
          rw [g1, g2]
          have HG3 := Lib.hid g3
          generalize (getR bs).2.2 = ge at *
          clear g1 g2 g3
          go_wp2_with fail
          refine (refGetNum_any w1 C bs.length cc bs rfl (by omega) HD5.out).mono ?_
          rintro e wy ⟨rfl, hby⟩
          have HXY : Hid (Below W.heap.size W wy) := HX1.out.trans (hby.mono HX1.out.size)
          clear hby
          rcases HG3.out with ⟨q1, q2⟩ | ⟨q1, q2⟩
          · subst q1
            have t1 : ((refR bs).1 != (refR bs).1) = false := by simp
            have t2 : ((refR bs).2 != (refR bs).2) = false := by simp
            have t3 : ((refR bs).2 == 0) = false := by rw [beq_eq_false_iff_ne]; omega
            go_wp2_with (go_at_call 23; refine (num10 _ _).mono ?_; rintro e wq ⟨rfl, rfl⟩)
            go_roundw
            case rel => exact ⟨k + 1, by omega, by go_num, HXY⟩
            case measure => simp [intOf]; omega
          · subst q1
            have t1 : ((refR bs).1 != (refR bs).1) = false := by simp
            have t2 : ((refR bs).2 != (refR bs).2) = false := by simp
            have t3 : ((refR bs).2 == 0) = true := by rw [q2]; rfl
            have t4 : ¬ (0 : Int) < (refR bs).2 := by omega
            have Q2 := Lib.hid q2
            clear q2
            go_wp2_with (go_at_call 23; refine (num10 _ _).mono ?_; rintro e wq ⟨rfl, rfl⟩)
            go_roundw
            case rel => exact ⟨k + 1, by omega, by go_num, HXY⟩
            case measure => simp [intOf]; omega
        · obtain ⟨m, rfl⟩ : ∃ m : Nat, N = m := ⟨N.toNat, by omega⟩
          have hml : m < 9223372036854775808 := by omega
          have hni : ¬ (m : Int) < 0 := by omega
          have hnl := numB_len9 hml
          go_wp2_with fail
          refine (Num_any _ m hml).mono ?_
          rintro e w2 ⟨v, rfl, hown, hb⟩
          obtain ⟨A1, c1, rfl, q1, q2, q3, q4, q5⟩ := own_rds hown
          have hd0 := cell_ext hb (Nat.le_refl _) hc0'
          have hd2 := cell_ext hb (Nat.le_refl _) hc2'
          have HX2 : Hid (Below W.heap.size W w2) := HX1.out.trans (hb.mono HX1.out.size)
          have HD6 := Lib.hid (HD5.out.ext hb (Nat.le_refl _))
          have HQ4 := Lib.hid q4
          have HQ3 := Lib.hid q3
          clear hb hown q1 q2 q3 q4 q5 hc0' hc2' HD5 HX1
          go_wp2_with fail
          have hablk : (a.add (k * 3)).block < w2.heap.size := by have := World.block_lt_of_cell? w2 _ hd2; exact this
          have hnle : (numB m).length + bs.length ≤ 9223372036854775807 := by omega
          have hbb : ((numB m).length + bs.length) * 1 ≤ 140737488355328 := by omega
          go_region_held3 (fun w' => w'.cell? ⟨(a.add (k * 3)).block, (a.add (k * 3)).off + 2, none⟩ = some (.slice C bs.length cc)) (first | exact hd2 | exact hd3 | exact hd4)
            (first
              | (go_at_call 14; refine (CopyBytes_any w2.drew A1 _ c1 (numB m) rfl (by omega) HQ4.out).mono ?_; rintro e w3 ⟨v3, rfl, hown3, hb3⟩; obtain ⟨A3, c3, rfl, r1, r2, r3, r4, r5⟩ := own_rds hown3; have hd3 := cell_ext hb3 (Nat.le_refl _) hd2; have HO3 := Lib.hid hown3; have HB3 := Lib.hid hb3; clear r1 r2 r3 r4 r5 hown3 hb3)
              | (refine step_app rfl _ _ 24 rfl w2.heap.size 5 (.int .u8 0) 1 1 Try.underlying24 info_b8 rfl (by decide) (by decide) _ (numB m).length _ rfl HO3.out C bs.length cc (bytesV bs) rfl HD3.out (by simp) (Rds.ext (w := w2.drew) HD6.out HB3.out (Nat.le_refl _)) (bytes_one _) hbb HB3.out.size ?_; intro v4 w4 hown4 hg4; go_loud (obtain ⟨A4, c4, rfl, s1, s2, s3, s4, s5⟩ := own_rds hown4; have hd4 := grown_cell hg4 HO3.out hd3 hablk; have HS4 : Hid (Rds w4 A4 (bytesV (numB m ++ bs))) := bytes_app s4; have HG4 := Lib.hid hg4; clear s1 s2 s3 s4 s5 hown4 hg4))
              | (go_at_call 24; refine (GetNum_any w4 A4 ((numB m).length + bs.length) c4 (numB m ++ bs) (List.length_append) hnle HS4.out).mono ?_; rintro e w5 ⟨rfl, rfl⟩; rw [getR_num m hml bs]))
          have hablk0 : (a.add (k * 3)).block < w2.heap.size := by have := World.block_lt_of_cell? w2 _ hd0; exact this
          have hd50 := grown_cell HG4.out HO3.out (cell_ext HB3.out (Nat.le_refl _) hd0) hablk0
          have HX4 : Hid (Below W.heap.size W w4) := by
            have h3 : Below W.heap.size W w3 := HX2.out.drew.trans (HB3.out.mono HX2.out.size)
            exact h3.grown HG4.out h3.size (fun k hk => Nat.le_trans HX2.out.size (HO3.out.lt k hk).1)
          have HQ5 : Hid (Rds w4 A1 (bytesV (numB m))) := grown_rds HG4.out HO3.out (Rds.ext (w := w2.drew) HQ4.out HB3.out (Nat.le_refl _)) (fun a e hp => Rds.blk (w := w2) HQ4.out e hp)
          have HD7 : Hid (Rds w4 C (bytesV bs)) := grown_rds HG4.out HO3.out (Rds.ext (w := w2.drew) HD6.out HB3.out (Nat.le_refl _)) (fun a e hp => Rds.blk (w := w2) HD6.out e hp)
          clear HG4 HO3 HB3 HD6 HQ4 hd2 hd3 HS4 HX2
          go_wp2_with fail
          refine (num10 _ _).mono ?_
          rintro e wq ⟨rfl, rfl⟩
          go_wp2_with fail
          refine (refNum_any w4 m hml).mono ?_
          rintro e w5 ⟨v5, rfl, hown5, hb5⟩
          obtain ⟨A5, c5, rfl, p1, p2, p3, p4, p5⟩ := own_rds hown5
          have HP4 := Lib.hid p4
          have hd6 := cell_ext hb5 (Nat.le_refl _) hd50
          have hd62 := cell_ext hb5 (Nat.le_refl _) hd4
          have HQ6 := Lib.hid (HQ5.out.ext hb5 (Nat.le_refl _))
          have HD8 := Lib.hid (HD7.out.ext hb5 (Nat.le_refl _))
          have HX5 : Hid (Below W.heap.size W w5) := HX4.out.trans (hb5.mono HX4.out.size)
          clear p1 p2 p3 p4 p5 hown5 hb5 HQ5 HD7 HX4 hd4 hd50
          go_wp2_with fail
          refine (EqBytes_any w5 A1 _ c1 (numB m) rfl HQ6.out A5 _ c5 (numB m) rfl HP4.out (by omega)).mono ?_
          rintro e w6 ⟨rfl, q, rfl⟩
          have hdd : decide (numB m = numB m) = true := by simp
          have hmm : ((m : Int) != (m : Int)) = false := by simp
          have hll : (((numB m).length : Int) != ((numB m).length : Int)) = false := by simp
          have hd7 : (w5.drewN q).cell? (a.add (k * 3)) = some (.int .i64 (m : Int)) := hd6
          have hd72 : (w5.drewN q).cell? ⟨(a.add (k * 3)).block, (a.add (k * 3)).off + 2, none⟩ = some (.slice C bs.length cc) := hd62
          have HD9 : Hid (Rds (w5.drewN q) C (bytesV bs)) := HD8.out
          have HX6 : Hid (Below W.heap.size W (w5.drewN q)) := HX5.out.trans ((drawn_below w5 q).mono HX5.out.size)
          clear HD8 HX5 hd6 hd62 HQ6
          generalize w5.drewN q = w7 at *
          go_wp2_with fail
          refine (num10 _ _).mono ?_
          rintro e wq ⟨rfl, rfl⟩
          go_wp2_with fail
          refine (GetNum_any w7 C bs.length cc bs rfl (by omega) HD9.out).mono ?_
          rintro e wy ⟨rfl, rfl⟩
          have hg := getR_ref bs
          obtain ⟨g1, g2, g3⟩ := hg
          rw [g1, g2]
          have HG3 := Lib.hid g3
          generalize (getR bs).2.2 = ge at *
          clear g1 g2 g3
          go_wp2_with fail
          refine (refGetNum_any w7 C bs.length cc bs rfl (by omega) HD9.out).mono ?_
          rintro e wy ⟨rfl, hby⟩
          have HXY : Hid (Below W.heap.size W wy) := HX6.out.trans (hby.mono HX6.out.size)
          clear hby
          rcases HG3.out with ⟨q1, q2⟩ | ⟨q1, q2⟩
          · subst q1
            have t1 : ((refR bs).1 != (refR bs).1) = false := by simp
            have t2 : ((refR bs).2 != (refR bs).2) = false := by simp
            have t3 : ((refR bs).2 == 0) = false := by rw [beq_eq_false_iff_ne]; omega
            go_wp2_with (go_at_call 23; refine (num10 _ _).mono ?_; rintro e wq ⟨rfl, rfl⟩)
            go_roundw
            case rel => exact ⟨k + 1, by omega, by go_num, HXY⟩
            case measure => simp [intOf]; omega
          · subst q1
            have t1 : ((refR bs).1 != (refR bs).1) = false := by simp
            have t2 : ((refR bs).2 != (refR bs).2) = false := by simp
            have t3 : ((refR bs).2 == 0) = true := by rw [q2]; rfl
            have t4 : ¬ (0 : Int) < (refR bs).2 := by omega
            have Q2 := Lib.hid q2
            clear q2
            go_wp2_with (go_at_call 23; refine (num10 _ _).mono ?_; rintro e wq ⟨rfl, rfl⟩)
            go_roundw
            case rel => exact ⟨k + 1, by omega, by go_num, HXY⟩
            case measure => simp [intOf]; omega
    · by_cases h2 : k < xs.length
      · have h1i : (k : Int) < (xs.length : Int) := by omega
        have h2i : ¬ (k : Int) < 12 := by omega
        go_wp2_with (go_at_call 27; refine (wakes10 _).mono ?_; rintro e w1 ⟨rfl, hb⟩)
        go_ret
        exact ⟨rfl, HX.out.trans (hb.mono HX.out.size)⟩
      · have h1i : ¬ (k : Int) < (xs.length : Int) := by omega
        go_wp2_with (go_at_call 27; refine (wakes10 _).mono ?_; rintro e w1 ⟨rfl, hb⟩)
        go_ret
        exact ⟨rfl, HX.out.trans (hb.mono HX.out.size)⟩
end Go.Proofs.Ythibhndeejichaa
