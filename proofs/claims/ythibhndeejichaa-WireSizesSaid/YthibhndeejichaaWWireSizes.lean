/- The walk of the law WireSizes. -/
import Derived.Test.YthibhndeejichaaWakes10
import Derived.Test.YthibhndeejichaaWireGet
import Derived.Test.YthibhndeejichaaQuiet
set_option linter.unusedVariables false
set_option linter.unusedSimpArgs false
namespace Lec
open Go Go.RowKit
theorem pow128 (k : Nat) : (128 : Nat) ^ k = 2 ^ (7 * k) := by rw [Nat.pow_mul]
theorem len_pow (i : Nat) : (numB (2 ^ i)).length = i / 7 + 1 := by
  have h1 : i / 7 < (numB (2 ^ i)).length := numB_len_lo _ _ (by rw [pow128]; exact Nat.pow_le_pow_right (by omega) (by omega))
  have h2 : (numB (2 ^ i)).length ≤ i / 7 + 1 := numB_len _ _ (by rw [pow128]; exact Nat.pow_lt_pow_right (by omega) (by omega)) (by omega)
  omega
theorem len_pow1 (i : Nat) : (numB (2 ^ i - 1)).length = max 1 ((i + 6) / 7) := by
  rcases Nat.eq_zero_or_pos i with rfl | hp
  · rw [show 2 ^ 0 - 1 = 0 from rfl, numB_small (by omega)]; rfl
  · have hq : 0 < (i + 6) / 7 := by omega
    have hpos : 0 < 2 ^ i := Nat.pow_pos (by omega)
    have h2 : (numB (2 ^ i - 1)).length ≤ (i + 6) / 7 := numB_len _ _ (by
      rw [pow128]
      have : 2 ^ i ≤ 2 ^ (7 * ((i + 6) / 7)) := Nat.pow_le_pow_right (by omega) (by omega)
      omega) hq
    have h1 : (i + 6) / 7 - 1 < (numB (2 ^ i - 1)).length := numB_len_lo _ _ (by
      rw [pow128]
      have h3 : 2 ^ (7 * ((i + 6) / 7 - 1)) ≤ 2 ^ (i - 1) := Nat.pow_le_pow_right (by omega) (by omega)
      have h4 : 2 ^ i = 2 ^ (i - 1) * 2 := by rw [← Nat.pow_succ]; congr 1; omega
      have h5 : 0 < 2 ^ (i - 1) := Nat.pow_pos (by omega)
      omega)
    rw [Nat.max_eq_right hq]; omega
theorem pow_lt63 {i : Nat} (h : i < 63) : 2 ^ i < 9223372036854775808 := by
  have : 2 ^ i ≤ 2 ^ 62 := Nat.pow_le_pow_right (by omega) (by omega)
  omega
theorem getR_num0 (n : Nat) (hn : n < 9223372036854775808) : getR (numB n) = ((n : Int), ((numB n).length : Int), 0) := by
  unfold getR
  have := getB_numB n 0 0 [] (by have := numB_len9 hn; omega) (by omega)
  rw [List.append_nil] at this
  rw [this]; simp
def longNum : List UInt8 := [255, 255, 255, 255, 255, 255, 255, 255, 255, 1]
def flatNum : List UInt8 := [128, 0]
abbrev u8v (b : UInt8) : Value := .int .u8 (b.toNat : Int)
def longV : Array Value := #[.int .u8 255, .int .u8 255, .int .u8 255, .int .u8 255, .int .u8 255, .int .u8 255, .int .u8 255, .int .u8 255, .int .u8 255, .int .u8 1]
def flatV : Array Value := #[.int .u8 128, .int .u8 0]
theorem long_row : longV.toList = longNum.map u8v := by simp [longV, longNum, u8v]
theorem flat_row : flatV.toList = flatNum.map u8v := by simp [flatV, flatNum, u8v]
theorem long_len : longNum.length = 10 := rfl
theorem flat_len : flatNum.length = 2 := rfl
theorem long_rds (w : World) (t : TypeId) : Rds (w.alloc (.cells longV t)) (some ⟨w.heap.size, 0, none⟩) (bytesV longNum) := rds_new_of u8v w longNum t longV long_row
theorem flat_rds (w : World) (t : TypeId) : Rds (w.alloc (.cells flatV t)) (some ⟨w.heap.size, 0, none⟩) (bytesV flatNum) := rds_new_of u8v w flatNum t flatV flat_row
theorem get_long : getR longNum = (0, 0, 1) := by decide
theorem get_flat : getR flatNum = (0, 0, 1) := by decide
theorem put_none : putB [] = [0] := by show numB 0 ++ [] = _; rw [numB_small (by omega)]; rfl
theorem textsLen_take_step {ss : List ByteArray} {k : Nat} (h : k < ss.length) : textsLen (ss.take (k + 1)) = textsLen (ss.take k) + ss[k].size := by
  unfold textsLen; rw [List.take_succ_eq_append_getElem h, List.map_append, List.sum_append]; simp
theorem textsLen_take_le (ss : List ByteArray) (k : Nat) : textsLen (ss.take k) ≤ textsLen ss := by
  have : textsLen ss = textsLen (ss.take k) + textsLen (ss.drop k) := by
    unfold textsLen; rw [← List.sum_append, ← List.map_append, List.take_append_drop]
  omega
theorem below_dr {W w w' : World} {o : Obj} {q : Nat} (h : Below W.heap.size W w) (hb : Below ((w.alloc o).drewN q).heap.size ((w.alloc o).drewN q) w') : Below W.heap.size W w' := by
  have h1 : Below W.heap.size W (w.alloc o) := h.alloc h.size _
  have h2 := h1.trans ((drawn_below _ q).mono h1.size)
  exact h2.trans (hb.mono h2.size)
theorem wpow {k : Nat} (h : k < 63) : wrap64 (2 ^ k : Int) = ((2 ^ k : Nat) : Int) := by
  have := pow_lt63 h
  have e : (2 ^ k : Int) = ((2 ^ k : Nat) : Int) := by rw [Int.natCast_pow]; rfl
  rw [e]; generalize 2 ^ k = q at *; unfold wrap64; omega
theorem wpow1 {k : Nat} (h : k < 63) : wrap64 (2 ^ k - 1 : Int) = ((2 ^ k - 1 : Nat) : Int) := by
  have h1 := pow_lt63 h
  have hp : 0 < 2 ^ k := Nat.pow_pos (by omega)
  have e : (2 ^ k : Int) = ((2 ^ k : Nat) : Int) := by rw [Int.natCast_pow]; rfl
  rw [e]; generalize 2 ^ k = q at *; unfold wrap64; omega
end Lec
namespace Go.Proofs.Ythibhndeejichaa
open Go.RowKit Lec

set_option maxRecDepth 100000 in
set_option maxHeartbeats 1000000 in
theorem WireSizes_walk (W : World) (A : Option Addr) (c : Nat) (xs : List (Int × List ByteArray × List UInt8)) (hrow : Row Ask10 W A xs) (hlc : xs.length ≤ c) (hcm : c ≤ maxLen) (hnone : A = none → xs.length = 0 ∧ c = 0) (hby : c * 56 ≤ reachBytes) :
    Calls Try.prog 7 #[.slice A xs.length c] W fun e w' => e = .returned (.bool true) ∧ Below W.heap.size W w' := by
  have HR := Lib.hid hrow
  have hlen : xs.length ≤ 9223372036854775807 := by unfold maxLen at hcm; omega
  clear hrow hnone hby hcm hlc
  go_enter Try.func7, Try.ntmps7
  go_wp2
  go_loopw [3] (fun i wr => ∃ k : Nat, k ≤ 63 ∧ i = .int .i64 k ∧ Hid (Below W.heap.size W wr)) (fun i _ => 63 - (intOf i).toNat)
  case atStart => exact ⟨0, by omega, rfl, Below.refl _ _⟩
  case round =>
    obtain ⟨k, hk, rfl, HX⟩ := hrel
    by_cases h1 : k < 63
    · have h1i : (k : Int) < 63 := by omega
      have hpl := pow_lt63 h1
      have hw1 := wpow h1
      have hw2 := wpow1 h1
      have hl1 := len_pow1 k
      have hl2 := len_pow k
      go_wp2_with fail
      rw [hw2]
      refine (Num_any _ (2 ^ k - 1) (by omega)).mono ?_
      rintro e w2 ⟨v, rfl, hown, hb⟩
      obtain ⟨A1, c1, rfl, q1, q2, q3, q4, q5⟩ := own_rds hown
      have HX2 : Hid (Below W.heap.size W w2) := HX.out.trans (hb.mono HX.out.size)
      clear hown hb q1 q2 q3 q4 q5 HX
      go_wp2_with fail
      rw [hw1]
      refine (Num_any _ (2 ^ k) hpl).mono ?_
      rintro e w3 ⟨v, rfl, hown, hb⟩
      obtain ⟨A2, c2, rfl, q1, q2, q3, q4, q5⟩ := own_rds hown
      have HX3 : Hid (Below W.heap.size W w3) := HX2.out.trans (hb.mono HX2.out.size)
      have HQ4 := Lib.hid q4
      clear hown hb q1 q2 q3 q4 q5 HX2
      go_wp2_with fail
      · skip
        refine (num10 _ _).mono ?_
        rintro e wq ⟨rfl, rfl⟩
        go_wp2_with fail
        refine (num10 _ _).mono ?_
        rintro e wq ⟨rfl, rfl⟩
        have t1 : (((max 1 ((k + 6) / 7) : Nat) : Int) != (((k:Int)+6)/7)) = false := by rw [bne_eq_false_iff_eq]; omega
        have t2 : (((k / 7 + 1 : Nat) : Int) != ((k : Int) / 7 + 1)) = false := by rw [bne_eq_false_iff_eq]; omega
        go_wp2_with fail
        refine (GetNum_any w3 A2 (k / 7 + 1) c2 (numB (2 ^ k)) hl2 (by omega) HQ4.out).mono ?_
        rintro e wy ⟨rfl, rfl⟩
        rw [getR_num0 _ hpl, hl2]
        go_wp2_with fail
        refine (num10 _ _).mono ?_
        rintro e wq ⟨rfl, rfl⟩
        have t3 : (((2 ^ k : Nat) : Int) != wrap64 (2 ^ k)) = false := by rw [hw1]; simp
        have t4 : (((k / 7 + 1 : Nat) : Int) != ((k / 7 + 1 : Nat) : Int)) = false := by simp
        go_wp2_with fail
        exact ⟨⟨k + 1, by omega, by go_num, HX3⟩, by simp [intOf]; omega⟩
      · skip
        refine (num10 _ _).mono ?_
        rintro e wq ⟨rfl, rfl⟩
        go_wp2_with fail
        refine (num10 _ _).mono ?_
        rintro e wq ⟨rfl, rfl⟩
        have t1 : (((max 1 ((k + 6) / 7) : Nat) : Int) != 1) = false := by rw [bne_eq_false_iff_eq]; omega
        have t2 : (((k / 7 + 1 : Nat) : Int) != ((k : Int) / 7 + 1)) = false := by rw [bne_eq_false_iff_eq]; omega
        go_wp2_with fail
        refine (GetNum_any w3 A2 (k / 7 + 1) c2 (numB (2 ^ k)) hl2 (by omega) HQ4.out).mono ?_
        rintro e wy ⟨rfl, rfl⟩
        rw [getR_num0 _ hpl, hl2]
        go_wp2_with fail
        refine (num10 _ _).mono ?_
        rintro e wq ⟨rfl, rfl⟩
        have t3 : (((2 ^ k : Nat) : Int) != wrap64 (2 ^ k)) = false := by rw [hw1]; simp
        have t4 : (((k / 7 + 1 : Nat) : Int) != ((k / 7 + 1 : Nat) : Int)) = false := by simp
        go_wp2_with fail
        exact ⟨⟨k + 1, by omega, by go_num, HX3⟩, by simp [intOf]; omega⟩
    · have h1i : ¬ (k : Int) < 63 := by omega
      go_wp2_with fail
      refine (Put_any wr none 0 0 [] rfl (by omega) (by intro s hs; simp at hs) (Rds.nil _ _)).mono ?_
      rintro e w1 ⟨hb, ⟨hle, v, rfl, hown⟩ | ⟨hlt, _⟩⟩
      case inr => rw [put_none] at hlt; exact absurd hlt (by decide)
      rw [put_none] at hown
      obtain ⟨A1, c1, rfl, q1, q2, q3, q4, q5⟩ := own_rds hown
      have HX1 : Hid (Below W.heap.size W w1) := HX.out.trans (hb.mono HX.out.size)
      have HQ1 := Lib.hid q4
      clear hown hb q1 q2 q3 q4 q5 HX hle
      go_wp2_with fail
      have HGL := GetNum_any (w1.alloc (.cells longV 5)) (some ⟨w1.heap.size, 0, none⟩) 10 10 longNum long_len (by decide) (long_rds _ _)
      unfold longV at HGL
      refine HGL.mono ?_
      rintro e wy ⟨rfl, rfl⟩
      rw [get_long]
      go_wp2_with fail
      have HGF := GetNum_any ((w1.alloc (.cells longV 5)).alloc (.cells flatV 5)) (some ⟨(w1.alloc (.cells longV 5)).heap.size, 0, none⟩) 2 2 flatNum flat_len (by decide) (flat_rds _ _)
      rw [show (w1.alloc (.cells longV 5)).heap.size = w1.heap.size + 1 by simp] at HGF
      unfold longV flatV at HGF
      refine HGF.mono ?_
      rintro e wy ⟨rfl, rfl⟩
      rw [get_flat]
      have HX2 : Hid (Below W.heap.size W ((w1.alloc (.cells longV 5)).alloc (.cells flatV 5))) := (HX1.out.alloc HX1.out.size _).alloc (HX1.out.alloc HX1.out.size _).size _
      have HQ2 : Hid (Rds ((w1.alloc (.cells longV 5)).alloc (.cells flatV 5)) A1 (bytesV [0])) := HQ1.out.ext ((((Below.refl _ _).alloc (Nat.le_refl _) _)).alloc ((Below.refl _ _).alloc (Nat.le_refl _) _).size _) (Nat.le_refl _)
      clear HQ1 HX1
      unfold longV flatV at HX2 HQ2
      clear HGL HGF
      generalize (World.alloc (World.alloc w1 _) _) = w4 at *
      go_wp2
      go_loopw [20] (fun i wr => ∃ k : Nat, k ≤ xs.length ∧ i = .int .i64 k ∧ Hid (Below w4.heap.size w4 wr)) (fun i _ => xs.length - (intOf i).toNat)
      case atStart => exact ⟨0, by omega, rfl, Below.refl _ _⟩
      case round =>
        clear h1i h1 hk
        obtain ⟨k, hk, rfl, HX⟩ := hrel
        by_cases h1 : k < xs.length ∧ k < 12
        · obtain ⟨h1, h2⟩ := h1
          have h1i : (k : Int) < (xs.length : Int) := by omega
          have h2i : (k : Int) < 12 := by omega
          have HXW : Hid (Below W.heap.size W _) := HX2.out.trans (HX.out.mono HX2.out.size)
          obtain ⟨a, B, cb, C, cc, rfl, hc0, hN, hc1, hc2, hb1, hb2, hb3, hb4, hb5, hd1, hd2, hd3, hd4⟩ := ask10_at (HR.out.ext HXW.out (Nat.le_refl _)) k h1
          have HB4 := Lib.hid hb4
          have HB5 := Lib.hid hb5
          clear hb3 hb4 hb5 hd3 hd4
          generalize xs[k].1 = N at *
          generalize xs[k].2.1 = L at *
          generalize xs[k].2.2 = bs at *
          by_cases hh : heavy10 L bs = true
          · go_wp2_with (go_at_call 21; refine (heavy10_any _ N B _ cb L rfl (by omega) HB5.out HB4.out C _ cc bs rfl).mono ?_; rintro e w1 ⟨rfl, hb⟩)
            go_ret
            exact ⟨rfl, HXW.out.trans (hb.mono HXW.out.size)⟩
          · have hh' : heavy10 L bs = false := by simpa using hh
            have HL := Lib.hid (heavy10_light hh')
            have hbl : bs.length ≤ 8000 := HL.out.2
            have hpl := putB_light HL.out.1
            have htl := HL.out.1
            clear hh
            go_wp2_with fail
            refine (heavy10_any _ N B _ cb L rfl (by omega) HB5.out HB4.out C _ cc bs rfl).mono ?_
            rintro e w5 ⟨rfl, hb⟩
            have hc1' := cell_ext hb (Nat.le_refl _) hc1
            have HX5 : Hid (Below w4.heap.size w4 w5) := HX.out.trans (hb.mono HX.out.size)
            have HB6 := Lib.hid (HB4.out.ext hb (Nat.le_refl _))
            clear hb hc0 hc1 hc2 HB4 HX HXW
            go_wp2_with fail
            refine (Put_any w5 B _ cb L rfl (by omega) HB5.out HB6.out).mono ?_
            rintro e w6 ⟨hb, ⟨hle, v, rfl, hown⟩ | ⟨hlt, _⟩⟩
            case inr => exfalso; omega
            obtain ⟨A3, c3, rfl, q1, q2, q3, q4, q5⟩ := own_rds hown
            have hc1'' := cell_ext hb (Nat.le_refl _) hc1'
            have HX6 : Hid (Below w4.heap.size w4 w6) := HX5.out.trans (hb.mono HX5.out.size)
            have HB7 := Lib.hid (HB6.out.ext hb (Nat.le_refl _))
            clear hb hown q1 q2 q3 q4 q5 hc1' HX5 HB6
            generalize (putB L).length = pl at *
            go_wp2
            go_loop [23, 24] (fun a i => ∃ q : Nat, q ≤ L.length ∧ i = .int .i64 q ∧ a = .int .i64 (textsLen (L.take q) : Nat)) (fun _ i => L.length - (intOf i).toNat)
            case atStart => exact ⟨0, by omega, rfl, rfl⟩
            case round =>
              obtain ⟨q, hq, rfl, rfl⟩ := hrel
              have htk := textsLen_take_le L q
              by_cases g1 : q < L.length
              · have g1i : (q : Int) < (L.length : Int) := by omega
                have hst := textsLen_take_step g1
                have htk2 := textsLen_take_le L (q + 1)
                obtain ⟨b, rfl, hbb⟩ := HB7.out.map q g1
                go_wp2
                go_round
                case rel => exact ⟨q + 1, by omega, by go_num, by rw [hst]; go_num⟩
                case measure => simp [intOf]; omega
              · obtain rfl : q = L.length := by omega
                have g1i : ¬ (L.length : Int) < (L.length : Int) := by omega
                rw [List.take_length] at *
                have g2 : ¬ (pl : Int) ≤ (textsLen L : Int) := by omega
                have g3 : ¬ ((textsLen L : Int) + 2 + 2 * (L.length : Int)) < (pl : Int) := by omega
                go_wp2_with fail
                refine (num10 _ _).mono ?_
                rintro e wq ⟨rfl, rfl⟩
                go_wp2
                exact ⟨⟨k + 1, by omega, by go_num, HX6⟩, by simp [intOf]; omega⟩
        · have HXW : Hid (Below W.heap.size W _) := HX2.out.trans (HX.out.mono HX2.out.size)
          have HQ3 := Lib.hid (HQ2.out.ext HX.out (Nat.le_refl _))
          clear HX2 HX HQ2
          by_cases h2 : k < xs.length
          · have h1i : (k : Int) < (xs.length : Int) := by omega
            have h2i : ¬ (k : Int) < 12 := by omega
            go_wp2_with fail
            refine (num10 _ _).mono ?_
            rintro e wq ⟨rfl, rfl⟩
            go_wp2_with fail
            refine (EqBytes_any _ A1 1 c1 [0] rfl (HQ3.out.ext ((Below.refl _ _).alloc (Nat.le_refl _) _) (Nat.le_refl _)) _ 1 1 [0] rfl (rds_new_of u8v _ _ _ _ rfl) (by omega)).mono ?_
            rintro e w6 ⟨rfl, q, rfl⟩
            have hdd : decide (([0] : List UInt8) = [0]) = true := rfl
            go_wp2_with fail
            refine (num10 _ _).mono ?_
            rintro e wq ⟨rfl, rfl⟩
            go_wp2_with fail
            refine (num10 _ _).mono ?_
            rintro e wq ⟨rfl, rfl⟩
            go_wp2_with fail
            refine (wakes10 _).mono ?_
            rintro e w7 ⟨rfl, hb⟩
            go_wp2
            go_ret
            exact ⟨rfl, below_dr HXW.out hb⟩
          · have h1i : ¬ (k : Int) < (xs.length : Int) := by omega
            go_wp2_with fail
            refine (num10 _ _).mono ?_
            rintro e wq ⟨rfl, rfl⟩
            go_wp2_with fail
            refine (EqBytes_any _ A1 1 c1 [0] rfl (HQ3.out.ext ((Below.refl _ _).alloc (Nat.le_refl _) _) (Nat.le_refl _)) _ 1 1 [0] rfl (rds_new_of u8v _ _ _ _ rfl) (by omega)).mono ?_
            rintro e w6 ⟨rfl, q, rfl⟩
            have hdd : decide (([0] : List UInt8) = [0]) = true := rfl
            go_wp2_with fail
            refine (num10 _ _).mono ?_
            rintro e wq ⟨rfl, rfl⟩
            go_wp2_with fail
            refine (num10 _ _).mono ?_
            rintro e wq ⟨rfl, rfl⟩
            go_wp2_with fail
            refine (wakes10 _).mono ?_
            rintro e w7 ⟨rfl, hb⟩
            go_wp2
            go_ret
            exact ⟨rfl, below_dr HXW.out hb⟩
end Go.Proofs.Ythibhndeejichaa
