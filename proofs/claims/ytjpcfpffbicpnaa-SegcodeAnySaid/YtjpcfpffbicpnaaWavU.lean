/- The walks of a tree's Access, Select. -/
import Derived.Test.YtjpcfpffbicpnaaWavT
set_option linter.unusedVariables false
set_option linter.unusedSimpArgs false
namespace Lec
open Go Go.RowKit
end Lec
namespace Go.Proofs.Ytjpcfpffbicpnaa
open Go.RowKit Lec
variable {w : World} {p k D lo : Nat} {L : List Nat} {ps : Nat → Nat}
theorem tAccess_out (ht : TreeN w p k D L lo) (i : Int) (hi : i < 0 ∨ (L.length : Int) ≤ i) :
    Calls Try.prog 77 #[.pointer (some ⟨p, 0, none⟩), .int .i64 i] w fun e w' => e = .returned (.tuple #[.int .i64 0, .int .i64 3]) ∧ Below w.heap.size w w' := by
  obtain ⟨A, cc, B, c', ps, h0, h1, h2, h3, h4, h5, _⟩ := ht.out
  clear ht h0 h1 h3 h4 h5
  by_cases h6 : i < 0
  · clear hi
    go_enter Try.func77, Try.ntmps77
    go_wp2
    go_ret2
    exact ⟨rfl, Below.refl _ _⟩
  · have h7 : (L.length : Int) ≤ i := by omega
    clear hi
    go_enter Try.func77, Try.ntmps77
    go_wp2
    go_ret2
    exact ⟨rfl, Below.refl _ _⟩
set_option maxRecDepth 100000 in
theorem tAccess_in (ht : TreeN w p k D L lo) (hD : D ≤ 9) (hk : k ≤ 512) (hk2 : k ≤ 2 ^ D) (hm : L.length ≤ 131072) (hL : ∀ x ∈ L, x < k) (i0 x : Nat) (hx : L[i0]? = some x) :
    Calls Try.prog 77 #[.pointer (some ⟨p, 0, none⟩), .int .i64 (i0 : Int)] w fun e w' => e = .returned (.tuple #[.int .i64 (x : Int), .int .i64 0]) ∧ Below w.heap.size w w' := by
  have hi0 : i0 < L.length := (List.getElem?_eq_some_iff.1 hx).1
  have hxk : x < k := hL x (List.mem_iff_getElem?.2 ⟨i0, hx⟩)
  have hx2 : x < 2 ^ D := by omega
  have HAT : Hid (∀ d, (lvB D L d)[Wv.pos (Wv.bitD D) L x d i0]? = some (Wv.bitD D d x)) := Lib.hid fun d => by rw [List.getElem?_map, Wv.pos_at hx d]; rfl
  have HC0 : Hid (x / 2 ^ (D - 0) = 0) := Lib.hid (Nat.div_eq_of_lt hx2)
  have HCS : Hid (∀ d, d < D → x / 2 ^ (D - (d + 1)) = 2 * (x / 2 ^ (D - d)) + (if Wv.bitD D d x then 1 else 0)) := Lib.hid fun d hd => Wv.bit_step hd
  have HCD : Hid (x / 2 ^ (D - D) = x) := Lib.hid (by rw [Nat.sub_self]; simp)
  have HCL : Hid (∀ d, x / 2 ^ (D - d) ≤ 511) := Lib.hid fun d => by have := Nat.div_le_self x (2 ^ (D - d)); omega
  obtain ⟨A, cc, B, c', ps, h0, h1, h2, h3, h4, h5, _⟩ := ht.out
  have HGET : Hid (∀ w', Ext w w' → ∀ d, d < D → Calls Try.prog 80 #[.pointer (some ⟨ps d, 0, none⟩), .int .i64 (Wv.pos (Wv.bitD D) L x d i0 : Int)] w' fun e w'' => e = .returned (.tuple #[.bool (Wv.bitD D d x), .int .i64 0]) ∧ w' = w'') := Lib.hid fun w' h d hd => by
    obtain ⟨hl, he⟩ := List.getElem?_eq_some_iff.1 (HAT.out d)
    have := Get_in w' (ps d) (lvB D L d) (levs_vec h5 h d hd) (by rw [List.length_map, Wv.lv_len]; omega) _ hl
    rwa [he] at this
  have HDN : Hid (∀ w', Ext w w' → ∀ d i, d < D → i ≤ L.length → Calls Try.prog 97 #[levV (ps d) (Wv.bitD D d) (Wv.lv (Wv.bitD D) L d), .bool (Wv.bitD D d x), .int .i64 (i : Int)] w' fun e w'' => e = .returned (.int .i64 (Wv.down (Wv.bitD D d) (Wv.lv (Wv.bitD D) L d) (Wv.bitD D d x) i : Int)) ∧ Below w'.heap.size w' w'') := Lib.hid fun w' h d i hd hi => down_any w' (ps d) _ _ (levs_vec h5 h d hd) (by rw [Wv.lv_len]; omega) _ i (by rw [Wv.lv_len]; exact hi)
  have HR := Lib.hid h3
  have HP := Lib.hid (fun d => Wv.pos_le (fs := Wv.bitD D) (L := L) (c := x) (i := i0) (by omega) d)
  have HPS : Hid (∀ d, Wv.pos (Wv.bitD D) L x (d + 1) i0 = Wv.down (Wv.bitD D d) (Wv.lv (Wv.bitD D) L d) (Wv.bitD D d x) (Wv.pos (Wv.bitD D) L x d i0)) := Lib.hid fun d => rfl
  have g1 : ¬ (i0 : Int) < 0 := by omega
  have g2 : ¬ (L.length : Int) ≤ (i0 : Int) := by omega
  clear ht h1 h3 h4 h5 hL hk hk2 hx hi0 hx2 hxk
  go_enter Try.func77, Try.ntmps77
  go_wp2
  go_loopw [1, 6, 26] (fun at_ c i wx => ∃ d : Nat, d ≤ D ∧ i = .int .i64 (d : Int) ∧ at_ = .int .i64 (Wv.pos (Wv.bitD D) L x d i0 : Int) ∧ c = .int .i64 ((x / 2 ^ (D - d) : Nat) : Int) ∧ Hid (Ext w wx)) (fun _ _ i _ => D - (intOf i).toNat)
  case atStart => exact ⟨0, by omega, rfl, rfl, by rw [HC0.out]; rfl, Lib.hid (Ext.refl _)⟩
  case round =>
    obtain ⟨d, hd, rfl, rfl, rfl, HX⟩ := hrel
    by_cases h8 : d < D
    · have h8i : (d : Int) < (D : Int) := by omega
      obtain ⟨a, rfl, k0, k1⟩ := lvl_cells (HX.out.rds HR.out) d h8
      go_upto_region 7 with (fail)
      obtain ⟨n, HNN⟩ : ∃ n : Nat, Hid (n = Wv.nought (Wv.bitD D d) (Wv.lv (Wv.bitD D) L d)) := ⟨_, Lib.hid rfl⟩
      rw [← HNN.out]
      obtain ⟨w1, hw1⟩ : ∃ w1, w1 = wr.alloc (.cells #[.pointer (some ⟨ps d, 0, none⟩), .int .i64 (n : Int)] 154) := ⟨_, rfl⟩
      rw [← hw1]
      have hx1 : Ext w w1 := by rw [hw1]; exact HX.out.alloc HX.out.size _
      have c0 : w1.cell? ⟨wr.heap.size, 0, none⟩ = some (.pointer (some ⟨ps d, 0, none⟩)) := by rw [hw1, cell_of_row _ _ _ _ _ _ (heap_alloc_new _ _)]; rfl
      have c1 : w1.cell? ⟨wr.heap.size, 1, none⟩ = some (.int .i64 (n : Int)) := by rw [hw1, cell_of_row _ _ _ _ _ _ (heap_alloc_new _ _)]; rfl
      have hp := HP.out d
      have HPE := Lib.hid (HPS.out d)
      have HG := Lib.hid (HGET.out w1 hx1 d h8)
      have HCE := Lib.hid (HCS.out d h8)
      have hcl := HCL.out d
      have HXN := Lib.hid hx1
      generalize Wv.pos (Wv.bitD D) L x d i0 = i at *
      generalize x / 2 ^ (D - d) = y at *
      have HC := Lib.hid (HDN.out w1 hx1 d i h8 hp)
      rw [levV, ← HNN.out] at HC
      clear hw1 k0 k1
      generalize Wv.bitD D d x = b at *
      go_wp2_with fail
      refine HG.out.mono ?_
      rintro e w2 ⟨rfl, rfl⟩
      go_wp2_with fail
      refine HC.out.mono ?_
      rintro e w2 ⟨rfl, hb⟩
      have HX2 : Hid (Ext w w2) := Lib.hid (HXN.out.trans hb)
      clear hb c0 c1 hx1
      cases b with
      | true =>
        go_wp2
        go_roundw
        case rel => exact ⟨d + 1, by omega, by go_num, by rw [HPE.out], by rw [HCE.out]; go_num, HX2⟩
        case measure => first | (simp [intOf]; done) | (simp [intOf]; omega)
      | false =>
        go_wp2
        go_roundw
        case rel => exact ⟨d + 1, by omega, by go_num, by rw [HPE.out], by rw [HCE.out]; go_num, HX2⟩
        case measure => first | (simp [intOf]; done) | (simp [intOf]; omega)
    · obtain rfl : d = D := by omega
      have h8i : ¬ (d : Int) < (d : Int) := by omega
      rw [HCD.out] at *
      go_wp2
      go_ret2
      exact ⟨rfl, HX.out⟩
end Go.Proofs.Ytjpcfpffbicpnaa
