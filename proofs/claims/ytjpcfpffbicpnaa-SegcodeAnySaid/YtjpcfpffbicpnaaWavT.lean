/- The walks of a tree's methods that only read: Len, Kinds, bit, symbol, Less, first, Rank, Access. -/
import Derived.Test.YtjpcfpffbicpnaaWavN
set_option linter.unusedVariables false
set_option linter.unusedSimpArgs false
namespace Lec
open Go Go.RowKit
theorem lvl_cells {w : World} {A : Option Addr} {D n : Nat} {L : List Nat} {ps : Nat → Nat} (h : Rds w A (lvlsC D L ps n)) (d : Nat) (hd : d < n) :
    ∃ a, A = some a ∧ w.cell? (a.add (d * 2)) = some (.pointer (some ⟨ps d, 0, none⟩)) ∧ w.cell? ⟨(a.add (d * 2)).block, (a.add (d * 2)).off + 1, none⟩ = some (.int .i64 (Wv.nought (Wv.bitD D d) (Wv.lv (Wv.bitD D) L d) : Int)) := by
  obtain ⟨a, e0, c0⟩ := h (d * 2 + 0) _ (by rw [lvlsC_at D L ps n d hd 0 (by omega)]; rfl)
  obtain ⟨a1, e1, c1⟩ := h (d * 2 + 1) _ (by rw [lvlsC_at D L ps n d hd 1 (by omega)]; rfl)
  obtain rfl : a = a1 := by rw [e0] at e1; exact Option.some.inj e1
  exact ⟨a, e0, c0, by rw [← add_fld _ _ _ (by omega)]; exact c1⟩
end Lec
namespace Go.Proofs.Ytjpcfpffbicpnaa
open Go.RowKit Lec
variable {w : World} {p k D lo : Nat} {L : List Nat} {ps : Nat → Nat}
theorem tLen_any (ht : TreeN w p k D L lo) : Calls Try.prog 31 #[.pointer (some ⟨p, 0, none⟩)] w fun e w' => e = .returned (.int .i64 (L.length : Int)) ∧ w = w' := by
  obtain ⟨A, c, B, c', ps, h0, h1, h2, h3, h4, h5, _⟩ := ht.out
  clear ht h3 h4 h5 h0 h1
  go_enter Try.func31, Try.ntmps31
  go_wp2
  go_ret
  exact ⟨rfl, rfl⟩
theorem tKinds_any (ht : TreeN w p k D L lo) (hk : k ≤ 512) : Calls Try.prog 32 #[.pointer (some ⟨p, 0, none⟩)] w fun e w' => e = .returned (.int .i64 (k : Int)) ∧ w = w' := by
  obtain ⟨A, c, B, c', ps, h0, h1, h2, h3, h4, h5, _⟩ := ht.out
  clear ht h3 h4 h5 h0 h2
  go_enter Try.func32, Try.ntmps32
  go_wp2
  go_ret
  exact ⟨by go_num, rfl⟩
theorem tSym_any (ht : TreeN w p k D L lo) (hk : k ≤ 512) (c : Int) (t : Bool) (hT : decide (0 ≤ c ∧ c < (k : Int)) = t) : Calls Try.prog 121 #[.pointer (some ⟨p, 0, none⟩), .int .i64 c] w fun e w' => e = .returned (.bool t) ∧ w = w' := by
  have HC := Lib.hid (tKinds_any ht hk)
  have HT := Lib.hid hT
  clear ht hT
  go_enter Try.func121, Try.ntmps121
  by_cases h1 : 0 ≤ c
  · have HE : Hid (t = decide (c < (k : Int))) := by show _ = _; rw [← HT.out]; simp [h1]
    clear HT
    go_wp2_with (go_at_call 32; refine HC.out.mono ?_; rintro e w1 ⟨rfl, rfl⟩)
    go_ret
    exact ⟨by rw [HE.out]; rfl, rfl⟩
  · have HE : Hid (t = false) := by show _ = _; rw [← HT.out]; exact decide_eq_false (fun h => h1 h.1)
    clear HT
    go_wp2_with (go_at_call 32; refine HC.out.mono ?_; rintro e w1 ⟨rfl, rfl⟩)
    go_ret
    exact ⟨by rw [HE.out]; rfl, rfl⟩
theorem tLess_in (ht : TreeN w p k D L lo) (hk : k ≤ 512) (c : Nat) (hc : c ≤ k) : Calls Try.prog 98 #[.pointer (some ⟨p, 0, none⟩), .int .i64 (c : Int)] w fun e w' => e = .returned (.tuple #[.int .i64 (Wv.less L c : Int), .int .i64 0]) ∧ w = w' := by
  have HC := Lib.hid (tKinds_any ht hk)
  obtain ⟨A, cc, B, c', ps, h0, h1, h2, h3, h4, h5, _⟩ := ht.out
  obtain ⟨a, rfl, hca⟩ := h4 c (.int .i64 (Wv.less L c : Int)) (natsC_at (by rw [List.getElem?_map, List.getElem?_range (by omega)]; rfl))
  have g1 : (0 : Int) ≤ (c : Int) := by omega
  have g2 : ¬ (k : Int) < (c : Int) := by omega
  have g3 : (c : Int) < (k : Int) + 1 := by omega
  generalize Wv.less L c = x at *
  clear ht h3 h4 h5 h0 h2
  go_enter Try.func98, Try.ntmps98
  go_wp2_with (go_at_call 32; refine HC.out.mono ?_; rintro e w1 ⟨rfl, rfl⟩)
  go_ret2
  exact ⟨rfl, rfl⟩
theorem tLess_out (ht : TreeN w p k D L lo) (hk : k ≤ 512) (c : Int) (hc : c < 0 ∨ (k : Int) < c) : Calls Try.prog 98 #[.pointer (some ⟨p, 0, none⟩), .int .i64 c] w fun e w' => e = .returned (.tuple #[.int .i64 0, .int .i64 1]) ∧ w = w' := by
  have HC := Lib.hid (tKinds_any ht hk)
  clear ht
  by_cases h1 : c < 0
  · clear hc
    go_enter Try.func98, Try.ntmps98
    go_wp2_with (go_at_call 32; refine HC.out.mono ?_; rintro e w1 ⟨rfl, rfl⟩)
    go_ret2
    exact ⟨rfl, rfl⟩
  · have h2 : (k : Int) < c := by omega
    clear hc
    go_enter Try.func98, Try.ntmps98
    go_wp2_with (go_at_call 32; refine HC.out.mono ?_; rintro e w1 ⟨rfl, rfl⟩)
    go_ret2
    exact ⟨rfl, rfl⟩
theorem tBit_any (ht : TreeN w p k D L lo) (hD : D ≤ 9) (c d : Nat) (hc : c < 512) (hd : d < D) : Calls Try.prog 122 #[.pointer (some ⟨p, 0, none⟩), .int .i64 (c : Int), .int .i64 (d : Int)] w fun e w' => e = .returned (.bool (Wv.bitD D d c)) ∧ w = w' := by
  obtain ⟨A, cc, B, c', ps, h0, h1, h2, h3, h4, h5, _⟩ := ht.out
  have HE : Hid ((bits .and .i64 ((c : Int) / 2 ^ (D - 1 - d)) 1 == 1) = Wv.bitD D d c) := Lib.hid (by
    rw [and1_i64 (by omega)]
    unfold Wv.bitD
    have : c / 2 ^ (D - 1 - d) % 2 < 2 := Nat.mod_lt _ (by omega)
    generalize c / 2 ^ (D - 1 - d) % 2 = m at *
    match m, this with
    | 0, _ => rfl
    | 1, _ => rfl)
  have hs : (D : Int) - 1 - (d : Int) = ((D - 1 - d : Nat) : Int) := by omega
  have hs2 : D - 1 - d ≤ 8 := by omega
  generalize D - 1 - d = s at *
  clear ht h3 h4 h5 h1 h2
  go_enter Try.func122, Try.ntmps122
  go_wp2
  go_ret
  exact ⟨by rw [← HE.out]; rfl, rfl⟩
theorem levs_vec (ht : ∀ d, d < D → VecN w (ps d) (lvB D L d) lo) {w' : World} (h : Ext w w') (d : Nat) (hd : d < D) : Vec w' (ps d) (lvB D L d) := ((ht d hd).ext h.below (Nat.le_refl _)).vec
set_option maxRecDepth 100000 in
theorem tFirst_any (ht : TreeN w p k D L lo) (hD : D ≤ 9) (hm : L.length ≤ 131072) (c : Nat) (hc : c < 512) : Calls Try.prog 123 #[.pointer (some ⟨p, 0, none⟩), .int .i64 (c : Int)] w fun e w' => e = .returned (.int .i64 (Wv.pos (Wv.bitD D) L c D 0 : Int)) ∧ Below w.heap.size w w' := by
  have HBIT : Hid (∀ w', Ext w w' → ∀ d, d < D → Calls Try.prog 122 #[.pointer (some ⟨p, 0, none⟩), .int .i64 (c : Int), .int .i64 (d : Int)] w' fun e w'' => e = .returned (.bool (Wv.bitD D d c)) ∧ w' = w'') := Lib.hid fun w' h d hd => tBit_any (ht.ext h.below (Nat.le_refl _)) hD c d hc hd
  obtain ⟨A, cc, B, c', ps, h0, h1, h2, h3, h4, h5, _⟩ := ht.out
  have HDN : Hid (∀ w', Ext w w' → ∀ d i, d < D → i ≤ L.length → Calls Try.prog 97 #[levV (ps d) (Wv.bitD D d) (Wv.lv (Wv.bitD D) L d), .bool (Wv.bitD D d c), .int .i64 (i : Int)] w' fun e w'' => e = .returned (.int .i64 (Wv.down (Wv.bitD D d) (Wv.lv (Wv.bitD D) L d) (Wv.bitD D d c) i : Int)) ∧ Below w'.heap.size w' w'') := Lib.hid fun w' h d i hd hi => down_any w' (ps d) _ _ (levs_vec h5 h d hd) (by rw [Wv.lv_len]; omega) _ i (by rw [Wv.lv_len]; exact hi)
  have HR := Lib.hid h3
  have HP := Lib.hid (fun d => Wv.pos_le (fs := Wv.bitD D) (L := L) (c := c) (i := 0) (Nat.zero_le _) d)
  have HPS : Hid (∀ d, Wv.pos (Wv.bitD D) L c (d + 1) 0 = Wv.down (Wv.bitD D d) (Wv.lv (Wv.bitD D) L d) (Wv.bitD D d c) (Wv.pos (Wv.bitD D) L c d 0)) := Lib.hid fun d => rfl
  clear ht h1 h2 h3 h4 h5
  go_enter Try.func123, Try.ntmps123
  go_wp2
  go_loopw [5, 13] (fun at_ i wx => ∃ d : Nat, d ≤ D ∧ i = .int .i64 (d : Int) ∧ at_ = .int .i64 (Wv.pos (Wv.bitD D) L c d 0 : Int) ∧ Hid (Ext w wx)) (fun _ i _ => D - (intOf i).toNat)
  case atStart => exact ⟨0, by omega, rfl, rfl, Lib.hid (Ext.refl _)⟩
  case round =>
    obtain ⟨d, hd, rfl, rfl, HX⟩ := hrel
    by_cases h8 : d < D
    · have h8i : (d : Int) < (D : Int) := by omega
      obtain ⟨a, rfl, k0, k1⟩ := lvl_cells (HX.out.rds HR.out) d h8
      go_upto_region 5 with (fail)
      obtain ⟨n, HNN⟩ : ∃ n : Nat, Hid (n = Wv.nought (Wv.bitD D d) (Wv.lv (Wv.bitD D) L d)) := ⟨_, Lib.hid rfl⟩
      rw [← HNN.out]
      obtain ⟨w1, hw1⟩ : ∃ w1, w1 = wr.alloc (.cells #[.pointer (some ⟨ps d, 0, none⟩), .int .i64 (n : Int)] 154) := ⟨_, rfl⟩
      rw [← hw1]
      have hx1 : Ext w w1 := by rw [hw1]; exact HX.out.alloc HX.out.size _
      have c0 : w1.cell? ⟨wr.heap.size, 0, none⟩ = some (.pointer (some ⟨ps d, 0, none⟩)) := by rw [hw1, cell_of_row _ _ _ _ _ _ (heap_alloc_new _ _)]; rfl
      have c1 : w1.cell? ⟨wr.heap.size, 1, none⟩ = some (.int .i64 (n : Int)) := by rw [hw1, cell_of_row _ _ _ _ _ _ (heap_alloc_new _ _)]; rfl
      have HQ : Hid (∀ w', Ext w1 w' → w'.cell? ⟨wr.heap.size, 0, none⟩ = some (.pointer (some ⟨ps d, 0, none⟩)) ∧ w'.cell? ⟨wr.heap.size, 1, none⟩ = some (.int .i64 (n : Int))) := Lib.hid fun w' h => ⟨h.cell c0, h.cell c1⟩
      have HX1 : Hid (∀ w', Ext w1 w' → Ext w w') := Lib.hid fun w' h => hx1.trans h
      have hp := HP.out d
      have HPE := Lib.hid (HPS.out d)
      generalize Wv.pos (Wv.bitD D) L c d 0 = i at *
      have HC := Lib.hid (fun w' h => HDN.out w' (HX1.out w' h) d i h8 hp)
      rw [levV, ← HNN.out] at HC
      have HB := Lib.hid (fun w' h => HBIT.out w' (HX1.out w' h) d h8)
      clear hw1 c0 c1 k0 k1
      refine wp_region_cls (Ext w1) (by kernel_rfl) (by kernel_rfl) (Ext.drawn _) ?_
      go_big_quiet_step ((intro hC; rw [(HQ.out _ hC).1]; dsimp only [Result.andThen]; rw [(HQ.out _ hC).2]; exact ⟨rfl, rfl⟩))
      repeat (go_big_quiet_step (first
        | (intro _; rfl)
        | (intro hC; rw [(HQ.out _ hC).1]; dsimp only [Result.andThen]; rw [(HQ.out _ hC).2]; exact ⟨rfl, rfl⟩)
        | (intro hC; go_at_call 122; with_reducible exact Calls.cls_same hC (HB.out _ hC))
        | (intro hC; go_at_call 97; with_reducible exact Calls.cls hC (HC.out _ hC))))
      refine wpQuiet_nil ?_
      intro w2 hC2
      have HX2 : Hid (Ext w w2) := Lib.hid (HX1.out _ hC2)
      clear hC2
      go_wp2
      go_roundw
      case rel => exact ⟨d + 1, by omega, by go_num, by rw [HPE.out], HX2⟩
      case measure => first | (simp [intOf]; done) | (simp [intOf]; omega)
    · obtain rfl : d = D := by omega
      have h8i : ¬ (d : Int) < (d : Int) := by omega
      go_wp2
      go_ret
      exact ⟨rfl, HX.out⟩
set_option maxRecDepth 100000 in
theorem tRank_in (ht : TreeN w p k D L lo) (hD : D ≤ 9) (hk : k ≤ 512) (hk2 : k ≤ 2 ^ D) (hm : L.length ≤ 131072) (hL : ∀ x ∈ L, x < k) (c : Nat) (hc : c < k) (i0 : Nat) (hi0 : i0 ≤ L.length) :
    Calls Try.prog 99 #[.pointer (some ⟨p, 0, none⟩), .int .i64 (c : Int), .int .i64 (i0 : Int)] w fun e w' => e = .returned (.tuple #[.int .i64 (Wv.eqs (L.take i0) c : Int), .int .i64 0]) ∧ Below w.heap.size w w' := by
  have HRES : Hid (Wv.pos (Wv.bitD D) L c D i0 - Wv.pos (Wv.bitD D) L c D 0 = Wv.eqs (L.take i0) c) := Lib.hid (Wv.rank_bits hi0 (by omega) (fun x hx => by have := hL x hx; omega))
  have HMONO : Hid (Wv.pos (Wv.bitD D) L c D 0 ≤ Wv.pos (Wv.bitD D) L c D i0) := Lib.hid (Wv.pos_mono (Nat.zero_le _) hi0 D)
  have HFST : Hid (∀ w', Ext w w' → Calls Try.prog 123 #[.pointer (some ⟨p, 0, none⟩), .int .i64 (c : Int)] w' fun e w'' => e = .returned (.int .i64 (Wv.pos (Wv.bitD D) L c D 0 : Int)) ∧ Below w'.heap.size w' w'') := Lib.hid fun w' h => tFirst_any (ht.ext h.below (Nat.le_refl _)) hD hm c (by omega)
  have HSY := Lib.hid (tSym_any ht hk (c : Int) true (decide_eq_true ⟨by omega, by omega⟩))
  replace hc : c < 512 := by omega
  clear hL hk hk2
  have g1 : ¬ (i0 : Int) < 0 := by omega
  have g2 : ¬ (L.length : Int) < (i0 : Int) := by omega
  have HBIT : Hid (∀ w', Ext w w' → ∀ d, d < D → Calls Try.prog 122 #[.pointer (some ⟨p, 0, none⟩), .int .i64 (c : Int), .int .i64 (d : Int)] w' fun e w'' => e = .returned (.bool (Wv.bitD D d c)) ∧ w' = w'') := Lib.hid fun w' h d hd => tBit_any (ht.ext h.below (Nat.le_refl _)) hD c d hc hd
  obtain ⟨A, cc, B, c', ps, h0, h1, h2, h3, h4, h5, _⟩ := ht.out
  have HDN : Hid (∀ w', Ext w w' → ∀ d i, d < D → i ≤ L.length → Calls Try.prog 97 #[levV (ps d) (Wv.bitD D d) (Wv.lv (Wv.bitD D) L d), .bool (Wv.bitD D d c), .int .i64 (i : Int)] w' fun e w'' => e = .returned (.int .i64 (Wv.down (Wv.bitD D d) (Wv.lv (Wv.bitD D) L d) (Wv.bitD D d c) i : Int)) ∧ Below w'.heap.size w' w'') := Lib.hid fun w' h d i hd hi => down_any w' (ps d) _ _ (levs_vec h5 h d hd) (by rw [Wv.lv_len]; omega) _ i (by rw [Wv.lv_len]; exact hi)
  have HR := Lib.hid h3
  have HP := Lib.hid (fun d => Wv.pos_le (fs := Wv.bitD D) (L := L) (c := c) (i := i0) hi0 d)
  have HPS : Hid (∀ d, Wv.pos (Wv.bitD D) L c (d + 1) i0 = Wv.down (Wv.bitD D d) (Wv.lv (Wv.bitD D) L d) (Wv.bitD D d c) (Wv.pos (Wv.bitD D) L c d i0)) := Lib.hid fun d => rfl
  clear ht h1 h3 h4 h5 hi0
  go_enter Try.func99, Try.ntmps99
  go_upto_region 5 with (go_at_call 121; refine HSY.out.mono ?_; rintro e w1 ⟨rfl, rfl⟩)
  go_wp2
  go_loopw [2, 31] (fun at_ i wx => ∃ d : Nat, d ≤ D ∧ i = .int .i64 (d : Int) ∧ at_ = .int .i64 (Wv.pos (Wv.bitD D) L c d i0 : Int) ∧ Hid (Ext w wx)) (fun _ i _ => D - (intOf i).toNat)
  case atStart => exact ⟨0, by omega, rfl, rfl, Lib.hid (Ext.refl _)⟩
  case round =>
    obtain ⟨d, hd, rfl, rfl, HX⟩ := hrel
    by_cases h8 : d < D
    · have h8i : (d : Int) < (D : Int) := by omega
      obtain ⟨a, rfl, k0, k1⟩ := lvl_cells (HX.out.rds HR.out) d h8
      go_upto_region 8 with (fail)
      obtain ⟨n, HNN⟩ : ∃ n : Nat, Hid (n = Wv.nought (Wv.bitD D d) (Wv.lv (Wv.bitD D) L d)) := ⟨_, Lib.hid rfl⟩
      rw [← HNN.out]
      obtain ⟨w1, hw1⟩ : ∃ w1, w1 = wr.alloc (.cells #[.pointer (some ⟨ps d, 0, none⟩), .int .i64 (n : Int)] 154) := ⟨_, rfl⟩
      rw [← hw1]
      have hx1 : Ext w w1 := by rw [hw1]; exact HX.out.alloc HX.out.size _
      have c0 : w1.cell? ⟨wr.heap.size, 0, none⟩ = some (.pointer (some ⟨ps d, 0, none⟩)) := by rw [hw1, cell_of_row _ _ _ _ _ _ (heap_alloc_new _ _)]; rfl
      have c1 : w1.cell? ⟨wr.heap.size, 1, none⟩ = some (.int .i64 (n : Int)) := by rw [hw1, cell_of_row _ _ _ _ _ _ (heap_alloc_new _ _)]; rfl
      have HQ : Hid (∀ w', Ext w1 w' → w'.cell? ⟨wr.heap.size, 0, none⟩ = some (.pointer (some ⟨ps d, 0, none⟩)) ∧ w'.cell? ⟨wr.heap.size, 1, none⟩ = some (.int .i64 (n : Int))) := Lib.hid fun w' h => ⟨h.cell c0, h.cell c1⟩
      have HX1 : Hid (∀ w', Ext w1 w' → Ext w w') := Lib.hid fun w' h => hx1.trans h
      have hp := HP.out d
      have HPE := Lib.hid (HPS.out d)
      generalize Wv.pos (Wv.bitD D) L c d i0 = i at *
      have HC := Lib.hid (fun w' h => HDN.out w' (HX1.out w' h) d i h8 hp)
      rw [levV, ← HNN.out] at HC
      have HB := Lib.hid (fun w' h => HBIT.out w' (HX1.out w' h) d h8)
      clear hw1 c0 c1 k0 k1
      refine wp_region_cls (Ext w1) (by kernel_rfl) (by kernel_rfl) (Ext.drawn _) ?_
      go_big_quiet_step ((intro hC; rw [(HQ.out _ hC).1]; dsimp only [Result.andThen]; rw [(HQ.out _ hC).2]; exact ⟨rfl, rfl⟩))
      repeat (go_big_quiet_step (first
        | (intro _; rfl)
        | (intro hC; rw [(HQ.out _ hC).1]; dsimp only [Result.andThen]; rw [(HQ.out _ hC).2]; exact ⟨rfl, rfl⟩)
        | (intro hC; go_at_call 122; with_reducible exact Calls.cls_same hC (HB.out _ hC))
        | (intro hC; go_at_call 97; with_reducible exact Calls.cls hC (HC.out _ hC))))
      refine wpQuiet_nil ?_
      intro w2 hC2
      have HX2 : Hid (Ext w w2) := Lib.hid (HX1.out _ hC2)
      clear hC2
      go_wp2
      go_roundw
      case rel => exact ⟨d + 1, by omega, by go_num, by rw [HPE.out], HX2⟩
      case measure => first | (simp [intOf]; done) | (simp [intOf]; omega)
    · obtain rfl : d = D := by omega
      have h8i : ¬ (d : Int) < (d : Int) := by omega
      have HF := Lib.hid (HFST.out wr HX.out)
      have hle := HP.out d
      generalize Wv.pos (Wv.bitD d) L c d 0 = x at *
      generalize Wv.pos (Wv.bitD d) L c d i0 = y at *
      have hxy := HMONO.out
      go_wp2_with fail
      refine HF.out.mono ?_
      rintro e w3 ⟨rfl, hb⟩
      have HX3 : Hid (Ext w w3) := Lib.hid (HX.out.trans hb)
      clear hb
      go_wp2
      go_ret2
      exact ⟨by rw [← HRES.out]; go_num, HX3.out⟩
theorem tRank_form (ht : TreeN w p k D L lo) (hk : k ≤ 512) (c i : Int) (hc : c < 0 ∨ (k : Int) ≤ c) :
    Calls Try.prog 99 #[.pointer (some ⟨p, 0, none⟩), .int .i64 c, .int .i64 i] w fun e w' => e = .returned (.tuple #[.int .i64 0, .int .i64 1]) ∧ Below w.heap.size w w' := by
  have HSY := Lib.hid (tSym_any ht hk c false (decide_eq_false (by omega)))
  clear ht
  go_enter Try.func99, Try.ntmps99
  go_wp2_with (go_at_call 121; refine HSY.out.mono ?_; rintro e w1 ⟨rfl, rfl⟩)
  go_ret2
  exact ⟨rfl, Below.refl _ _⟩
theorem tRank_none (ht : TreeN w p k D L lo) (hk : k ≤ 512) (c i : Int) (hc : 0 ≤ c ∧ c < (k : Int)) (hi : i < 0 ∨ (L.length : Int) < i) :
    Calls Try.prog 99 #[.pointer (some ⟨p, 0, none⟩), .int .i64 c, .int .i64 i] w fun e w' => e = .returned (.tuple #[.int .i64 0, .int .i64 3]) ∧ Below w.heap.size w w' := by
  have HSY := Lib.hid (tSym_any ht hk c true (decide_eq_true hc))
  obtain ⟨A, cc, B, c', ps, h0, h1, h2, h3, h4, h5, _⟩ := ht.out
  clear ht h0 h1 h3 h4 h5
  by_cases h6 : i < 0
  · clear hi
    go_enter Try.func99, Try.ntmps99
    go_wp2_with (go_at_call 121; refine HSY.out.mono ?_; rintro e w1 ⟨rfl, rfl⟩)
    go_ret2
    exact ⟨rfl, Below.refl _ _⟩
  · have h7 : (L.length : Int) < i := by omega
    clear hi
    go_enter Try.func99, Try.ntmps99
    go_wp2_with (go_at_call 121; refine HSY.out.mono ?_; rintro e w1 ⟨rfl, rfl⟩)
    go_ret2
    exact ⟨rfl, Below.refl _ _⟩
end Go.Proofs.Ytjpcfpffbicpnaa
