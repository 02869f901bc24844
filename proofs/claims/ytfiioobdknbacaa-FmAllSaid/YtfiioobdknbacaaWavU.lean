/- The walks of a tree's Access, Select. -/
import Derived.Test.YtfiioobdknbacaaWavT
import Derived.Test.YtfiioobdknbacaaSel
set_option linter.unusedVariables false
set_option linter.unusedSimpArgs false
namespace Lec
open Go Go.RowKit
theorem cnt_ones (b : Bool) (f : Nat → Bool) (l : List Nat) (i : Nat) (hi : i ≤ l.length) : cntB b (l.map f) i = if b then Wv.ones f l i else i - Wv.ones f l i := by
  cases b
  · rw [cntB_false _ _ (by rw [List.length_map]; exact hi), rank_ones]; rfl
  · rw [cntB_true, rank_ones]; rfl
theorem cnt_next (b : Bool) (bs : List Bool) (i : Nat) (h : bs[i]? = some b) : cntB b bs (i + 1) = cntB b bs i + 1 := by
  unfold cntB
  obtain ⟨hi, he⟩ := List.getElem?_eq_some_iff.1 h
  rw [List.take_succ_eq_append_getElem hi, List.count_append, he]; simp
/-- The place of the c that has j ahead of it. -/
theorem nth_sym (L : List Nat) (c j : Nat) (h : j < Wv.eqs L c) : ∃ r, L[r]? = some c ∧ Wv.eqs (L.take r) c = j := by
  have key : ∀ M : List Nat, (M.map (· == c)).count true = Wv.eqs M c := fun M => by
    unfold Wv.eqs
    induction M with
    | nil => rfl
    | cons a M ih => cases ha : a == c <;> simp [ha, ih]
  obtain ⟨r, hr, h1, _, h3⟩ := nth_place true (L.map (· == c)) j (by unfold cntB; rw [List.take_length, key]; exact h)
  refine ⟨r, ?_, ?_⟩
  · rw [List.getElem?_map] at h3
    cases he : L[r]? with
    | none => rw [he] at h3; simp at h3
    | some x => rw [he] at h3; simp at h3; rw [h3]
  · unfold cntB at h1
    rw [← List.map_take, key] at h1
    exact h1
end Lec
namespace Go.Proofs.Ytfiioobdknbacaa
open Go.RowKit Lec
variable {w : World} {p k D lo : Nat} {L : List Nat} {ps : Nat → Nat}
theorem tAccess_out (ht : TreeN w p k D L lo) (i : Int) (hi : i < 0 ∨ (L.length : Int) ≤ i) :
    Calls Try.prog 43 #[.pointer (some ⟨p, 0, none⟩), .int .i64 i] w fun e w' => e = .returned (.tuple #[.int .i64 0, .int .i64 3]) ∧ Below w.heap.size w w' := by
  obtain ⟨A, cc, B, c', ps, h0, h1, h2, h3, h4, h5, _⟩ := ht.out
  clear ht h0 h1 h3 h4 h5
  by_cases h6 : i < 0
  · clear hi
    go_enter Try.func43, Try.ntmps43
    go_wp2
    go_ret2
    exact ⟨rfl, Below.refl _ _⟩
  · have h7 : (L.length : Int) ≤ i := by omega
    clear hi
    go_enter Try.func43, Try.ntmps43
    go_wp2
    go_ret2
    exact ⟨rfl, Below.refl _ _⟩
set_option maxRecDepth 100000 in
theorem tAccess_in (ht : TreeN w p k D L lo) (hD : D ≤ 9) (hk : k ≤ 512) (hk2 : k ≤ 2 ^ D) (hm : L.length ≤ 131072) (hL : ∀ x ∈ L, x < k) (i0 x : Nat) (hx : L[i0]? = some x) :
    Calls Try.prog 43 #[.pointer (some ⟨p, 0, none⟩), .int .i64 (i0 : Int)] w fun e w' => e = .returned (.tuple #[.int .i64 (x : Int), .int .i64 0]) ∧ Below w.heap.size w w' := by
  have hi0 : i0 < L.length := (List.getElem?_eq_some_iff.1 hx).1
  have hxk : x < k := hL x (List.mem_iff_getElem?.2 ⟨i0, hx⟩)
  have hx2 : x < 2 ^ D := by omega
  have HAT : Hid (∀ d, (lvB D L d)[Wv.pos (Wv.bitD D) L x d i0]? = some (Wv.bitD D d x)) := Lib.hid fun d => by rw [List.getElem?_map, Wv.pos_at hx d]; rfl
  have HC0 : Hid (x / 2 ^ (D - 0) = 0) := Lib.hid (Nat.div_eq_of_lt hx2)
  have HCS : Hid (∀ d, d < D → x / 2 ^ (D - (d + 1)) = 2 * (x / 2 ^ (D - d)) + (if Wv.bitD D d x then 1 else 0)) := Lib.hid fun d hd => Wv.bit_step hd
  have HCD : Hid (x / 2 ^ (D - D) = x) := Lib.hid (by rw [Nat.sub_self]; simp)
  have HCL : Hid (∀ d, x / 2 ^ (D - d) ≤ 511) := Lib.hid fun d => by have := Nat.div_le_self x (2 ^ (D - d)); omega
  obtain ⟨A, cc, B, c', ps, h0, h1, h2, h3, h4, h5, _⟩ := ht.out
  have HGET : Hid (∀ w', Ext w w' → ∀ d, d < D → Calls Try.prog 71 #[.pointer (some ⟨ps d, 0, none⟩), .int .i64 (Wv.pos (Wv.bitD D) L x d i0 : Int)] w' fun e w'' => e = .returned (.tuple #[.bool (Wv.bitD D d x), .int .i64 0]) ∧ w' = w'') := Lib.hid fun w' h d hd => by
    obtain ⟨hl, he⟩ := List.getElem?_eq_some_iff.1 (HAT.out d)
    have := Get_in w' (ps d) (lvB D L d) (levs_vec h5 h d hd) (by rw [List.length_map, Wv.lv_len]; omega) _ hl
    rwa [he] at this
  have HDN : Hid (∀ w', Ext w w' → ∀ d i, d < D → i ≤ L.length → Calls Try.prog 72 #[levV (ps d) (Wv.bitD D d) (Wv.lv (Wv.bitD D) L d), .bool (Wv.bitD D d x), .int .i64 (i : Int)] w' fun e w'' => e = .returned (.int .i64 (Wv.down (Wv.bitD D d) (Wv.lv (Wv.bitD D) L d) (Wv.bitD D d x) i : Int)) ∧ Below w'.heap.size w' w'') := Lib.hid fun w' h d i hd hi => down_any w' (ps d) _ _ (levs_vec h5 h d hd) (by rw [Wv.lv_len]; omega) _ i (by rw [Wv.lv_len]; exact hi)
  have HR := Lib.hid h3
  have HP := Lib.hid (fun d => Wv.pos_le (fs := Wv.bitD D) (L := L) (c := x) (i := i0) (by omega) d)
  have HPS : Hid (∀ d, Wv.pos (Wv.bitD D) L x (d + 1) i0 = Wv.down (Wv.bitD D d) (Wv.lv (Wv.bitD D) L d) (Wv.bitD D d x) (Wv.pos (Wv.bitD D) L x d i0)) := Lib.hid fun d => rfl
  have g1 : ¬ (i0 : Int) < 0 := by omega
  have g2 : ¬ (L.length : Int) ≤ (i0 : Int) := by omega
  clear ht h1 h3 h4 h5 hL hk hk2 hx hi0 hx2 hxk
  go_enter Try.func43, Try.ntmps43
  go_wp2
  go_loopw [1, 6, 26] (fun at_ c i wx => ∃ d : Nat, d ≤ D ∧ i = .int .i64 (d : Int) ∧ at_ = .int .i64 (Wv.pos (Wv.bitD D) L x d i0 : Int) ∧ c = .int .i64 ((x / 2 ^ (D - d) : Nat) : Int) ∧ Hid (Ext w wx)) (fun _ _ i _ => D - (intOf i).toNat)
  case atStart => exact ⟨0, by omega, rfl, rfl, by rw [HC0.out]; rfl, Lib.hid (Ext.refl _)⟩
  case round =>
    obtain ⟨d, hd, rfl, rfl, rfl, HX⟩ := hrel
    by_cases h8 : d < D
    · have h8i : (d : Int) < (D : Int) := by omega
      obtain ⟨a, rfl, k0, k1⟩ := lvl_cells (HX.out.rds HR.out) d h8
      go_upto_region 7 with (fail)
      obtain ⟨n, HNN⟩ : ∃ n : Nat, Hid (n = Wv.nought (Wv.bitD D d) (Wv.lv (Wv.bitD D) L d)) := ⟨_, Lib.hid rfl⟩
      rw [← HNN.out]
      obtain ⟨w1, hw1⟩ : ∃ w1, w1 = wr.alloc (.cells #[.pointer (some ⟨ps d, 0, none⟩), .int .i64 (n : Int)] 112) := ⟨_, rfl⟩
      rw [← hw1]
      have hx1 : Ext w w1 := by rw [hw1]; exact HX.out.alloc HX.out.size _
      have c0 : w1.cell? ⟨wr.heap.size, 0, none⟩ = some (.pointer (some ⟨ps d, 0, none⟩)) := by rw [hw1, cell_of_row _ _ _ _ _ _ (heap_alloc_new _ _)]; rfl
      have c1 : w1.cell? ⟨wr.heap.size, 1, none⟩ = some (.int .i64 (n : Int)) := by rw [hw1, cell_of_row _ _ _ _ _ _ (heap_alloc_new _ _)]; rfl
      have hp := HP.out d
      have HPE := Lib.hid (HPS.out d)
      have HG := Lib.hid (HGET.out w1 hx1 d h8)
      have HCE := Lib.hid (HCS.out d h8)
      have hcl := HCL.out d
      have HXN := Lib.hid hx1
      generalize Wv.pos (Wv.bitD D) L x d i0 = i at *
      generalize x / 2 ^ (D - d) = y at *
      have HC := Lib.hid (HDN.out w1 hx1 d i h8 hp)
      rw [levV, ← HNN.out] at HC
      clear hw1 k0 k1
      generalize Wv.bitD D d x = b at *
      go_wp2_with fail
      refine HG.out.mono ?_
      rintro e w2 ⟨rfl, rfl⟩
      go_wp2_with fail
      refine HC.out.mono ?_
      rintro e w2 ⟨rfl, hb⟩
      have HX2 : Hid (Ext w w2) := Lib.hid (HXN.out.trans hb)
      clear hb c0 c1 hx1
      cases b with
      | true =>
        go_wp2
        go_roundw
        case rel => exact ⟨d + 1, by omega, by go_num, by rw [HPE.out], by rw [HCE.out]; go_num, HX2⟩
        case measure => first | (simp [intOf]; done) | (simp [intOf]; omega)
      | false =>
        go_wp2
        go_roundw
        case rel => exact ⟨d + 1, by omega, by go_num, by rw [HPE.out], by rw [HCE.out]; go_num, HX2⟩
        case measure => first | (simp [intOf]; done) | (simp [intOf]; omega)
    · obtain rfl : d = D := by omega
      have h8i : ¬ (d : Int) < (d : Int) := by omega
      rw [HCD.out] at *
      go_wp2
      go_ret2
      exact ⟨rfl, HX.out⟩
set_option maxRecDepth 100000 in
theorem up_any (w : World) (p : Nat) (f : Nat → Bool) (l : List Nat) (hv : Vec w p (l.map f)) (hm : l.length ≤ 1048576) (i x : Nat) (hx : l[i]? = some x) :
    Calls Try.prog 76 #[levV p f l, .bool (f x), .int .i64 (Wv.down f l (f x) i : Int)] w fun e w' => e = .returned (.int .i64 (i : Int)) ∧ Below w.heap.size w w' := by
  have hi : i < l.length := (List.getElem?_eq_some_iff.1 hx).1
  have hb : (l.map f)[i]? = some (f x) := by rw [List.getElem?_map, hx]; rfl
  have hn := cnt_next _ _ _ hb
  have hc := cnt_ones (f x) f l i (by omega)
  have HDO : Hid (Wv.down f l (f x) i = if f x then Wv.nought f l + Wv.ones f l i else i - Wv.ones f l i) := rfl
  have hnl : Wv.nought f l ≤ l.length := (List.filter_sublist (l := l) (p := fun c => !f c)).length_le
  have hle := ones_le f l i
  unfold levV
  generalize f x = b at *
  generalize hde : Wv.down f l b i = dn at *
  generalize hne : Wv.nought f l = n at *
  generalize hoe : Wv.ones f l i = m at *
  obtain ⟨w0, hw0⟩ : ∃ w0, w0 = w.alloc (.cells #[.pointer (some ⟨p, 0, none⟩), .int .i64 (n : Int)] 112) := ⟨_, rfl⟩
  have HX : Hid (Below w.heap.size w w0) := by rw [hw0]; exact (Below.refl _ _).alloc (Nat.le_refl _) _
  have HW0 := Lib.hid hw0
  have c0 : w0.cell? ⟨w.heap.size, 0, none⟩ = some (.pointer (some ⟨p, 0, none⟩)) := by rw [hw0, cell_of_row _ _ _ _ _ _ (heap_alloc_new _ _)]; rfl
  have c1 : w0.cell? ⟨w.heap.size, 1, none⟩ = some (.int .i64 (n : Int)) := by rw [hw0, cell_of_row _ _ _ _ _ _ (heap_alloc_new _ _)]; rfl
  have hv0 := hv.ext HX.out (Nat.le_refl _)
  cases b with
  | true =>
    have HS := Lib.hid (Select_in w0 p (l.map f) hv0 (by rw [List.length_map]; exact hm) i (cntB true (l.map f) i) (by rw [List.length_map]; exact hi) rfl hn)
    simp only [if_true] at hc
    rw [hc] at HS
    have hsub : (dn : Int) - (n : Int) = (m : Int) := by have := HDO.out; simp at this; omega
    clear hn hc hb hx hv hv0 hde hne hoe hw0 HDO
    go_enter Try.func76, Try.ntmps76
    go_upto_region 2 with (fail)
    rw [← HW0.out]
    clear HW0
    go_wp2_with fail
    refine HS.out.mono ?_
    rintro e w1 ⟨rfl, hb⟩
    have HX1 : Hid (Below w.heap.size w w1) := HX.out.trans (hb.mono HX.out.size)
    clear hb c0 c1
    go_wp2
    go_ret
    exact ⟨rfl, HX1.out⟩
  | false =>
    have HS := Lib.hid (Select0_in w0 p (l.map f) hv0 (by rw [List.length_map]; exact hm) i (cntB false (l.map f) i) (by rw [List.length_map]; exact hi) rfl hn)
    simp only [Bool.false_eq_true, if_false] at hc
    rw [hc] at HS
    have hsub : dn = i - m := by have := HDO.out; simp at this; omega
    rw [← hsub] at HS
    clear hn hc hb hx hv hv0 hde hne hoe hw0 HDO hsub
    go_enter Try.func76, Try.ntmps76
    go_upto_region 4 with (fail)
    rw [← HW0.out]
    clear HW0
    go_wp2_with fail
    refine HS.out.mono ?_
    rintro e w1 ⟨rfl, hb⟩
    have HX1 : Hid (Below w.heap.size w w1) := HX.out.trans (hb.mono HX.out.size)
    clear hb c0 c1
    go_wp2
    go_ret
    exact ⟨rfl, HX1.out⟩
theorem tSelect_form (ht : TreeN w p k D L lo) (hk : k ≤ 512) (c i : Int) (hc : c < 0 ∨ (k : Int) ≤ c) :
    Calls Try.prog 45 #[.pointer (some ⟨p, 0, none⟩), .int .i64 c, .int .i64 i] w fun e w' => e = .returned (.tuple #[.int .i64 0, .int .i64 1]) ∧ Below w.heap.size w w' := by
  have HSY := Lib.hid (tSym_any ht hk c false (decide_eq_false (by omega)))
  clear ht
  go_enter Try.func45, Try.ntmps45
  go_wp2_with (go_at_call 73; refine HSY.out.mono ?_; rintro e w1 ⟨rfl, rfl⟩)
  go_ret2
  exact ⟨rfl, Below.refl _ _⟩
set_option maxRecDepth 100000 in
theorem tSelect_none (ht : TreeN w p k D L lo) (hk : k ≤ 512) (hm : L.length ≤ 131072) (c : Nat) (i : Int) (hc : c < k) (hi : i < 0 ∨ (Wv.eqs L c : Int) ≤ i) :
    Calls Try.prog 45 #[.pointer (some ⟨p, 0, none⟩), .int .i64 (c : Int), .int .i64 i] w fun e w' => e = .returned (.tuple #[.int .i64 0, .int .i64 3]) ∧ Below w.heap.size w w' := by
  have HSY := Lib.hid (tSym_any ht hk c true (decide_eq_true (by omega)))
  obtain ⟨A, cc, B, c', ps, h0, h1, h2, h3, h4, h5, _⟩ := ht.out
  obtain ⟨a, rfl, k0⟩ := h4 c (.int .i64 (Wv.less L c : Int)) (natsC_at (by rw [List.getElem?_map, List.getElem?_range (by omega)]; rfl))
  obtain ⟨a', e, k1⟩ := h4 (c + 1) (.int .i64 (Wv.less L (c + 1) : Int)) (natsC_at (by rw [List.getElem?_map, List.getElem?_range (by omega)]; rfl))
  obtain rfl := Option.some.inj e
  rw [Wv.less_succ] at k1
  have hl1 := Wv.less_le L c
  have hl2 := Wv.eqs_le L c
  have hil : (c : Int) < (k : Int) + 1 := by omega
  have hil2 : (c : Int) + 1 < (k : Int) + 1 := by omega
  have hnn : (0 : Int) ≤ (c : Int) + 1 := by omega
  have hc2 : w.cell? ⟨a.block, a.off + (c + 1), none⟩ = some (.int .i64 ((Wv.less L c + Wv.eqs L c : Nat) : Int)) := by
    rw [← k1]; unfold Addr.add; rw [if_neg (by omega)]
  have hin : ((c : Int) + 1).toNat = c + 1 := by omega
  have hw : IntKind.i64.wrap ((c : Int) + 1) = (c : Int) + 1 := wrap_id (by omega)
  generalize Wv.less L c = x at *
  generalize Wv.eqs L c = y at *
  have hw1 : IntKind.i64.wrap ((x : Int) + (y : Int) - (x : Int)) = (y : Int) := by rw [wrap_id (by omega)]; omega
  clear k1
  clear ht h0 h2 h3 h4 h5
  by_cases h6 : i < 0
  · clear hi
    go_enter Try.func45, Try.ntmps45
    go_upto_region 3 with (go_at_call 73; refine HSY.out.mono ?_; rintro e w1 ⟨rfl, rfl⟩)
    go_quiet (fail)
    go_wp2
    go_ret2
    exact ⟨rfl, drawn_below _ _⟩
  · have h7 : (y : Int) ≤ i := by omega
    clear hi
    go_enter Try.func45, Try.ntmps45
    go_upto_region 3 with (go_at_call 73; refine HSY.out.mono ?_; rintro e w1 ⟨rfl, rfl⟩)
    go_quiet (fail)
    go_wp2
    go_ret2
    exact ⟨rfl, drawn_below _ _⟩
set_option maxRecDepth 100000 in
theorem tSelect_in (ht : TreeN w p k D L lo) (hD : D ≤ 9) (hk : k ≤ 512) (hk2 : k ≤ 2 ^ D) (hm : L.length ≤ 131072) (hL : ∀ x ∈ L, x < k) (c r : Nat) (hr : L[r]? = some c) (j : Nat) (hj : Wv.eqs (L.take r) c = j) (hj2 : j < Wv.eqs L c) :
    Calls Try.prog 45 #[.pointer (some ⟨p, 0, none⟩), .int .i64 (c : Int), .int .i64 (j : Int)] w fun e w' => e = .returned (.tuple #[.int .i64 (r : Int), .int .i64 0]) ∧ Below w.heap.size w w' := by
  have hrl : r < L.length := (List.getElem?_eq_some_iff.1 hr).1
  have hc : c < k := hL c (List.mem_iff_getElem?.2 ⟨r, hr⟩)
  have HSY := Lib.hid (tSym_any ht hk c true (decide_eq_true (by omega)))
  have HRES : Hid (Wv.pos (Wv.bitD D) L c D r = Wv.pos (Wv.bitD D) L c D 0 + j) := Lib.hid (by
    have h1 := Wv.rank_bits (L := L) (i := r) (c := c) (D := D) (by omega) (by omega) (fun x hx => by have := hL x hx; omega)
    have h2 := Wv.pos_mono (fs := Wv.bitD D) (L := L) (c := c) (Nat.zero_le r) (by omega) D
    have h3 : ((L.take r).filter (· == c)).length = j := hj
    omega)
  have HFST : Hid (∀ w', Ext w w' → Calls Try.prog 75 #[.pointer (some ⟨p, 0, none⟩), .int .i64 (c : Int)] w' fun e w'' => e = .returned (.int .i64 (Wv.pos (Wv.bitD D) L c D 0 : Int)) ∧ Below w'.heap.size w' w'') := Lib.hid fun w' h => tFirst_any (ht.ext h.below (Nat.le_refl _)) hD hm c (by omega)
  have HBIT : Hid (∀ w', Ext w w' → ∀ d, d < D → Calls Try.prog 74 #[.pointer (some ⟨p, 0, none⟩), .int .i64 (c : Int), .int .i64 (d : Int)] w' fun e w'' => e = .returned (.bool (Wv.bitD D d c)) ∧ w' = w'') := Lib.hid fun w' h d hd => tBit_any (ht.ext h.below (Nat.le_refl _)) hD c d (by omega) hd
  have HP := Lib.hid (fun d => Wv.pos_le (fs := Wv.bitD D) (L := L) (c := c) (i := r) (by omega) d)
  have HP0 := Lib.hid (Wv.pos_le (fs := Wv.bitD D) (L := L) (c := c) (i := 0) (by omega) D)
  obtain ⟨A, cc, B, c', ps, h0, h1, h2, h3, h4, h5, _⟩ := ht.out
  have HUP : Hid (∀ w', Ext w w' → ∀ d, d < D → Calls Try.prog 76 #[levV (ps d) (Wv.bitD D d) (Wv.lv (Wv.bitD D) L d), .bool (Wv.bitD D d c), .int .i64 (Wv.pos (Wv.bitD D) L c (d + 1) r : Int)] w' fun e w'' => e = .returned (.int .i64 (Wv.pos (Wv.bitD D) L c d r : Int)) ∧ Below w'.heap.size w' w'') := Lib.hid fun w' h d hd => by
    have := up_any w' (ps d) (Wv.bitD D d) (Wv.lv (Wv.bitD D) L d) (levs_vec h5 h d hd) (by rw [Wv.lv_len]; omega) (Wv.pos (Wv.bitD D) L c d r) c (Wv.pos_at hr d)
    exact this
  have HR := Lib.hid h3
  have HZ := Lib.hid h0
  obtain ⟨a, rfl, k0⟩ := h4 c (.int .i64 (Wv.less L c : Int)) (natsC_at (by rw [List.getElem?_map, List.getElem?_range (by omega)]; rfl))
  obtain ⟨a', e, k1⟩ := h4 (c + 1) (.int .i64 (Wv.less L (c + 1) : Int)) (natsC_at (by rw [List.getElem?_map, List.getElem?_range (by omega)]; rfl))
  obtain rfl := Option.some.inj e
  rw [Wv.less_succ] at k1
  have hl1 := Wv.less_le L c
  have hl2 := Wv.eqs_le L c
  have hil : (c : Int) < (k : Int) + 1 := by omega
  have hil2 : (c : Int) + 1 < (k : Int) + 1 := by omega
  have hnn : (0 : Int) ≤ (c : Int) + 1 := by omega
  have hc2 : w.cell? ⟨a.block, a.off + (c + 1), none⟩ = some (.int .i64 ((Wv.less L c + Wv.eqs L c : Nat) : Int)) := by
    rw [← k1]; unfold Addr.add; rw [if_neg (by omega)]
  have hin : ((c : Int) + 1).toNat = c + 1 := by omega
  have hw : IntKind.i64.wrap ((c : Int) + 1) = (c : Int) + 1 := wrap_id (by omega)
  generalize Wv.less L c = x at *
  generalize Wv.eqs L c = y at *
  have hw1 : IntKind.i64.wrap ((x : Int) + (y : Int) - (x : Int)) = (y : Int) := by rw [wrap_id (by omega)]; omega
  clear k1
  clear ht h2 h3 h4 h5 hr hj hrl hk2 hL
  have h6 : ¬ (j : Int) < 0 := by omega
  have h7 : ¬ (y : Int) ≤ (j : Int) := by omega
  have hj3 : ¬ y ≤ j := by omega
  go_enter Try.func45, Try.ntmps45
  go_upto_region 3 with (go_at_call 73; refine HSY.out.mono ?_; rintro e w1 ⟨rfl, rfl⟩)
  go_quiet (fail)
  clear h0 h1 k0 hc2 hil hil2 hnn hin hw hw1 h7 hl1 hl2
  have hle0 := HP0.out
  have HF := Lib.hid (HFST.out (w.drewN nq) (drawn_below _ _))
  have hres := HRES.out
  have hpd := HP.out D
  have HPD : Hid (Wv.pos (Wv.bitD D) L c D r = Wv.pos (Wv.bitD D) L c D 0 + j) := HRES
  generalize Wv.pos (Wv.bitD D) L c D 0 = z at *
  have hj4 : (z : Int) + (j : Int) = ((Wv.pos (Wv.bitD D) L c D r : Nat) : Int) := by omega
  clear hres hpd hj3
  go_wp2_with fail
  refine HF.out.mono ?_
  rintro e w2 ⟨rfl, hb⟩
  have hx2 : Ext w w2 := (drawn_below w nq).trans (hb.mono (drawn_below w nq).size)
  have HX2 := Lib.hid hx2
  have c0 := hx2.cell HZ.out
  clear hb hx2
  go_wp2
  clear c0
  go_loopw [8, 9] (fun i dd wx => ∃ d : Nat, d ≤ D ∧ dd = .int .i64 ((d : Int) - 1) ∧ i = .int .i64 (Wv.pos (Wv.bitD D) L c d r : Int) ∧ Hid (Ext w wx)) (fun _ dd _ => (intOf dd + 1).toNat)
  case atStart => exact ⟨D, by omega, rfl, by have h3 := HP.out D; rw [HPD.out] at h3 ⊢; rw [IntWalk.wrap64_in _ (by omega)], HX2⟩
  case round =>
    obtain ⟨d, hd, rfl, rfl, HX⟩ := hrel
    cases d with
    | zero =>
      have h8 : ¬ (0 : Int) ≤ ((0 : Nat) : Int) - 1 := by omega
      go_wp2
      go_ret2
      exact ⟨rfl, HX.out⟩
    | succ d =>
      have hdd : (((d + 1 : Nat) : Int) - 1) = (d : Int) := by omega
      rw [hdd]
      have h8 : d < D := by omega
      have h8i : (d : Int) < (D : Int) := by omega
      have h80 : (0 : Int) ≤ (d : Int) := by omega
      obtain ⟨aL, rfl, k0, k1⟩ := lvl_cells (HX.out.rds HR.out) d h8
      have c0 := HX.out.cell HZ.out
      have HQ : Hid (∀ w', Ext wr w' → w'.cell? (aL.add (d * 2)) = some (.pointer (some ⟨ps d, 0, none⟩)) ∧ w'.cell? ⟨(aL.add (d * 2)).block, (aL.add (d * 2)).off + 1, none⟩ = some (.int .i64 (Wv.nought (Wv.bitD D d) (Wv.lv (Wv.bitD D) L d) : Int))) := Lib.hid fun w' h => ⟨h.cell k0, h.cell k1⟩
      have HQ0 : Hid (∀ w', Ext wr w' → w'.cell? ⟨p, 0, none⟩ = some (.slice (some aL) D cc)) := Lib.hid fun w' h => h.cell c0
      have HX1 : Hid (∀ w', Ext wr w' → Ext w w') := Lib.hid fun w' h => HX.out.trans h
      have HC := Lib.hid (fun w' h => HUP.out w' (HX1.out w' h) d h8)
      rw [levV] at HC
      have HB := Lib.hid (fun w' h => HBIT.out w' (HX1.out w' h) d h8)
      generalize Wv.nought (Wv.bitD D d) (Wv.lv (Wv.bitD D) L d) = n at *
      clear k0 k1 c0
      go_upto_region 9 with (fail)
      refine wp_region_cls (Ext wr) (by kernel_rfl) (by kernel_rfl) (Ext.drawn _) ?_
      repeat (go_big_quiet_step (first
        | (intro _; rfl)
        | (intro hC; rw [HQ0.out _ hC]; exact ⟨rfl, rfl⟩)
        | (intro hC; rw [(HQ.out _ hC).1]; dsimp only [Result.andThen]; rw [(HQ.out _ hC).2]; exact ⟨rfl, rfl⟩)
        | (intro hC; go_at_call 74; with_reducible exact Calls.cls_same hC (HB.out _ hC))
        | (intro hC; go_at_call 76; with_reducible exact Calls.cls hC (HC.out _ hC))))
      refine wpQuiet_nil ?_
      intro w3 hC3
      have HX3 : Hid (Ext w w3) := Lib.hid (HX1.out _ hC3)
      clear hC3
      go_wp2
      go_roundw
      case rel => exact ⟨d, by omega, by go_num, rfl, HX3⟩
      case measure => first | (simp [intOf]; done) | (simp [intOf]; omega)
end Go.Proofs.Ytfiioobdknbacaa
