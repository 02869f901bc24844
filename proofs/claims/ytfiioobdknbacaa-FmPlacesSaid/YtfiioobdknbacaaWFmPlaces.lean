/- The walks of an index's Text and of the law FmPlaces. -/
import Derived.Test.YtfiioobdknbacaaAskF
set_option linter.unusedVariables false
set_option linter.unusedSimpArgs false
namespace Lec.Fm
open Lec.Sa
theorem row_end {s b : List Nat} : (R s b)[0]? = some s.length := rfl
theorem text_at {s : List Nat} {f n j : Nat} (h : j < n) (hn : f + n ≤ s.length) : ((s.drop f).take n)[j]? = some (sy s (f + j)) := by
  rw [List.getElem?_take, if_pos h, List.getElem?_drop, List.getElem?_eq_getElem (by omega)]
  simp [sy, List.getD_eq_getElem?_getD, show f + j < s.length by omega]
end Lec.Fm
namespace Go.Proofs.Ytfiioobdknbacaa
open Go.RowKit Lec Lec.Fm
variable {w : World} {x k D lo : Nat} {s b : List Nat}
theorem Text_out (hc : FmC k D s b) (h : FmN w x k D s b lo) (f n : Int) (hbd : -9223372036854775808 ≤ f ∧ f ≤ 9223372036854775807) (hi : f < 0 ∨ n < 0 ∨ (s.length : Int) - f < n) :
    Calls Try.prog 39 #[.pointer (some ⟨x, 0, none⟩), .int .i64 f, .int .i64 n] w fun e w' => e = .returned (.tuple #[.slice none 0 0, .int .i64 3]) ∧ w = w' := by
  have hlen := hc.len
  obtain ⟨p, kp, A, cc, B, c', X, h0, h1, h2, h3, h4, h5, _⟩ := h.out
  have HLN : Hid (Calls Try.prog 41 #[.pointer (some ⟨p, 0, none⟩)] w fun e w' => e = .returned (.int .i64 (s.length : Int)) ∧ w = w') := Lib.hid (by have := tLen_any h5; rwa [hc.llen] at this)
  clear h h1 h2 h3 h4 h5
  by_cases h6 : f < 0
  · clear hi
    go_enter Try.func39, Try.ntmps39
    go_wp2_with (go_at_call 41; refine HLN.out.mono ?_; rintro e w1 ⟨rfl, rfl⟩)
    go_ret2
    exact ⟨rfl, rfl⟩
  · by_cases h7 : n < 0
    · clear hi
      go_enter Try.func39, Try.ntmps39
      go_wp2_with (go_at_call 41; refine HLN.out.mono ?_; rintro e w1 ⟨rfl, rfl⟩)
      go_ret2
      exact ⟨rfl, rfl⟩
    · have h8 : (s.length : Int) - f < n := by omega
      clear hi
      go_enter Try.func39, Try.ntmps39
      go_wp2_with (go_at_call 41; refine HLN.out.mono ?_; rintro e w1 ⟨rfl, rfl⟩)
      go_ret2
      exact ⟨rfl, rfl⟩
def TextPost (w : World) (s : List Nat) (f n : Nat) (e : Ending) (w' : World) : Prop :=
  ∃ A c, e = .returned (.tuple #[.slice A n c, .int .i64 0]) ∧ Rds w' A (natsC ((s.drop f).take n)) ∧ Below w.heap.size w w'
set_option maxRecDepth 100000 in
set_option maxHeartbeats 2000000 in
theorem Text_in (hc : FmC k D s b) (h : FmN w x k D s b lo) (f n : Nat) (hfn : f + n ≤ s.length) :
    Calls Try.prog 39 #[.pointer (some ⟨x, 0, none⟩), .int .i64 (f : Int), .int .i64 (n : Int)] w (TextPost w s f n) := by
  have hlen := hc.len
  have HC := Lib.hid hc
  obtain ⟨p, kp, A, cc, B, c', X, h0, h1, h2, h3, h4, h5, h6, h7, h8, h9, _⟩ := h.out
  have HLN : Hid (∀ w', Ext w w' → Calls Try.prog 41 #[.pointer (some ⟨p, 0, none⟩)] w' fun e w'' => e = .returned (.int .i64 (s.length : Int)) ∧ w' = w'') := Lib.hid fun w' hw => by have := tLen_any (h5.ext hw.below (Nat.le_refl _)); rwa [hc.llen] at this
  have HBK : Hid (∀ w', Ext w w' → ∀ r v : Nat, (R s b)[r]? = some (v + 1) → _) := Lib.hid fun w' hw r v hr => back_any hc (h.ext hw.below (Nat.le_refl _)) r v hr
  have HQ : Hid (∀ w', Ext w w' → w'.cell? ⟨x, 0, none⟩ = some (.pointer (some ⟨p, 0, none⟩)) ∧ w'.cell? ⟨x, 3, none⟩ = some (.slice B (s.length / 8 + 2) c')) := Lib.hid fun w' hw => ⟨hw.cell h0, hw.cell h3⟩
  have HRB : Hid (∀ w', Ext w w' → Rds w' B (natsC X)) := Lib.hid fun w' hw => hw.rds h8
  have HOK := Lib.hid h9
  obtain ⟨m, hm⟩ : ∃ m, m = min ((f + n + 7) / 8 * 8) s.length := ⟨_, rfl⟩
  have hmn : f + n ≤ m := by omega
  have hms : m ≤ s.length := by omega
  have HM8 : Hid (¬ m % 8 = 0 → m = s.length) := by show _; intro h; omega
  have hmi : min (((f : Int) + (n : Int) + 8 - 1) / 8 * 8) (s.length : Int) = (m : Int) := by omega
  obtain ⟨N, HN⟩ : ∃ N, Hid (N = s.length / 8 + 2) := ⟨_, Lib.hid rfl⟩
  rw [← HN.out] at HQ
  have hXN : X[N - 1]? = some 0 := by have := h9.2.2; rw [HN.out]; exact this
  obtain ⟨aB, rfl, _⟩ := (HRB.out w (Ext.refl w)) (N - 1) _ (natsC_at hXN)
  have HCE : Hid (∀ w', Ext w w' → ∀ i v : Nat, X[i]? = some v → w'.cell? (aB.add i) = some (.int .i64 (v : Int))) := Lib.hid fun w' hw i v hv => by
    obtain ⟨a2, e2, c2⟩ := HRB.out w' hw i _ (natsC_at hv)
    obtain rfl := Option.some.inj e2
    exact c2
  have HXN := Lib.hid hXN
  have hmk := mk_ints n (by omega)
  clear h h0 h1 h2 h3 h4 h5 h6 h7 h8 h9 hc hm
  have g1 : ¬ (f : Int) < 0 := by omega
  have g2 : ¬ (n : Int) < 0 := by omega
  have g3 : ¬ (s.length : Int) - (f : Int) < (n : Int) := by omega
  have c0 := (HQ.out _ (Ext.refl w)).1
  go_enter Try.func39, Try.ntmps39
  go_upto_region 4 with (go_at_call 41; refine (HLN.out _ (Ext.refl w)).mono ?_; rintro e w1 ⟨rfl, rfl⟩)
  clear c0 hmi g1 g2 g3 hXN
  have hN2 : 2 ≤ N := by rw [HN.out]; omega
  have hN3 : N ≤ 1000000 := by rw [HN.out]; omega
  have e1 : IntKind.i64.wrap ((N : Int) - 1) = (N : Int) - 1 := wrapI (by omega)
  have e2 : (0 : Int) ≤ (N : Int) - 1 := by omega
  have e3 : (N : Int) - 1 < (N : Int) := by omega
  have e4 : ((N : Int) - 1).toNat = N - 1 := by omega
  have c3 := (HQ.out _ (Ext.refl w)).2
  have cz := HCE.out _ (Ext.refl w) (N - 1) 0 HXN.out
  go_quiet (fail)
  have HXQ : Hid (Ext w (w.drewN nq)) := Lib.hid (drawn_below w nq)
  clear c3 cz e1 e2 e3 e4
  obtain ⟨r, hr, hrow⟩ : ∃ r : Nat, (R s b)[r]? = some m ∧ ((m % 8 = 0 → X[m / 8]? = some r) ∧ (¬ m % 8 = 0 → r = 0)) := by
    by_cases h8 : m % 8 = 0
    · obtain ⟨r, hr⟩ := List.mem_iff_getElem?.1 ((Sa.rowsL_mem HC.out.sa m).2 hms)
      exact ⟨r, hr, fun _ => HOK.out.2.1 r m hr h8, fun h => absurd h8 h⟩
    · exact ⟨0, by rw [HM8.out h8]; rfl, fun h => absurd h h8, fun _ => rfl⟩
  have HRW := Lib.hid hr
  have c3 := (HQ.out _ HXQ.out).2
  by_cases h8 : m % 8 = 0
  · have h8i : ((m : Int) % 8 == 0) = true := by rw [beq_iff_eq]; omega
    have hXm := hrow.1 h8
    have cm := HCE.out _ HXQ.out (m / 8) r hXm
    have hmN : (m : Int) / 8 < (N : Int) := by have := HN.out; omega
    have hmT : ((m : Int) / 8).toNat = m / 8 := by omega
    clear h8 hrow hXm hr
    go_upto_region 7 with (fail)
    clear cm h8i hmN hmT
    go_upto_region 8 with (fail)
    obtain ⟨w3, hw3⟩ : ∃ w3, w3 = (w.drewN nq).alloc (.cells (Array.replicate n (.int .i64 0)) 3) := ⟨_, rfl⟩
    rw [← hw3]
    have HX3 : Hid (Ext w w3) := by rw [hw3]; exact Ext.trans HXQ.out ((Below.refl _ _).alloc (Nat.le_refl _) _)
    have HBG : Hid (Blk w3 (w.drewN nq).heap.size 3 (natsC (List.replicate n 0))) := by
      rw [hw3]; exact Blk.newL _ _ _ _ _ rfl (by simp [natsC])
    have HGW : Hid (w.heap.size ≤ (w.drewN nq).heap.size) := Lib.hid HXQ.out.below.size
    obtain ⟨g, hg⟩ : ∃ g, g = (w.drewN nq).heap.size := ⟨_, rfl⟩
    rw [show (w.drewN nq).heap.size = w.heap.size from rfl] at hg HBG HGW
    rw [← hg] at HBG ⊢
    rw [← hg] at HGW
    have HGG : Hid (w.heap.size ≤ g) := Lib.hid (by omega)
    clear hw3 hmk hg HGW c3
    go_wp2
    go_loopw [8, 9] (fun at_ row wx => ∃ (a r' : Nat) (Y : List Nat), f ≤ a ∧ a ≤ m ∧ at_ = .int .i64 ((a : Int) - 1) ∧ row = .int .i64 (r' : Int) ∧ Hid ((R s b)[r']? = some a) ∧ Hid (Y.length = n) ∧ Hid (∀ j, j < n → a ≤ f + j → Y[j]? = some (Sa.sy s (f + j))) ∧ Hid (Blk wx g 3 (natsC Y)) ∧ Hid (Ext w wx)) (fun at_ _ _ => (intOf at_ + 1).toNat)
    case atStart => exact ⟨m, r, _, by omega, by omega, by go_num, rfl, HRW, Lib.hid (by simp), Lib.hid (fun j hj h => by omega), HBG, HX3⟩
    case round =>
      obtain ⟨a, r', Y, hfa, ham, rfl, rfl, HRA, HYL, HYS, HY, HX⟩ := hrel
      by_cases h8 : f < a
      · obtain ⟨a, rfl⟩ : ∃ z, a = z + 1 := ⟨a - 1, by omega⟩
        have haa : ((a + 1 : Nat) : Int) - 1 = (a : Int) := by omega
        rw [haa]
        have h8i : (f : Int) ≤ (a : Int) := by omega
        have HB := Lib.hid (HBK.out _ HX.out r' a HRA.out)
        have HRN := Lib.hid (F_row HC.out.sa HRA.out)
        have hsy : Sa.sy s a ≤ 1000000 := by have := HC.out.sym _ (sy_mem (show a < s.length by omega)); have := HC.out.k5; omega
        obtain ⟨z, hz⟩ : ∃ z, z = Sa.sy s a := ⟨_, rfl⟩
        have HZ := Lib.hid hz
        rw [← hz] at HB HRN hsy
        clear hz
        go_wp2_with fail
        refine HB.out.mono ?_
        rintro e w4 ⟨rfl, hb4⟩
        have HX4 : Hid (Ext w w4) := Lib.hid (HX.out.trans hb4)
        have HY4 := Lib.hid (HY.out.ext hb4 (Nat.le_refl _))
        clear hb4
        by_cases h9 : a < f + n
        · have h9i : (a : Int) < (f : Int) + (n : Int) := by omega
          have hij : a - f < n := by omega
          have hiji : (a : Int) - (f : Int) < (n : Int) := by omega
          have hij0 : (0 : Int) ≤ (a : Int) - (f : Int) := by omega
          have hijt : ((a : Int) - (f : Int)).toNat = a - f := by omega
          obtain ⟨y, hy⟩ : ∃ y, Y[a - f]? = some y := ⟨_, List.getElem?_eq_getElem (by rw [HYL.out]; exact hij)⟩
          have cg := HY4.out.cell (natsC_at hy)
          have fg := HY4.out.froz (a - f)
          have hY5 := HY4.out.set (a - f) (.int .i64 (z : Int))
          rw [← natsC_set] at hY5
          have HY5 := Lib.hid hY5
          have HX5 : Hid (Ext w (w4.setCell ⟨g, a - f, none⟩ (.int .i64 (z : Int)))) := Lib.hid (HX4.out.setCell HGG.out _)
          have HYL5 : Hid ((Y.set (a - f) z).length = n) := Lib.hid (by rw [List.length_set]; exact HYL.out)
          have HYS5 : Hid (∀ j, j < n → a ≤ f + j → (Y.set (a - f) z)[j]? = some (Sa.sy s (f + j))) := Lib.hid fun j hj h => by
            rw [List.getElem?_set]
            by_cases e : a - f = j
            · rw [if_pos e, if_pos (by rw [HYL.out]; omega), HZ.out, show f + j = a by omega]
            · rw [if_neg e]; exact HYS.out j hj (by omega)
          clear hy hY5
          go_wp2
          go_roundw
          case rel => exact ⟨a, _, _, by omega, by omega, by go_num, rfl, HRN, HYL5, HYS5, HY5, HX5⟩
          case measure => first | (simp [intOf]; done) | (simp [intOf]; omega)
        · have h9i : ¬ (a : Int) < (f : Int) + (n : Int) := by omega
          have HYS5 : Hid (∀ j, j < n → a ≤ f + j → Y[j]? = some (Sa.sy s (f + j))) := Lib.hid fun j hj h => HYS.out j hj (by omega)
          go_wp2
          go_roundw
          case rel => exact ⟨a, _, _, by omega, by omega, by go_num, rfl, HRN, HYL, HYS5, HY4, HX4⟩
          case measure => first | (simp [intOf]; done) | (simp [intOf]; omega)
      · obtain rfl : a = f := by omega
        have h8i : ¬ (a : Int) ≤ (a : Int) - 1 := by omega
        have HYE : Hid (Y = (s.drop a).take n) := Lib.hid (List.ext_getElem? (fun j => by
          by_cases hj : j < n
          · rw [HYS.out j hj (by omega), text_at hj hfn]
          · rw [List.getElem?_eq_none (by rw [HYL.out]; omega), List.getElem?_eq_none (by rw [List.length_take]; omega)]))
        go_wp2
        go_ret2
        exact ⟨_, _, rfl, by rw [← HYE.out]; exact HY.out.rds, HX.out⟩
  · have h8i : ((m : Int) % 8 == 0) = false := by rw [beq_eq_false_iff_ne]; omega
    obtain rfl := hrow.2 h8
    clear h8 hrow hr
    go_upto_region 7 with (fail)
    clear h8i
    go_upto_region 8 with (fail)
    obtain ⟨w3, hw3⟩ : ∃ w3, w3 = (w.drewN nq).alloc (.cells (Array.replicate n (.int .i64 0)) 3) := ⟨_, rfl⟩
    rw [← hw3]
    have HX3 : Hid (Ext w w3) := by rw [hw3]; exact Ext.trans HXQ.out ((Below.refl _ _).alloc (Nat.le_refl _) _)
    have HBG : Hid (Blk w3 (w.drewN nq).heap.size 3 (natsC (List.replicate n 0))) := by
      rw [hw3]; exact Blk.newL _ _ _ _ _ rfl (by simp [natsC])
    have HGW : Hid (w.heap.size ≤ (w.drewN nq).heap.size) := Lib.hid HXQ.out.below.size
    obtain ⟨g, hg⟩ : ∃ g, g = (w.drewN nq).heap.size := ⟨_, rfl⟩
    rw [show (w.drewN nq).heap.size = w.heap.size from rfl] at hg HBG HGW
    rw [← hg] at HBG ⊢
    rw [← hg] at HGW
    have HGG : Hid (w.heap.size ≤ g) := Lib.hid (by omega)
    clear hw3 hmk hg HGW c3
    go_wp2
    go_loopw [8, 9] (fun at_ row wx => ∃ (a r' : Nat) (Y : List Nat), f ≤ a ∧ a ≤ m ∧ at_ = .int .i64 ((a : Int) - 1) ∧ row = .int .i64 (r' : Int) ∧ Hid ((R s b)[r']? = some a) ∧ Hid (Y.length = n) ∧ Hid (∀ j, j < n → a ≤ f + j → Y[j]? = some (Sa.sy s (f + j))) ∧ Hid (Blk wx g 3 (natsC Y)) ∧ Hid (Ext w wx)) (fun at_ _ _ => (intOf at_ + 1).toNat)
    case atStart => exact ⟨m, 0, _, by omega, by omega, by go_num, rfl, HRW, Lib.hid (by simp), Lib.hid (fun j hj h => by omega), HBG, HX3⟩
    case round =>
      obtain ⟨a, r', Y, hfa, ham, rfl, rfl, HRA, HYL, HYS, HY, HX⟩ := hrel
      by_cases h8 : f < a
      · obtain ⟨a, rfl⟩ : ∃ z, a = z + 1 := ⟨a - 1, by omega⟩
        have haa : ((a + 1 : Nat) : Int) - 1 = (a : Int) := by omega
        rw [haa]
        have h8i : (f : Int) ≤ (a : Int) := by omega
        have HB := Lib.hid (HBK.out _ HX.out r' a HRA.out)
        have HRN := Lib.hid (F_row HC.out.sa HRA.out)
        have hsy : Sa.sy s a ≤ 1000000 := by have := HC.out.sym _ (sy_mem (show a < s.length by omega)); have := HC.out.k5; omega
        obtain ⟨z, hz⟩ : ∃ z, z = Sa.sy s a := ⟨_, rfl⟩
        have HZ := Lib.hid hz
        rw [← hz] at HB HRN hsy
        clear hz
        go_wp2_with fail
        refine HB.out.mono ?_
        rintro e w4 ⟨rfl, hb4⟩
        have HX4 : Hid (Ext w w4) := Lib.hid (HX.out.trans hb4)
        have HY4 := Lib.hid (HY.out.ext hb4 (Nat.le_refl _))
        clear hb4
        by_cases h9 : a < f + n
        · have h9i : (a : Int) < (f : Int) + (n : Int) := by omega
          have hij : a - f < n := by omega
          have hiji : (a : Int) - (f : Int) < (n : Int) := by omega
          have hij0 : (0 : Int) ≤ (a : Int) - (f : Int) := by omega
          have hijt : ((a : Int) - (f : Int)).toNat = a - f := by omega
          obtain ⟨y, hy⟩ : ∃ y, Y[a - f]? = some y := ⟨_, List.getElem?_eq_getElem (by rw [HYL.out]; exact hij)⟩
          have cg := HY4.out.cell (natsC_at hy)
          have fg := HY4.out.froz (a - f)
          have hY5 := HY4.out.set (a - f) (.int .i64 (z : Int))
          rw [← natsC_set] at hY5
          have HY5 := Lib.hid hY5
          have HX5 : Hid (Ext w (w4.setCell ⟨g, a - f, none⟩ (.int .i64 (z : Int)))) := Lib.hid (HX4.out.setCell HGG.out _)
          have HYL5 : Hid ((Y.set (a - f) z).length = n) := Lib.hid (by rw [List.length_set]; exact HYL.out)
          have HYS5 : Hid (∀ j, j < n → a ≤ f + j → (Y.set (a - f) z)[j]? = some (Sa.sy s (f + j))) := Lib.hid fun j hj h => by
            rw [List.getElem?_set]
            by_cases e : a - f = j
            · rw [if_pos e, if_pos (by rw [HYL.out]; omega), HZ.out, show f + j = a by omega]
            · rw [if_neg e]; exact HYS.out j hj (by omega)
          clear hy hY5
          go_wp2
          go_roundw
          case rel => exact ⟨a, _, _, by omega, by omega, by go_num, rfl, HRN, HYL5, HYS5, HY5, HX5⟩
          case measure => first | (simp [intOf]; done) | (simp [intOf]; omega)
        · have h9i : ¬ (a : Int) < (f : Int) + (n : Int) := by omega
          have HYS5 : Hid (∀ j, j < n → a ≤ f + j → Y[j]? = some (Sa.sy s (f + j))) := Lib.hid fun j hj h => HYS.out j hj (by omega)
          go_wp2
          go_roundw
          case rel => exact ⟨a, _, _, by omega, by omega, by go_num, rfl, HRN, HYL, HYS5, HY4, HX4⟩
          case measure => first | (simp [intOf]; done) | (simp [intOf]; omega)
      · obtain rfl : a = f := by omega
        have h8i : ¬ (a : Int) ≤ (a : Int) - 1 := by omega
        have HYE : Hid (Y = (s.drop a).take n) := Lib.hid (List.ext_getElem? (fun j => by
          by_cases hj : j < n
          · rw [HYS.out j hj (by omega), text_at hj hfn]
          · rw [List.getElem?_eq_none (by rw [HYL.out]; omega), List.getElem?_eq_none (by rw [List.length_take]; omega)]))
        go_wp2
        go_ret2
        exact ⟨_, _, rfl, by rw [← HYE.out]; exact HY.out.rds, HX.out⟩

set_option maxRecDepth 100000 in
set_option maxHeartbeats 4000000 in
theorem FmPlaces_walk (W : World) (K : Int) (A B C : Option Addr) (c d e0 : Nat) (L : List Int) (P : List (List Int)) (Is : List Int) (hL : L.length ≤ 1152921504606846976) (hPl : ∀ p ∈ P, p.length ≤ 1152921504606846976) (hPn : P.length ≤ 1152921504606846976) (hcA : L.length ≤ c) (hnA : A = none → L.length = 0 ∧ c = 0)
    (hl : Rds W A (intsV L)) (hpt : Pats W B P) (hi : Rds W C (intsV Is)) (hwf : ∀ y ∈ Is, -9223372036854775808 ≤ y ∧ y ≤ 9223372036854775807) :
    Calls Try.prog 9 #[.agg #[.int .i64 K, .slice A L.length c, .slice B P.length d, .slice C Is.length e0]] W fun e w' => e = .returned (.bool true) ∧ Below W.heap.size W w' := by
  have HL := Lib.hid hl
  have HPT := Lib.hid hpt
  have HI := Lib.hid hi
  have HW := Lib.hid hwf
  have HV : Hid (∀ w', Below W.heap.size W w' → Calls Try.prog 21 #[.agg #[.int .i64 K, .slice A L.length c, .slice B P.length d, .slice C Is.length e0]] w' (HeavyF w' L P Is)) := Lib.hid fun w' h => heavyF_any w' K A B C c d e0 L P Is hL hPl hPn (hpt.ext h (Nat.le_refl _))
  clear hl hi hwf hpt hL hPl hPn
  go_enter Try.func9, Try.ntmps9
  go_wp2_with fail
  obtain ⟨w0, hw0⟩ : ∃ w0, w0 = W.alloc (.cells #[.int .i64 K, .slice A L.length c, .slice B P.length d, .slice C Is.length e0] 48) := ⟨_, rfl⟩
  rw [← hw0]
  have HX0 : Hid (Below W.heap.size W w0) := by rw [hw0]; exact (Below.refl _ _).alloc (Nat.le_refl _) _
  have HC0 : Hid (w0.cell? ⟨W.heap.size, 0, none⟩ = some (.int .i64 K)) := by rw [hw0]; show _ = _; rw [cell_of_row _ _ _ _ _ _ (heap_alloc_new _ _)]; rfl
  have HC1 : Hid (w0.cell? ⟨W.heap.size, 1, none⟩ = some (.slice A L.length c)) := by rw [hw0]; show _ = _; rw [cell_of_row _ _ _ _ _ _ (heap_alloc_new _ _)]; rfl
  have HC2 : Hid (w0.cell? ⟨W.heap.size, 2, none⟩ = some (.slice B P.length d)) := by rw [hw0]; show _ = _; rw [cell_of_row _ _ _ _ _ _ (heap_alloc_new _ _)]; rfl
  have HC3 : Hid (w0.cell? ⟨W.heap.size, 3, none⟩ = some (.slice C Is.length e0)) := by rw [hw0]; show _ = _; rw [cell_of_row _ _ _ _ _ _ (heap_alloc_new _ _)]; rfl
  clear hw0
  refine (HV.out w0 HX0.out).mono ?_
  rintro e w1 ⟨u, rfl, hlight, hb⟩
  have HLI := Lib.hid hlight
  have HX1 : Hid (Below W.heap.size W w1) := HX0.out.trans (hb.mono HX0.out.size)
  have HC01 := Lib.hid (cell_ext hb (Nat.le_refl _) HC0.out)
  have HC11 := Lib.hid (cell_ext hb (Nat.le_refl _) HC1.out)
  have HC21 := Lib.hid (cell_ext hb (Nat.le_refl _) HC2.out)
  have HC31 := Lib.hid (cell_ext hb (Nat.le_refl _) HC3.out)
  clear hb hlight HC0 HC1 HC2 HC3 HX0 HV
  have k0 := HC01.out
  have k1 := HC11.out
  have k2 := HC21.out
  have k3 := HC31.out
  cases u with
  | true =>
    go_wp2
    go_ret
    exact ⟨rfl, HX1.out⟩
  | false =>
    obtain ⟨hl4, hp4, hpn, hin⟩ := HLI.out rfl
    clear HLI
    go_wp2_with fail
    clear k0 k1 k2 k3
    refine (madeF_any w1 K A c B P.length d C Is.length e0 L hl4 (HL.out.ext HX1.out (Nat.le_refl _))).mono ?_
    rintro e w2 ⟨hb, hpost⟩
    have HX2 : Hid (Below W.heap.size W w2) := HX1.out.trans (hb.mono HX1.out.size)
    have HK0 := Lib.hid (cell_ext hb (Nat.le_refl _) HC01.out)
    have HK1 := Lib.hid (cell_ext hb (Nat.le_refl _) HC11.out)
    have HK2 := Lib.hid (cell_ext hb (Nat.le_refl _) HC21.out)
    have HK3 := Lib.hid (cell_ext hb (Nat.le_refl _) HC31.out)
    replace HL := Lib.hid (HL.out.ext HX2.out (Nat.le_refl _))
    replace HPT := Lib.hid (HPT.out.ext HX2.out (Nat.le_refl _))
    replace HI := Lib.hid (HI.out.ext HX2.out (Nat.le_refl _))
    clear hb HX1 HC01 HC11 HC21 HC31
    rcases hpost with ⟨hno, rfl⟩ | ⟨hok, x, D, b, lo, rfl, hfc, hfm⟩
    · clear hno
      have HXF := HX2
      go_wp2_with fail
      refine (wakesF _).mono ?_
      rintro e w9 ⟨rfl, hb⟩
      go_wp2
      go_ret
      exact ⟨rfl, HXF.out.trans (hb.mono HXF.out.size)⟩
    · have hnats := okTree_nats hok
      obtain ⟨k, rfl⟩ : ∃ k : Nat, K = (k : Int) := ⟨K.toNat, by have := hok.1; omega⟩
      obtain ⟨s, hM⟩ : ∃ s, s = L.map Int.toNat := ⟨_, rfl⟩
      rw [← hM] at hfc hfm hnats
      have hml : s.length = L.length := by rw [hM, List.length_map]
      rw [Int.toNat_natCast] at hfc hfm
      have HSL := Lib.hid hml
      have HNA := Lib.hid hnats
      have HFC := Lib.hid hfc
      have HFM : Hid (∀ w', Below w2.heap.size w2 w' → FmN w' x k D s b lo) := Lib.hid fun w' h => hfm.ext h (Nat.le_refl _)
      have HLS : Hid (∀ w', Below w2.heap.size w2 w' → Rds w' A (natsC s)) := Lib.hid fun w' h => by rw [HNA.out]; exact HL.out.ext h (Nat.le_refl _)
      have HPE : Hid (∀ i (h : i < P.length), ∃ a PA pc, B = some a ∧ P[i].length ≤ pc ∧ (PA = none → P[i].length = 0 ∧ pc = 0) ∧ ∀ w', Below w2.heap.size w2 w' → w'.cell? (a.add i) = some (.slice PA P[i].length pc) ∧ Rds w' PA (intsV P[i])) := Lib.hid fun i h => by
        obtain ⟨a, PA, pc, e, h1, h2, h3, h4⟩ := HPT.out i h
        exact ⟨a, PA, pc, e, h2, h3, fun w' hb => ⟨cell_ext hb (Nat.le_refl _) h1, h4.ext hb (Nat.le_refl _)⟩⟩
      have hsl4 : s.length ≤ 400 := by rw [HSL.out]; exact hl4
      have hk5 := hfc.k5
      have hk1 : 1 ≤ k := by have := hok.1; omega
      clear hM hml hnats hfc hfm hok HPT
      rw [← HSL.out] at HK1
      have c1 := HK1.out
      have HRO := Lib.hid (refRows_any w2 A c s (by omega) (HLS.out _ (Below.refl _ _)))
      go_wp2_with fail
      refine HRO.out.mono ?_
      rintro e w3 ⟨b', v3, rfl, hsa', hown3, hb3⟩
      obtain rfl : b' = b := hsa'.eq HFC.out.sa
      have HB3 : Hid (Below w2.heap.size w2 w3) := Lib.hid hb3
      obtain ⟨A3, c3, rfl, _, _, _, r3, _⟩ := own_rds hown3
      have HR3 : Hid (∀ w', Below w3.heap.size w3 w' → Rds w' A3 (natsC (R s b'))) := Lib.hid fun w' h => r3.ext h (Nat.le_refl _)
      have HFX : Hid (∀ w', Below w3.heap.size w3 w' → FmN w' x k D s b' lo) := Lib.hid fun w' h => HFM.out w' (HB3.out.trans (h.mono HB3.out.size))
      have HRL : Hid ((R s b').length = 1 + s.length) := by show _ = _; rw [Sa.rowsL_len HFC.out.sa]; omega
      clear hsa' hown3 hb3 r3 HRO c1
      go_wp2
      go_loopw [6] (fun i wr => ∃ n : Int, -1 ≤ n ∧ n ≤ (s.length : Int) + 2 ∧ i = .int .i64 n ∧ Hid (Below w3.heap.size w3 wr)) (fun i _ => ((s.length : Int) + 2 - intOf i).toNat)
      case atStart => exact ⟨-1, by omega, by omega, rfl, Lib.hid (Below.refl _ _)⟩
      case round =>
        obtain ⟨i, hi0, hi, rfl, HB⟩ := hrel
        by_cases h1 : i ≤ 1 + (s.length : Int)
        · by_cases hi1 : i < 0
          · have HF := Lib.hid (Place_out HFC.out (HFX.out _ HB.out) i (.inl hi1))
            go_wp2_with fail
            refine HF.out.mono ?_
            rintro e w4 ⟨rfl, hb4⟩
            have HB4 : Hid (Below w3.heap.size w3 w4) := Lib.hid (HB.out.trans (hb4.mono HB.out.size))
            clear hb4
            go_wp2_with (go_at_call 28; refine (num6 _ _).mono ?_; rintro e wq ⟨rfl, rfl⟩)
            go_roundw
            case rel => exact ⟨i + 1, by omega, by omega, by go_num, HB4⟩
            case measure => simp [intOf]; omega
          · by_cases hi2 : i = 1 + (s.length : Int)
            · have HF := Lib.hid (Place_out HFC.out (HFX.out _ HB.out) i (.inr (by omega)))
              have hie : (i == 1 + (s.length : Int)) = true := by rw [beq_iff_eq]; exact hi2
              clear hi2
              go_wp2_with fail
              refine HF.out.mono ?_
              rintro e w4 ⟨rfl, hb4⟩
              have HB4 : Hid (Below w3.heap.size w3 w4) := Lib.hid (HB.out.trans (hb4.mono HB.out.size))
              clear hb4
              go_wp2_with (go_at_call 28; refine (num6 _ _).mono ?_; rintro e wq ⟨rfl, rfl⟩)
              go_roundw
              case rel => exact ⟨i + 1, by omega, by omega, by go_num, HB4⟩
              case measure => simp [intOf]; omega
            · obtain ⟨i, rfl⟩ : ∃ z : Nat, i = (z : Int) := ⟨i.toNat, by omega⟩
              have hil : i < 1 + s.length := by omega
              obtain ⟨v, hv⟩ : ∃ v, (R s b')[i]? = some v := ⟨_, List.getElem?_eq_getElem (by rw [HRL.out]; exact hil)⟩
              have HF := Lib.hid (Place_in HFC.out (HFX.out _ HB.out) i v hv)
              have HLX : Hid (∀ w', Below w3.heap.size w3 w' → ∃ a, A3 = some a ∧ w'.cell? (a.add i) = some (.int .i64 (v : Int))) := Lib.hid fun w' h => HR3.out w' h i _ (natsC_at hv)
              have hie : ((i : Int) == 1 + (s.length : Int)) = false := by rw [beq_eq_false_iff_ne]; omega
              have hvv : ((v : Int) != (v : Int)) = false := by simp
              clear hv hi2
              go_wp2_with fail
              refine HF.out.mono ?_
              rintro e w4 ⟨rfl, hb4⟩
              have HB4 : Hid (Below w3.heap.size w3 w4) := Lib.hid (HB.out.trans (hb4.mono HB.out.size))
              clear hb4
              obtain ⟨a, rfl, hcl⟩ := HLX.out _ HB4.out
              have hili : (i : Int) < 1 + (s.length : Int) := by omega
              go_wp2_with (go_at_call 28; refine (num6 _ _).mono ?_; rintro e wq ⟨rfl, rfl⟩)
              go_roundw
              case rel => exact ⟨(i : Int) + 1, by omega, by omega, by go_num, HB4⟩
              case measure => simp [intOf]; omega
        · clear hi0 hi
          have HBW : Hid (∀ w', Below w3.heap.size w3 w' → Below w2.heap.size w2 w') := Lib.hid fun w' h => HB3.out.trans (h.mono HB3.out.size)
          go_wp2
          go_loopw [9] (fun i wr => ∃ n : Nat, n ≤ Is.length ∧ i = .int .i64 (n : Int) ∧ Hid (Below w3.heap.size w3 wr)) (fun i _ => Is.length - (intOf i).toNat)
          case atStart => exact ⟨0, by omega, rfl, HB⟩
          case round =>
            clear HB
            obtain ⟨i, hi, rfl, HB⟩ := hrel
            have c3 := cell_ext (HBW.out _ HB.out) (Nat.le_refl _) HK3.out
            by_cases h1 : i < Is.length
            · have h1i : (i : Int) < (Is.length : Int) := by omega
              go_wp2
              clear c3
              go_loopw [10] (fun jj wr => ∃ n : Nat, n ≤ Is.length ∧ jj = .int .i64 (n : Int) ∧ Hid (Below w3.heap.size w3 wr)) (fun jj _ => Is.length - (intOf jj).toNat)
              case atStart => exact ⟨0, by omega, rfl, HB⟩
              case round =>
                clear HB
                obtain ⟨j, hj, rfl, HB⟩ := hrel
                have c3 := cell_ext (HBW.out _ HB.out) (Nat.le_refl _) HK3.out
                by_cases h2 : j < Is.length
                · have h2i : (j : Int) < (Is.length : Int) := by omega
                  obtain ⟨a, rfl, hc⟩ := (HI.out.ext (HBW.out _ HB.out) (Nat.le_refl _)).map i h1
                  obtain ⟨a', e', hc'⟩ := (HI.out.ext (HBW.out _ HB.out) (Nat.le_refl _)).map j h2
                  obtain rfl := Option.some.inj e'
                  have hxw := HW.out _ (List.getElem_mem h1)
                  have hyw := HW.out _ (List.getElem_mem h2)
                  generalize Is[i] = f at *
                  generalize Is[j] = n at *
                  have g0 : (0 : Int) ≤ (i : Int) := by omega
                  have g1 : (0 : Int) ≤ (j : Int) := by omega
                  go_upto_region 22 with (fail)
                  go_quiet (fail)
                  clear hc hc' c3 e'
                  have HBQ : Hid (Below w3.heap.size w3 (wr.drewN nq)) := Lib.hid (HB.out.trans ((drawn_below wr nq).mono HB.out.size))
                  have d1 := cell_ext (HBW.out _ HBQ.out) (Nat.le_refl _) HK1.out
                  by_cases hbad : f < 0 ∨ n < 0 ∨ (s.length : Int) - f < n
                  · have HF := Lib.hid (Text_out HFC.out (HFX.out _ HBQ.out) f n hxw hbad)
                    have hfb : f < 0 ∨ (¬ f < 0 ∧ n < 0) ∨ (¬ f < 0 ∧ ¬ n < 0 ∧ (s.length : Int) < f) ∨ (¬ f < 0 ∧ ¬ n < 0 ∧ ¬ (s.length : Int) < f ∧ (s.length : Int) - f < n) := by omega
                    clear hbad
                    rcases hfb with hf0 | ⟨hf0, hf1⟩ | ⟨hf0, hf1, hf2⟩ | ⟨hf0, hf1, hf2, hf3⟩
                    · go_wp2_with fail
                      refine HF.out.mono ?_
                      rintro e w4 ⟨rfl, rfl⟩
                      go_wp2_with (go_at_call 28; refine (num6 _ _).mono ?_; rintro e wq ⟨rfl, rfl⟩)
                      go_roundw
                      case rel => exact ⟨j + 1, by omega, by go_num, HBQ⟩
                      case measure => simp [intOf]; omega
                    · go_wp2_with fail
                      refine HF.out.mono ?_
                      rintro e w4 ⟨rfl, rfl⟩
                      go_wp2_with (go_at_call 28; refine (num6 _ _).mono ?_; rintro e wq ⟨rfl, rfl⟩)
                      go_roundw
                      case rel => exact ⟨j + 1, by omega, by go_num, HBQ⟩
                      case measure => simp [intOf]; omega
                    · go_wp2_with fail
                      refine HF.out.mono ?_
                      rintro e w4 ⟨rfl, rfl⟩
                      go_wp2_with (go_at_call 28; refine (num6 _ _).mono ?_; rintro e wq ⟨rfl, rfl⟩)
                      go_roundw
                      case rel => exact ⟨j + 1, by omega, by go_num, HBQ⟩
                      case measure => simp [intOf]; omega
                    · go_wp2_with fail
                      refine HF.out.mono ?_
                      rintro e w4 ⟨rfl, rfl⟩
                      go_wp2_with (go_at_call 28; refine (num6 _ _).mono ?_; rintro e wq ⟨rfl, rfl⟩)
                      go_roundw
                      case rel => exact ⟨j + 1, by omega, by go_num, HBQ⟩
                      case measure => simp [intOf]; omega
                  · obtain ⟨f, rfl⟩ : ∃ z : Nat, f = (z : Int) := ⟨f.toNat, by omega⟩
                    obtain ⟨n, rfl⟩ : ∃ z : Nat, n = (z : Int) := ⟨n.toNat, by omega⟩
                    have hfn : f + n ≤ s.length := by omega
                    have HF := Lib.hid (Text_in HFC.out (HFX.out _ HBQ.out) f n hfn)
                    have f0 : ¬ (f : Int) < 0 := by omega
                    have f1 : ¬ (n : Int) < 0 := by omega
                    have f2 : ¬ (s.length : Int) < (f : Int) := by omega
                    have f3 : ¬ (s.length : Int) - (f : Int) < (n : Int) := by omega
                    clear hbad
                    go_wp2_with fail
                    refine HF.out.mono ?_
                    rintro e w4 ⟨A4, c4, rfl, r4, hb4⟩
                    have HB4 : Hid (Below w3.heap.size w3 w4) := Lib.hid (HBQ.out.trans (hb4.mono HBQ.out.size))
                    have HR4 := Lib.hid r4
                    clear hb4 d1 r4
                    have d1 := cell_ext (HBW.out _ HB4.out) (Nat.le_refl _) HK1.out
                    have f4 : (f : Int) ≤ (f : Int) + (n : Int) := by omega
                    have f5 : (f : Int) + (n : Int) ≤ (c : Int) := by have := HSL.out; omega
                    have hfc2 : f + n ≤ c := by omega
                    by_cases hcf : c = f
                    · have q1 : c - f = 0 := by omega
                      have hn0 : n = 0 := by have := HSL.out; omega
                      have HEQ : Hid (Calls Try.prog 29 #[.slice A4 n c4, .slice A n 0] w4 fun e w' => e = .returned (.bool true) ∧ ∃ q, w4.drewN q = w') := Lib.hid (by
                        subst hn0
                        have h := EqNumbers_any w4 A4 0 c4 [] rfl (Rds.nil _ _) A 0 0 [] rfl (Rds.nil _ _) (by omega)
                        rwa [decide_eq_true rfl] at h)
                      clear hn0 hcf
                      go_wp2_with (first
                        | (go_at_call 28; refine (num6 _ _).mono ?_; rintro e wq ⟨rfl, rfl⟩)
                        | (go_at_call 29; (with_reducible refine HEQ.out.mono ?_); rintro e wq ⟨rfl, q9, rfl⟩))
                      go_roundw
                      case rel => exact ⟨j + 1, by omega, by go_num, Lib.hid (HB4.out.trans ((drawn_below w4 q9).mono HB4.out.size))⟩
                      case measure => simp [intOf]; omega
                    · have q1 : ¬ c - f = 0 := by omega
                      have HEQ : Hid (Calls Try.prog 29 #[.slice A4 n c4, .slice (Option.map (fun x => x.add f) A) n (c - f)] w4 fun e w' => e = .returned (.bool true) ∧ ∃ q, w4.drewN q = w') := Lib.hid (by
                        have hr := Rds.drop1 (c := c) (k := f) (HLS.out _ (HBW.out _ HB4.out)) (by simp [natsC]; omega) (by simp [natsC]; have := HSL.out; omega)
                        rw [if_neg hcf] at hr
                        have hr2 := hr.take n
                        have hdt : ((natsC s).drop f).take n = natsC ((s.drop f).take n) := by unfold natsC; rw [List.map_take, List.map_drop]
                        rw [hdt] at hr2
                        have hl : ((s.drop f).take n).length = n := by rw [List.length_take, List.length_drop]; omega
                        have h := EqNumbers_any w4 A4 n c4 (((s.drop f).take n).map fun v : Nat => (v : Int)) (by rw [List.length_map, hl]) (by have := HR4.out; rwa [natsC_ints] at this) (Option.map (fun x => x.add f) A) n (c - f) (((s.drop f).take n).map fun v : Nat => (v : Int)) (by rw [List.length_map, hl]) (by rwa [natsC_ints] at hr2) (by omega)
                        rwa [decide_eq_true rfl] at h)
                      clear hcf
                      go_wp2_with (first
                        | (go_at_call 28; refine (num6 _ _).mono ?_; rintro e wq ⟨rfl, rfl⟩)
                        | (go_at_call 29; (with_reducible refine HEQ.out.mono ?_); rintro e wq ⟨rfl, q9, rfl⟩))
                      go_roundw
                      case rel => exact ⟨j + 1, by omega, by go_num, Lib.hid (HB4.out.trans ((drawn_below w4 q9).mono HB4.out.size))⟩
                      case measure => simp [intOf]; omega
                · have h2i : ¬ (j : Int) < (Is.length : Int) := by omega
                  go_wp2
                  go_roundw
                  case rel => exact ⟨i + 1, by omega, by go_num, HB⟩
                  case measure => simp [intOf]; omega
            · have h1i : ¬ (i : Int) < (Is.length : Int) := by omega
              have HXF : Hid (Below W.heap.size W wr) := HX2.out.trans ((HBW.out _ HB.out).mono HX2.out.size)
              go_wp2_with fail
              refine (wakesF _).mono ?_
              rintro e w9 ⟨rfl, hb⟩
              go_wp2
              go_ret
              exact ⟨rfl, HXF.out.trans (hb.mono HXF.out.size)⟩
end Go.Proofs.Ytfiioobdknbacaa
