/- The walk of an index's Text. -/
import Derived.Test.YtjpcfpffbicpnaaFmP
import Derived.Test.YtjpcfpffbicpnaaFmB
import Derived.Test.YtjpcfpffbicpnaaPackBas
import Derived.Test.YtjpcfpffbicpnaaFmF
import Derived.Test.YtjpcfpffbicpnaaRefF
import Derived.Test.YtjpcfpffbicpnaaHelpEN
set_option linter.unusedVariables false
set_option linter.unusedSimpArgs false
namespace Lec.Fm
open Lec.Sa
theorem row_end {s b : List Nat} : (R s b)[0]? = some s.length := rfl
theorem text_at {s : List Nat} {f n j : Nat} (h : j < n) (hn : f + n ≤ s.length) : ((s.drop f).take n)[j]? = some (sy s (f + j)) := by
  rw [List.getElem?_take, if_pos h, List.getElem?_drop, List.getElem?_eq_getElem (by omega)]
  simp [sy, List.getD_eq_getElem?_getD, show f + j < s.length by omega]
end Lec.Fm
namespace Go.Proofs.Ytjpcfpffbicpnaa
open Go.RowKit Lec Lec.Fm
variable {w : World} {x k D lo : Nat} {s b : List Nat}
theorem Text_out (hc : FmC k D s b) (h : FmN w x k D s b lo) (f n : Int) (hbd : -9223372036854775808 ≤ f ∧ f ≤ 9223372036854775807) (hi : f < 0 ∨ n < 0 ∨ (s.length : Int) - f < n) :
    Calls Try.prog 29 #[.pointer (some ⟨x, 0, none⟩), .int .i64 f, .int .i64 n] w fun e w' => e = .returned (.tuple #[.slice none 0 0, .int .i64 3]) ∧ w = w' := by
  have hlen := hc.len
  obtain ⟨p, kp, A, cc, B, c', X, h0, h1, h2, h3, h4, h5, _⟩ := h.out
  have HLN : Hid (Calls Try.prog 31 #[.pointer (some ⟨p, 0, none⟩)] w fun e w' => e = .returned (.int .i64 (s.length : Int)) ∧ w = w') := Lib.hid (by have := tLen_any h5; rwa [hc.llen] at this)
  clear h h1 h2 h3 h4 h5
  by_cases h6 : f < 0
  · clear hi
    go_enter Try.func29, Try.ntmps29
    go_wp2_with (go_at_call 31; refine HLN.out.mono ?_; rintro e w1 ⟨rfl, rfl⟩)
    go_ret2
    exact ⟨rfl, rfl⟩
  · by_cases h7 : n < 0
    · clear hi
      go_enter Try.func29, Try.ntmps29
      go_wp2_with (go_at_call 31; refine HLN.out.mono ?_; rintro e w1 ⟨rfl, rfl⟩)
      go_ret2
      exact ⟨rfl, rfl⟩
    · have h8 : (s.length : Int) - f < n := by omega
      clear hi
      go_enter Try.func29, Try.ntmps29
      go_wp2_with (go_at_call 31; refine HLN.out.mono ?_; rintro e w1 ⟨rfl, rfl⟩)
      go_ret2
      exact ⟨rfl, rfl⟩
def TextPost (w : World) (s : List Nat) (f n : Nat) (e : Ending) (w' : World) : Prop :=
  ∃ A c, e = .returned (.tuple #[.slice A n c, .int .i64 0]) ∧ Rds w' A (natsC ((s.drop f).take n)) ∧ Below w.heap.size w w'
set_option maxRecDepth 100000 in
set_option maxHeartbeats 2000000 in
theorem Text_in (hc : FmC k D s b) (h : FmN w x k D s b lo) (f n : Nat) (hfn : f + n ≤ s.length) :
    Calls Try.prog 29 #[.pointer (some ⟨x, 0, none⟩), .int .i64 (f : Int), .int .i64 (n : Int)] w (TextPost w s f n) := by
  have hlen := hc.len
  have HC := Lib.hid hc
  obtain ⟨p, kp, A, cc, B, c', X, h0, h1, h2, h3, h4, h5, h6, h7, h8, h9, _⟩ := h.out
  have HLN : Hid (∀ w', Ext w w' → Calls Try.prog 31 #[.pointer (some ⟨p, 0, none⟩)] w' fun e w'' => e = .returned (.int .i64 (s.length : Int)) ∧ w' = w'') := Lib.hid fun w' hw => by have := tLen_any (h5.ext hw.below (Nat.le_refl _)); rwa [hc.llen] at this
  have HBK : Hid (∀ w', Ext w w' → ∀ r v : Nat, (R s b)[r]? = some (v + 1) → _) := Lib.hid fun w' hw r v hr => back_any hc (h.ext hw.below (Nat.le_refl _)) r v hr
  have HQ : Hid (∀ w', Ext w w' → w'.cell? ⟨x, 0, none⟩ = some (.pointer (some ⟨p, 0, none⟩)) ∧ w'.cell? ⟨x, 3, none⟩ = some (.slice B (s.length / 8 + 2) c')) := Lib.hid fun w' hw => ⟨hw.cell h0, hw.cell h3⟩
  have HRB : Hid (∀ w', Ext w w' → Rds w' B (natsC X)) := Lib.hid fun w' hw => hw.rds h8
  have HOK := Lib.hid h9
  obtain ⟨m, hm⟩ : ∃ m, m = min ((f + n + 7) / 8 * 8) s.length := ⟨_, rfl⟩
  have hmn : f + n ≤ m := by omega
  have hms : m ≤ s.length := by omega
  have HM8 : Hid (¬ m % 8 = 0 → m = s.length) := by show _; intro h; omega
  have hmi : min (((f : Int) + (n : Int) + 8 - 1) / 8 * 8) (s.length : Int) = (m : Int) := by omega
  obtain ⟨N, HN⟩ : ∃ N, Hid (N = s.length / 8 + 2) := ⟨_, Lib.hid rfl⟩
  rw [← HN.out] at HQ
  have hXN : X[N - 1]? = some 0 := by have := h9.2.2; rw [HN.out]; exact this
  obtain ⟨aB, rfl, _⟩ := (HRB.out w (Ext.refl w)) (N - 1) _ (natsC_at hXN)
  have HCE : Hid (∀ w', Ext w w' → ∀ i v : Nat, X[i]? = some v → w'.cell? (aB.add i) = some (.int .i64 (v : Int))) := Lib.hid fun w' hw i v hv => by
    obtain ⟨a2, e2, c2⟩ := HRB.out w' hw i _ (natsC_at hv)
    obtain rfl := Option.some.inj e2
    exact c2
  have HXN := Lib.hid hXN
  have hmk := mk_ints n (by omega)
  clear h h0 h1 h2 h3 h4 h5 h6 h7 h8 h9 hc hm
  have g1 : ¬ (f : Int) < 0 := by omega
  have g2 : ¬ (n : Int) < 0 := by omega
  have g3 : ¬ (s.length : Int) - (f : Int) < (n : Int) := by omega
  have c0 := (HQ.out _ (Ext.refl w)).1
  go_enter Try.func29, Try.ntmps29
  go_upto_region 4 with (go_at_call 31; refine (HLN.out _ (Ext.refl w)).mono ?_; rintro e w1 ⟨rfl, rfl⟩)
  clear c0 hmi g1 g2 g3 hXN
  have hN2 : 2 ≤ N := by rw [HN.out]; omega
  have hN3 : N ≤ 1000000 := by rw [HN.out]; omega
  have e1 : IntKind.i64.wrap ((N : Int) - 1) = (N : Int) - 1 := wrapI (by omega)
  have e2 : (0 : Int) ≤ (N : Int) - 1 := by omega
  have e3 : (N : Int) - 1 < (N : Int) := by omega
  have e4 : ((N : Int) - 1).toNat = N - 1 := by omega
  have c3 := (HQ.out _ (Ext.refl w)).2
  have cz := HCE.out _ (Ext.refl w) (N - 1) 0 HXN.out
  go_quiet (fail)
  have HXQ : Hid (Ext w (w.drewN nq)) := Lib.hid (drawn_below w nq)
  clear c3 cz e1 e2 e3 e4
  obtain ⟨r, hr, hrow⟩ : ∃ r : Nat, (R s b)[r]? = some m ∧ ((m % 8 = 0 → X[m / 8]? = some r) ∧ (¬ m % 8 = 0 → r = 0)) := by
    by_cases h8 : m % 8 = 0
    · obtain ⟨r, hr⟩ := List.mem_iff_getElem?.1 ((Sa.rowsL_mem HC.out.sa m).2 hms)
      exact ⟨r, hr, fun _ => HOK.out.2.1 r m hr h8, fun h => absurd h8 h⟩
    · exact ⟨0, by rw [HM8.out h8]; rfl, fun h => absurd h h8, fun _ => rfl⟩
  have HRW := Lib.hid hr
  have c3 := (HQ.out _ HXQ.out).2
  by_cases h8 : m % 8 = 0
  · have h8i : ((m : Int) % 8 == 0) = true := by rw [beq_iff_eq]; omega
    have hXm := hrow.1 h8
    have cm := HCE.out _ HXQ.out (m / 8) r hXm
    have hmN : (m : Int) / 8 < (N : Int) := by have := HN.out; omega
    have hmT : ((m : Int) / 8).toNat = m / 8 := by omega
    clear h8 hrow hXm hr
    go_upto_region 7 with (fail)
    clear cm h8i hmN hmT
    go_upto_region 8 with (fail)
    obtain ⟨w3, hw3⟩ : ∃ w3, w3 = (w.drewN nq).alloc (.cells (Array.replicate n (.int .i64 0)) 3) := ⟨_, rfl⟩
    rw [← hw3]
    have HX3 : Hid (Ext w w3) := by rw [hw3]; exact Ext.trans HXQ.out ((Below.refl _ _).alloc (Nat.le_refl _) _)
    have HBG : Hid (Blk w3 (w.drewN nq).heap.size 3 (natsC (List.replicate n 0))) := by
      rw [hw3]; exact Blk.newL _ _ _ _ _ rfl (by simp [natsC])
    have HGW : Hid (w.heap.size ≤ (w.drewN nq).heap.size) := Lib.hid HXQ.out.below.size
    obtain ⟨g, hg⟩ : ∃ g, g = (w.drewN nq).heap.size := ⟨_, rfl⟩
    rw [show (w.drewN nq).heap.size = w.heap.size from rfl] at hg HBG HGW
    rw [← hg] at HBG ⊢
    rw [← hg] at HGW
    have HGG : Hid (w.heap.size ≤ g) := Lib.hid (by omega)
    clear hw3 hmk hg HGW c3
    go_wp2
    go_loopw [8, 9] (fun at_ row wx => ∃ (a r' : Nat) (Y : List Nat), f ≤ a ∧ a ≤ m ∧ at_ = .int .i64 ((a : Int) - 1) ∧ row = .int .i64 (r' : Int) ∧ Hid ((R s b)[r']? = some a) ∧ Hid (Y.length = n) ∧ Hid (∀ j, j < n → a ≤ f + j → Y[j]? = some (Sa.sy s (f + j))) ∧ Hid (Blk wx g 3 (natsC Y)) ∧ Hid (Ext w wx)) (fun at_ _ _ => (intOf at_ + 1).toNat)
    case atStart => exact ⟨m, r, _, by omega, by omega, by go_num, rfl, HRW, Lib.hid (by simp), Lib.hid (fun j hj h => by omega), HBG, HX3⟩
    case round =>
      obtain ⟨a, r', Y, hfa, ham, rfl, rfl, HRA, HYL, HYS, HY, HX⟩ := hrel
      by_cases h8 : f < a
      · obtain ⟨a, rfl⟩ : ∃ z, a = z + 1 := ⟨a - 1, by omega⟩
        have haa : ((a + 1 : Nat) : Int) - 1 = (a : Int) := by omega
        rw [haa]
        have h8i : (f : Int) ≤ (a : Int) := by omega
        have HB := Lib.hid (HBK.out _ HX.out r' a HRA.out)
        have HRN := Lib.hid (F_row HC.out.sa HRA.out)
        have hsy : Sa.sy s a ≤ 1000000 := by have := HC.out.sym _ (sy_mem (show a < s.length by omega)); have := HC.out.k5; omega
        obtain ⟨z, hz⟩ : ∃ z, z = Sa.sy s a := ⟨_, rfl⟩
        have HZ := Lib.hid hz
        rw [← hz] at HB HRN hsy
        clear hz
        go_wp2_with fail
        refine HB.out.mono ?_
        rintro e w4 ⟨rfl, hb4⟩
        have HX4 : Hid (Ext w w4) := Lib.hid (HX.out.trans hb4)
        have HY4 := Lib.hid (HY.out.ext hb4 (Nat.le_refl _))
        clear hb4
        by_cases h9 : a < f + n
        · have h9i : (a : Int) < (f : Int) + (n : Int) := by omega
          have hij : a - f < n := by omega
          have hiji : (a : Int) - (f : Int) < (n : Int) := by omega
          have hij0 : (0 : Int) ≤ (a : Int) - (f : Int) := by omega
          have hijt : ((a : Int) - (f : Int)).toNat = a - f := by omega
          obtain ⟨y, hy⟩ : ∃ y, Y[a - f]? = some y := ⟨_, List.getElem?_eq_getElem (by rw [HYL.out]; exact hij)⟩
          have cg := HY4.out.cell (natsC_at hy)
          have fg := HY4.out.froz (a - f)
          have hY5 := HY4.out.set (a - f) (.int .i64 (z : Int))
          rw [← natsC_set] at hY5
          have HY5 := Lib.hid hY5
          have HX5 : Hid (Ext w (w4.setCell ⟨g, a - f, none⟩ (.int .i64 (z : Int)))) := Lib.hid (HX4.out.setCell HGG.out _)
          have HYL5 : Hid ((Y.set (a - f) z).length = n) := Lib.hid (by rw [List.length_set]; exact HYL.out)
          have HYS5 : Hid (∀ j, j < n → a ≤ f + j → (Y.set (a - f) z)[j]? = some (Sa.sy s (f + j))) := Lib.hid fun j hj h => by
            rw [List.getElem?_set]
            by_cases e : a - f = j
            · rw [if_pos e, if_pos (by rw [HYL.out]; omega), HZ.out, show f + j = a by omega]
            · rw [if_neg e]; exact HYS.out j hj (by omega)
          clear hy hY5
          go_wp2
          go_roundw
          case rel => exact ⟨a, _, _, by omega, by omega, by go_num, rfl, HRN, HYL5, HYS5, HY5, HX5⟩
          case measure => first | (simp [intOf]; done) | (simp [intOf]; omega)
        · have h9i : ¬ (a : Int) < (f : Int) + (n : Int) := by omega
          have HYS5 : Hid (∀ j, j < n → a ≤ f + j → Y[j]? = some (Sa.sy s (f + j))) := Lib.hid fun j hj h => HYS.out j hj (by omega)
          go_wp2
          go_roundw
          case rel => exact ⟨a, _, _, by omega, by omega, by go_num, rfl, HRN, HYL, HYS5, HY4, HX4⟩
          case measure => first | (simp [intOf]; done) | (simp [intOf]; omega)
      · obtain rfl : a = f := by omega
        have h8i : ¬ (a : Int) ≤ (a : Int) - 1 := by omega
        have HYE : Hid (Y = (s.drop a).take n) := Lib.hid (List.ext_getElem? (fun j => by
          by_cases hj : j < n
          · rw [HYS.out j hj (by omega), text_at hj hfn]
          · rw [List.getElem?_eq_none (by rw [HYL.out]; omega), List.getElem?_eq_none (by rw [List.length_take]; omega)]))
        go_wp2
        go_ret2
        exact ⟨_, _, rfl, by rw [← HYE.out]; exact HY.out.rds, HX.out⟩
  · have h8i : ((m : Int) % 8 == 0) = false := by rw [beq_eq_false_iff_ne]; omega
    obtain rfl := hrow.2 h8
    clear h8 hrow hr
    go_upto_region 7 with (fail)
    clear h8i
    go_upto_region 8 with (fail)
    obtain ⟨w3, hw3⟩ : ∃ w3, w3 = (w.drewN nq).alloc (.cells (Array.replicate n (.int .i64 0)) 3) := ⟨_, rfl⟩
    rw [← hw3]
    have HX3 : Hid (Ext w w3) := by rw [hw3]; exact Ext.trans HXQ.out ((Below.refl _ _).alloc (Nat.le_refl _) _)
    have HBG : Hid (Blk w3 (w.drewN nq).heap.size 3 (natsC (List.replicate n 0))) := by
      rw [hw3]; exact Blk.newL _ _ _ _ _ rfl (by simp [natsC])
    have HGW : Hid (w.heap.size ≤ (w.drewN nq).heap.size) := Lib.hid HXQ.out.below.size
    obtain ⟨g, hg⟩ : ∃ g, g = (w.drewN nq).heap.size := ⟨_, rfl⟩
    rw [show (w.drewN nq).heap.size = w.heap.size from rfl] at hg HBG HGW
    rw [← hg] at HBG ⊢
    rw [← hg] at HGW
    have HGG : Hid (w.heap.size ≤ g) := Lib.hid (by omega)
    clear hw3 hmk hg HGW c3
    go_wp2
    go_loopw [8, 9] (fun at_ row wx => ∃ (a r' : Nat) (Y : List Nat), f ≤ a ∧ a ≤ m ∧ at_ = .int .i64 ((a : Int) - 1) ∧ row = .int .i64 (r' : Int) ∧ Hid ((R s b)[r']? = some a) ∧ Hid (Y.length = n) ∧ Hid (∀ j, j < n → a ≤ f + j → Y[j]? = some (Sa.sy s (f + j))) ∧ Hid (Blk wx g 3 (natsC Y)) ∧ Hid (Ext w wx)) (fun at_ _ _ => (intOf at_ + 1).toNat)
    case atStart => exact ⟨m, 0, _, by omega, by omega, by go_num, rfl, HRW, Lib.hid (by simp), Lib.hid (fun j hj h => by omega), HBG, HX3⟩
    case round =>
      obtain ⟨a, r', Y, hfa, ham, rfl, rfl, HRA, HYL, HYS, HY, HX⟩ := hrel
      by_cases h8 : f < a
      · obtain ⟨a, rfl⟩ : ∃ z, a = z + 1 := ⟨a - 1, by omega⟩
        have haa : ((a + 1 : Nat) : Int) - 1 = (a : Int) := by omega
        rw [haa]
        have h8i : (f : Int) ≤ (a : Int) := by omega
        have HB := Lib.hid (HBK.out _ HX.out r' a HRA.out)
        have HRN := Lib.hid (F_row HC.out.sa HRA.out)
        have hsy : Sa.sy s a ≤ 1000000 := by have := HC.out.sym _ (sy_mem (show a < s.length by omega)); have := HC.out.k5; omega
        obtain ⟨z, hz⟩ : ∃ z, z = Sa.sy s a := ⟨_, rfl⟩
        have HZ := Lib.hid hz
        rw [← hz] at HB HRN hsy
        clear hz
        go_wp2_with fail
        refine HB.out.mono ?_
        rintro e w4 ⟨rfl, hb4⟩
        have HX4 : Hid (Ext w w4) := Lib.hid (HX.out.trans hb4)
        have HY4 := Lib.hid (HY.out.ext hb4 (Nat.le_refl _))
        clear hb4
        by_cases h9 : a < f + n
        · have h9i : (a : Int) < (f : Int) + (n : Int) := by omega
          have hij : a - f < n := by omega
          have hiji : (a : Int) - (f : Int) < (n : Int) := by omega
          have hij0 : (0 : Int) ≤ (a : Int) - (f : Int) := by omega
          have hijt : ((a : Int) - (f : Int)).toNat = a - f := by omega
          obtain ⟨y, hy⟩ : ∃ y, Y[a - f]? = some y := ⟨_, List.getElem?_eq_getElem (by rw [HYL.out]; exact hij)⟩
          have cg := HY4.out.cell (natsC_at hy)
          have fg := HY4.out.froz (a - f)
          have hY5 := HY4.out.set (a - f) (.int .i64 (z : Int))
          rw [← natsC_set] at hY5
          have HY5 := Lib.hid hY5
          have HX5 : Hid (Ext w (w4.setCell ⟨g, a - f, none⟩ (.int .i64 (z : Int)))) := Lib.hid (HX4.out.setCell HGG.out _)
          have HYL5 : Hid ((Y.set (a - f) z).length = n) := Lib.hid (by rw [List.length_set]; exact HYL.out)
          have HYS5 : Hid (∀ j, j < n → a ≤ f + j → (Y.set (a - f) z)[j]? = some (Sa.sy s (f + j))) := Lib.hid fun j hj h => by
            rw [List.getElem?_set]
            by_cases e : a - f = j
            · rw [if_pos e, if_pos (by rw [HYL.out]; omega), HZ.out, show f + j = a by omega]
            · rw [if_neg e]; exact HYS.out j hj (by omega)
          clear hy hY5
          go_wp2
          go_roundw
          case rel => exact ⟨a, _, _, by omega, by omega, by go_num, rfl, HRN, HYL5, HYS5, HY5, HX5⟩
          case measure => first | (simp [intOf]; done) | (simp [intOf]; omega)
        · have h9i : ¬ (a : Int) < (f : Int) + (n : Int) := by omega
          have HYS5 : Hid (∀ j, j < n → a ≤ f + j → Y[j]? = some (Sa.sy s (f + j))) := Lib.hid fun j hj h => HYS.out j hj (by omega)
          go_wp2
          go_roundw
          case rel => exact ⟨a, _, _, by omega, by omega, by go_num, rfl, HRN, HYL, HYS5, HY4, HX4⟩
          case measure => first | (simp [intOf]; done) | (simp [intOf]; omega)
      · obtain rfl : a = f := by omega
        have h8i : ¬ (a : Int) ≤ (a : Int) - 1 := by omega
        have HYE : Hid (Y = (s.drop a).take n) := Lib.hid (List.ext_getElem? (fun j => by
          by_cases hj : j < n
          · rw [HYS.out j hj (by omega), text_at hj hfn]
          · rw [List.getElem?_eq_none (by rw [HYL.out]; omega), List.getElem?_eq_none (by rw [List.length_take]; omega)]))
        go_wp2
        go_ret2
        exact ⟨_, _, rfl, by rw [← HYE.out]; exact HY.out.rds, HX.out⟩
end Go.Proofs.Ytjpcfpffbicpnaa
