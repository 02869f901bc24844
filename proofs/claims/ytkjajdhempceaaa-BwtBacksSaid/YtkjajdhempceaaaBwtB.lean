/- The walk of bwt.Back. -/
import Derived.Test.YtkjajdhempceaaaBwtF
set_option linter.unusedVariables false
set_option linter.unusedSimpArgs false
namespace Go.Proofs.Ytkjajdhempceaaa
open Go.RowKit Lec
theorem Check_any (w : World) (A : Option Addr) (n c : Nat) (L : List Int) (hn : L.length = n) (hm : n ≤ 1000000000) (hr : Rds w A (intsV L)) :
    Calls Try.prog 34 #[.slice A n c] w fun e w' => e = .returned (.int .i64 (checkE L)) ∧ w = w' := by
  have HC := Lib.hid (check_any w A n c L hn hm hr)
  clear hr hn
  generalize checkE L = E at *
  go_enter Try.func34, Try.ntmps34
  go_wp2_with fail
  refine HC.out.mono ?_
  rintro e w1 ⟨rfl, rfl⟩
  go_wp2
  go_ret
  exact ⟨rfl, rfl⟩

theorem Back_bad (w : World) (A : Option Addr) (n c : Nat) (L : List Int) (t : Int) (hn : L.length = n) (hm : n ≤ 131072) (hr : Rds w A (intsV L)) (hbad : mayS 512 L = false ∨ t < 0 ∨ (n : Int) < t) :
    Calls Try.prog 27 #[.int .i64 t, .slice A n c] w fun e w' => e = .returned (.tuple #[.slice none 0 0, .int .i64 1]) ∧ w = w' := by
  have HC := Lib.hid (Check_any w A n c L hn (by omega) hr)
  have hE : checkE L = 0 → mayS 512 L = true := fun h => by
    unfold checkE at h
    cases hs : mayS 512 L with
    | true => rfl
    | false => rw [hs] at h; simp at h
  clear hr
  generalize checkE L = E at *
  by_cases hE0 : E = 0
  · have hE0i : (E != 0) = false := by rw [hE0]; rfl
    have hms := hE hE0
    by_cases ht : t < 0
    · clear hbad hE hms hE0 hn
      go_enter Try.func27, Try.ntmps27
      go_wp2_with fail
      refine HC.out.mono ?_
      rintro e w1 ⟨rfl, rfl⟩
      go_wp2
      go_ret2
      exact ⟨rfl, rfl⟩
    · have ht2 : (n : Int) < t := by
        rcases hbad with h | h | h
        · rw [hms] at h; cases h
        · exact absurd h ht
        · exact h
      clear hbad hE hms hE0 hn
      go_enter Try.func27, Try.ntmps27
      go_wp2_with fail
      refine HC.out.mono ?_
      rintro e w1 ⟨rfl, rfl⟩
      go_wp2
      go_ret2
      exact ⟨rfl, rfl⟩
  · have hE0i : (E != 0) = true := by rw [bne_iff_ne]; exact hE0
    clear hbad hE hE0 hn
    go_enter Try.func27, Try.ntmps27
    go_wp2_with fail
    refine HC.out.mono ?_
    rintro e w1 ⟨rfl, rfl⟩
    go_wp2
    go_ret2
    exact ⟨rfl, rfl⟩

def BackPost (w : World) (s : List Nat) (t : Nat) (e : Ending) (w' : World) : Prop :=
  Below w.heap.size w w' ∧ ((Sa.OkW s t ∧ ∃ g, e = .returned (.tuple #[.slice (some ⟨g, 0, none⟩) s.length s.length, .int .i64 0]) ∧ w.heap.size ≤ g ∧ Blk w' g 3 (natsC (Sa.outW s t))) ∨
    (¬ Sa.OkW s t ∧ e = .returned (.tuple #[.slice none 0 0, .int .i64 1])))

set_option maxRecDepth 100000 in
set_option maxHeartbeats 4000000 in
theorem Back_any (w : World) (A : Option Addr) (c : Nat) (s : List Nat) (t : Nat) (hm : s.length ≤ 131072) (hr : Rds w A (natsC s)) (hs : ∀ x, x ∈ s → x < 512) (ht : t ≤ s.length) :
    Calls Try.prog 27 #[.int .i64 (t : Int), .slice A s.length c] w (BackPost w s t) := by
  have hch := Check_any w A s.length c (s.map fun v : Nat => (v : Int)) (by simp) (by omega) (by rw [← natsC_ints]; exact hr)
  have hce : checkE (s.map fun v : Nat => (v : Int)) = 0 := by unfold checkE; rw [if_pos (mayS_nat hs), if_pos (by simpa using hm)]
  rw [hce] at hch
  have HCH := Lib.hid hch
  have HF := Lib.hid (freshRows_any w t A c s hm hr hs)
  have hmk := mk_ints s.length (by omega)
  have ht0 : ¬ (t : Int) < 0 := by omega
  have ht1 : ¬ (s.length : Int) < (t : Int) := by omega
  clear hch hce hr hs
  go_enter Try.func27, Try.ntmps27
  go_wp2_with fail
  refine HCH.out.mono ?_
  rintro e w1 ⟨rfl, rfl⟩
  go_wp2_with fail
  refine HF.out.mono ?_
  rintro e w3 ⟨p, rfl, hp, hrows, hb3⟩
  have HRW := Lib.hid hrows
  have HB3 := Lib.hid hb3
  have hws := hb3.size
  clear hrows hb3 HF HCH
  go_wp2
  obtain ⟨w4, hw4⟩ : ∃ w4, w4 = w3.alloc (.cells (Array.replicate s.length (.int .i64 0)) 3) := ⟨_, rfl⟩
  have hb4 : Blk w4 w3.heap.size 3 (natsC (List.replicate s.length 0)) := by rw [hw4]; exact Blk.newL _ _ _ _ _ rfl (by simp [natsC])
  have hbe4 : Below w3.heap.size w3 w4 := by rw [hw4]; exact (Below.refl _ _).alloc (Nat.le_refl _) _
  rw [← hw4]
  clear hw4 hmk
  go_loopw [8, 9] (fun r i wx => ∃ (k : Nat) (X : List Nat), r = .int .i64 (Sa.wk s t k : Int) ∧ i = .int .i64 ((s.length : Int) - 1 - (k : Int)) ∧ k ≤ s.length ∧ Hid (X.length = s.length) ∧ Hid (∀ j, j < k → Sa.wk s t j ≠ t) ∧ Hid (Sa.wk s t k ≤ s.length) ∧ Hid (∀ j, j < k → X[s.length - 1 - j]? = some (Sa.sy s (Sa.dn t (Sa.wk s t j)))) ∧ Blk wx w3.heap.size 3 (natsC X) ∧ Below w3.heap.size w3 wx) (fun _ i _ => (intOf i + 1).toNat)
  case atStart => exact ⟨0, _, rfl, by simp, by omega, Lib.hid (by simp), Lib.hid (fun j hj => by omega), Lib.hid (Nat.zero_le _), Lib.hid (fun j hj => by omega), hb4, hbe4⟩
  case round =>
    clear hb4 hbe4
    obtain ⟨k, X, rfl, rfl, hk, HXL, HNE, HLE, HXV, hbx, hbe⟩ := hrel
    have hbw := HB3.out.trans (hbe.mono hws)
    by_cases h8 : k < s.length
    · have h8i : (0 : Int) ≤ (s.length : Int) - 1 - (k : Int) := by omega
      by_cases hrt : Sa.wk s t k = t
      · have hrti : ((Sa.wk s t k : Int) == (t : Int)) = true := by rw [beq_iff_eq]; omega
        have HNO : Hid (¬ Sa.OkW s t) := Lib.hid (fun h => h.1 k h8 hrt)
        clear hrt
        go_wp2
        go_ret2
        exact ⟨hbw, .inr ⟨HNO.out, rfl⟩⟩
      · have hrti : ((Sa.wk s t k : Int) == (t : Int)) = false := by rw [beq_eq_false_iff_ne]; omega
        have HST := Lib.hid (step_any wr p t c (Sa.wk s t k) A s (HRW.out.ext hbe (Nat.le_refl _)) hm ht HLE.out hrt)
        have HNX : Hid (Sa.wk s t (k + 1) = Sa.lf s (Sa.dn t (Sa.wk s t k))) := Lib.hid rfl
        have HLX : Hid (Sa.wk s t (k + 1) ≤ s.length) := Lib.hid (Sa.lf_top (Sa.dn_lt hrt HLE.out ht))
        have HRT := Lib.hid hrt
        have i1 : (s.length : Int) - 1 - (k : Int) < (s.length : Int) := by omega
        have i2 : ((s.length : Int) - 1 - (k : Int)).toNat = s.length - 1 - k := by omega
        obtain ⟨u, hu⟩ : ∃ u, X[s.length - 1 - k]? = some u := ⟨_, List.getElem?_eq_getElem (by rw [HXL.out]; omega)⟩
        have HBX := Lib.hid hbx
        rw [← HNX.out] at HST
        generalize hx1 : Sa.sy s (Sa.dn t (Sa.wk s t k)) = x1 at *
        generalize hx2 : Sa.wk s t (k + 1) = x2 at *
        have HXE := Lib.hid hx1
        have HXQ := Lib.hid hx2
        clear hrt hx1 hx2
        go_wp2_with fail
        refine HST.out.mono ?_
        rintro e w5 ⟨rfl, q, rfl⟩
        have cg := (HBX.out.drew q).cell (natsC_at hu)
        have fg := (HBX.out.drew q).froz (s.length - 1 - k)
        have hb6 := (HBX.out.drew q).set (s.length - 1 - k) (.int .i64 (x1 : Int))
        rw [← natsC_set] at hb6
        have HB6 := Lib.hid hb6
        clear hb6 hbx hu
        go_wp2
        go_roundw
        case rel =>
          refine ⟨k + 1, _, by rw [HXQ.out], congrArg (Value.int .i64) (by omega), by omega, Lib.hid (by rw [List.length_set]; exact HXL.out), Lib.hid (fun j hj => ?_), Lib.hid (by rw [HXQ.out]; exact HLX.out), Lib.hid (fun j hj => ?_), HB6.out, (hbe.trans ((drawn_below _ _).mono hbe.size)).setCell (Nat.le_refl _) _⟩
          · by_cases e : j = k
            · rw [e]; exact HRT.out
            · exact HNE.out j (by omega)
          · rw [List.getElem?_set]
            by_cases e : s.length - 1 - k = s.length - 1 - j
            · have : j = k := by omega
              subst this
              rw [if_pos rfl, if_pos (by rw [HXL.out]; omega), HXE.out]
            · rw [if_neg e]; exact HXV.out j (by omega)
        case measure => first | (simp [intOf]; done) | (simp [intOf]; omega)
    · obtain rfl : k = s.length := by omega
      have h8i : ¬ (0 : Int) ≤ (s.length : Int) - 1 - (s.length : Int) := by omega
      by_cases hrt : Sa.wk s t s.length = t
      · have hrti : ((Sa.wk s t s.length : Int) != (t : Int)) = false := by rw [hrt]; simp
        have HOK : Hid (Sa.OkW s t) := Lib.hid ⟨HNE.out, hrt⟩
        have hX : X = Sa.outW s t := List.ext_getElem? (fun j => by
          by_cases hj : j < s.length
          · have := HXV.out (s.length - 1 - j) (by omega)
            rw [show s.length - 1 - (s.length - 1 - j) = j by omega] at this
            rw [this]
            unfold Sa.outW
            rw [List.getElem?_map, List.getElem?_range hj]; rfl
          · rw [List.getElem?_eq_none (by rw [HXL.out]; omega), List.getElem?_eq_none (by rw [Sa.outW_len]; omega)])
        subst hX
        have HBX := Lib.hid hbx
        clear hrt hbx
        go_wp2
        go_ret2
        exact ⟨hbw, .inl ⟨HOK.out, w3.heap.size, rfl, hws, HBX.out⟩⟩
      · have hrti : ((Sa.wk s t s.length : Int) != (t : Int)) = true := by rw [bne_iff_ne]; omega
        have HNO : Hid (¬ Sa.OkW s t) := Lib.hid (fun h => hrt h.2)
        clear hrt
        go_wp2
        go_ret2
        exact ⟨hbw, .inr ⟨HNO.out, rfl⟩⟩
end Go.Proofs.Ytkjajdhempceaaa
