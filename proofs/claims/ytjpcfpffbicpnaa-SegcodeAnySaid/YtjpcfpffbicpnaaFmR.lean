/- The walks of an index's Rows, Hits, place, Place. -/
import Derived.Test.YtjpcfpffbicpnaaFmW
set_option linter.unusedVariables false
set_option linter.unusedSimpArgs false
namespace Lec
open Go Go.RowKit
namespace Fm
open Lec.Sa
/-- What Rows answers: two rows, what is wrong. -/
def okPat (k : Nat) (p : List Int) : Prop := ∀ y ∈ p, 0 ≤ y ∧ y < (k : Int)
def patB (k : Nat) (p : List Int) : Bool := p.all fun y => decide (0 ≤ y ∧ y < (k : Int))
theorem patB_iff (k : Nat) (p : List Int) : patB k p = true ↔ okPat k p := by unfold patB okPat; simp [List.all_eq_true]
def wrongE (k : Nat) (p : List Int) : Nat := if p.isEmpty then 5 else if patB k p then 0 else 1
def rowsE (k : Nat) (s b : List Nat) (p : List Int) : Nat × Nat := if wrongE k p = 0 then spanS s b (p.map Int.toNat) else (0, 0)
theorem span_le {s b p : List Nat} (h : IsSA s b) : (spanS s b p).1 ≤ (spanS s b p).2 ∧ (spanS s b p).2 ≤ s.length + 1 := by
  unfold spanS; split
  · have := upp_le h p; dsimp only; omega
  · dsimp only; omega
theorem rowsE_le {k : Nat} {s b : List Nat} {p : List Int} (h : IsSA s b) : (rowsE k s b p).1 ≤ (rowsE k s b p).2 ∧ (rowsE k s b p).2 ≤ s.length + 1 := by
  unfold rowsE; split
  · exact span_le h
  · dsimp only; omega
end Fm
end Lec
namespace Go.Proofs.Ytjpcfpffbicpnaa
open Go.RowKit Lec Lec.Fm
variable {w : World} {x k D lo : Nat} {s b : List Nat}
set_option maxRecDepth 100000 in
set_option maxHeartbeats 1000000 in
theorem Rows_any (hc : FmC k D s b) (h : FmN w x k D s b lo) (A : Option Addr) (c : Nat) (P : List Int) (hP : P.length ≤ 1000000) (hr : Rds w A (intsV P)) :
    Calls Try.prog 54 #[.pointer (some ⟨x, 0, none⟩), .slice A P.length c] w fun e w' => e = .returned (.tuple #[.int .i64 ((rowsE k s b P).1 : Int), .int .i64 ((rowsE k s b P).2 : Int), .int .i64 (wrongE k P : Int)]) ∧ Below w.heap.size w w' := by
  by_cases hemp : P.length = 0
  · have hPn : P = [] := List.length_eq_zero_iff.1 hemp
    subst hPn
    have HR1 : Hid (rowsE k s b [] = (0, 0)) := Lib.hid (by unfold rowsE wrongE; simp)
    clear h hr hemp
    go_enter Try.func54, Try.ntmps54
    go_wp2
    go_ret3
    exact ⟨by rw [HR1.out]; rfl, Below.refl _ _⟩
  have hlen := hc.len
  have HR := Lib.hid hr
  have HC := Lib.hid hc
  have HST : Hid (∀ w', Ext w w' → ∀ c r, c < k → r ≤ s.length + 1 → _) := Lib.hid fun w' hw c r hck hr => step_any hc (h.ext hw.below (Nat.le_refl _)) c r hck hr
  obtain ⟨p, kp, AA, cc, B, c', X, h0, h1, h2, h3, h4, h5, _⟩ := h.out
  have HKI := Lib.hid (tKinds_any h5 hc.k5)
  have HLN : Hid (Calls Try.prog 31 #[.pointer (some ⟨p, 0, none⟩)] w fun e w' => e = .returned (.int .i64 (s.length : Int)) ∧ w = w') := Lib.hid (by have := tLen_any h5; rwa [hc.llen] at this)
  have hle0 : ((P.length : Int) == 0) = false := by rw [beq_eq_false_iff_ne]; omega
  clear h h1 h2 h3 h4 h5 hr
  go_enter Try.func54, Try.ntmps54
  go_wp2
  go_loop [15] (fun i => ∃ j : Nat, j ≤ P.length ∧ i = .int .i64 (j : Int) ∧ Hid (∀ y ∈ P.take j, 0 ≤ y ∧ y < (k : Int))) (fun i => P.length - (intOf i).toNat)
  case atStart => exact ⟨0, by omega, rfl, Lib.hid (by simp)⟩
  case round =>
    obtain ⟨j, hj, rfl, HG⟩ := hrel
    by_cases h8 : j < P.length
    · have h8i : (j : Int) < (P.length : Int) := by omega
      obtain ⟨a, rfl, hca⟩ := HR.out.map j h8
      have HT : Hid (P.take (j + 1) = P.take j ++ [P[j]]) := List.take_succ_eq_append_getElem h8
      have HM : Hid (P[j] ∈ P) := Lib.hid (List.getElem_mem h8)
      generalize P[j] = y at *
      have HBAD : Hid (¬ (0 ≤ y ∧ y < (k : Int)) → wrongE k P = 1 ∧ rowsE k s b P = (0, 0)) := Lib.hid fun h => by
        have h2 : patB k P = false := by rw [Bool.eq_false_iff]; intro h2; exact h ((patB_iff k P).1 h2 y HM.out)
        have h3 : wrongE k P = 1 := by unfold wrongE; rw [if_neg (by rw [List.isEmpty_iff]; intro e; rw [e] at hemp; exact hemp rfl), h2]; rfl
        exact ⟨h3, by unfold rowsE; rw [h3]; rfl⟩
      by_cases h1 : y < 0
      · go_wp2_with (go_at_call 32; refine HKI.out.mono ?_; rintro e w1 ⟨rfl, rfl⟩)
        go_ret3
        exact ⟨by rw [(HBAD.out (by omega)).1, (HBAD.out (by omega)).2]; rfl, Below.refl _ _⟩
      · by_cases h2 : (k : Int) ≤ y
        · go_wp2_with (go_at_call 32; refine HKI.out.mono ?_; rintro e w1 ⟨rfl, rfl⟩)
          go_ret3
          exact ⟨by rw [(HBAD.out (by omega)).1, (HBAD.out (by omega)).2]; rfl, Below.refl _ _⟩
        · go_wp2_with (go_at_call 32; refine HKI.out.mono ?_; rintro e w1 ⟨rfl, rfl⟩)
          go_round
          case rel => exact ⟨j + 1, by omega, by go_num, Lib.hid (fun z hz => by
              rw [HT.out, List.mem_append] at hz
              rcases hz with hz | hz
              · exact HG.out z hz
              · simp at hz; subst hz; omega)⟩
          case measure => simp [intOf]; omega
    · obtain rfl : j = P.length := by omega
      have h8i : ¬ (P.length : Int) < (P.length : Int) := by omega
      have HOK : Hid (okPat k P) := Lib.hid (by have := HG.out; rwa [List.take_length] at this)
      have HWR : Hid (wrongE k P = 0) := Lib.hid (by
        unfold wrongE
        rw [if_neg (by rw [List.isEmpty_iff]; intro e; rw [e] at hemp; exact hemp rfl), (patB_iff k P).2 HOK.out]; rfl)
      obtain ⟨Q, HQ⟩ : ∃ Q, Hid (Q = P.map Int.toNat) := ⟨_, Lib.hid rfl⟩
      have HQL : Hid (Q.length = P.length) := Lib.hid (by rw [HQ.out, List.length_map])
      have HRE : Hid (rowsE k s b P = spanS s b Q) := Lib.hid (by unfold rowsE; rw [if_pos HWR.out, HQ.out])
      have HQK : Hid (∀ z ∈ Q, z < k) := Lib.hid (fun z hz => by
        rw [HQ.out] at hz
        obtain ⟨y, hy, rfl⟩ := List.mem_map.1 hz
        have := HOK.out y hy
        omega)
      have HPQ : Hid (intsV P = natsC Q) := Lib.hid (by
        rw [HQ.out, natsC_ints, List.map_map]
        congr 1
        refine ((List.map_congr_left (fun y hy => ?_)).trans (List.map_id _)).symm
        have := HOK.out y hy
        show ((y.toNat : Nat) : Int) = y
        omega)
      have HRQ : Hid (Rds w A (natsC Q)) := Lib.hid (by rw [← HPQ.out]; exact HR.out)
      have HUN : Hid (s.length + 1 = uppB s b []) := Lib.hid (upp_nil HC.out.sa).symm
      have HLN0 : Hid (0 = lowB s b []) := Lib.hid (low_nil s b).symm
      have hQ1 : Q.length ≤ 1000000 := by rw [HQL.out]; exact hP
      rw [← HQL.out]
      clear HG HR HPQ HQ HOK
      go_wp2_with (go_at_call 31; refine HLN.out.mono ?_; rintro e w1 ⟨rfl, rfl⟩)
      go_loopw [4, 5, 9] (fun fr tt i wx => ∃ j : Nat, j ≤ Q.length ∧ i = .int .i64 ((j : Int) - 1) ∧ fr = .int .i64 (lowB s b (Q.drop j) : Int) ∧ tt = .int .i64 (uppB s b (Q.drop j) : Int) ∧ Hid (Ext w wx)) (fun _ _ i _ => (intOf i + 1).toNat)
      case atStart => exact ⟨Q.length, by omega, rfl, by rw [List.drop_length, ← HLN0.out]; rfl, by rw [List.drop_length, ← HUN.out]; go_num, Lib.hid (Ext.refl _)⟩
      case round =>
        obtain ⟨j, hj, rfl, rfl, rfl, HX⟩ := hrel
        have hlo := low_le HC.out.sa (Q.drop j)
        have hup := upp_le HC.out.sa (Q.drop j)
        have HSP := Lib.hid (fun h => span_zero HC.out.sa (q := Q.drop j) h (Q.take j))
        rw [List.take_append_drop] at HSP
        by_cases hlt : lowB s b (Q.drop j) < uppB s b (Q.drop j)
        · cases j with
          | zero =>
            have HSE : Hid (spanS s b Q = (lowB s b (Q.drop 0), uppB s b (Q.drop 0))) := Lib.hid (by rw [List.drop_zero] at hlt ⊢; unfold spanS; rw [if_pos hlt])
            have h9 : ¬ (0 : Int) ≤ ((0 : Nat) : Int) - 1 := by omega
            generalize lowB s b (Q.drop 0) = f at *
            generalize uppB s b (Q.drop 0) = t at *
            have hfi : ¬ (t : Int) ≤ (f : Int) := by omega
            clear hlt
            go_wp2
            go_ret3
            exact ⟨by rw [HRE.out, HSE.out, HWR.out]; rfl, HX.out⟩
          | succ j =>
            have hdd : (((j + 1 : Nat) : Int) - 1) = (j : Int) := by omega
            rw [hdd]
            have hjl : j < Q.length := by omega
            have hjli : (j : Int) < (Q.length : Int) := by omega
            have h90 : (0 : Int) ≤ (j : Int) := by omega
            obtain ⟨aP, rfl, cP⟩ := (HX.out.rds HRQ.out) j _ (natsC_at (List.getElem?_eq_getElem hjl))
            have HDR : Hid (Q.drop j = Q[j] :: Q.drop (j + 1)) := Lib.hid (List.drop_eq_getElem_cons hjl)
            have hck := HQK.out _ (List.getElem_mem hjl)
            generalize Q[j] = z at *
            have HLO := Lib.hid (low_step HC.out.sa z (Q.drop (j + 1)))
            have HUP := Lib.hid (upp_step HC.out.sa z (Q.drop (j + 1)))
            rw [← HDR.out] at HLO HUP
            have HS1 : Hid (∀ w', Ext wr w' → _) := Lib.hid fun w' h => HST.out w' (HX.out.trans h) z _ hck hlo
            have HS2 : Hid (∀ w', Ext wr w' → _) := Lib.hid fun w' h => HST.out w' (HX.out.trans h) z _ hck hup
            have HQ1 : Hid (∀ w', Ext wr w' → w'.cell? (aP.add j) = some (.int .i64 (z : Int))) := Lib.hid fun w' h => h.cell cP
            have HX1 : Hid (∀ w', Ext wr w' → Ext w w') := Lib.hid fun w' h => HX.out.trans h
            generalize lowB s b (Q.drop (j + 1)) = f at *
            generalize uppB s b (Q.drop (j + 1)) = t at *
            have hfi : (f : Int) < (t : Int) := by omega
            rw [HLO.out] at HS1
            rw [HUP.out] at HS2
            clear cP hlt
            go_upto_region 13 with (fail)
            refine wp_region_cls (Ext wr) (by kernel_rfl) (by kernel_rfl) (Ext.drawn _) ?_
            repeat (go_big_quiet_step (first
              | (intro _; rfl)
              | (intro hC; rw [HQ1.out _ hC]; exact ⟨rfl, rfl⟩)
              | (intro hC; go_at_call 79; with_reducible exact Calls.cls hC (HS1.out _ hC))
              | (intro hC; go_at_call 79; with_reducible exact Calls.cls hC (HS2.out _ hC))))
            refine wpQuiet_nil ?_
            intro w3 hC3
            have HX3 : Hid (Ext w w3) := Lib.hid (HX1.out _ hC3)
            clear hC3
            go_wp2
            go_roundw
            case rel => exact ⟨j, by omega, by go_num, rfl, rfl, HX3⟩
            case measure => first | (simp [intOf]; done) | (simp [intOf]; omega)
        · have HSZ := Lib.hid (HSP.out hlt)
          generalize lowB s b (Q.drop j) = f at *
          generalize uppB s b (Q.drop j) = t at *
          have hfi : ¬ (f : Int) < (t : Int) := by omega
          have hfi2 : (t : Int) ≤ (f : Int) := by omega
          clear hlt HSP
          by_cases hj0 : (0 : Int) ≤ (j : Int) - 1
          · go_wp2
            go_ret3
            exact ⟨by rw [HRE.out, HSZ.out, HWR.out]; rfl, HX.out⟩
          · go_wp2
            go_ret3
            exact ⟨by rw [HRE.out, HSZ.out, HWR.out]; rfl, HX.out⟩
end Go.Proofs.Ytjpcfpffbicpnaa
