/- The walks of an index's place, Place. -/
import Derived.Test.YtjpcfpffbicpnaaFmR
set_option linter.unusedVariables false
set_option linter.unusedSimpArgs false
namespace Lec
theorem filter_at (f : Nat → Bool) {l : List Nat} {i c : Nat} (h : l[i]? = some c) (hf : f c = true) : (l.filter f)[((l.take i).filter f).length]? = some c := by
  have hi : i < l.length := (List.getElem?_eq_some_iff.1 h).1
  have hs : l.filter f = (l.take i).filter f ++ (l.drop i).filter f := by rw [← List.filter_append, List.take_append_drop]
  have hd : l.drop i = c :: l.drop (i + 1) := by
    rw [List.drop_eq_getElem_cons hi]
    have := (List.getElem?_eq_some_iff.1 h).2
    rw [this]
  rw [hs, List.getElem?_append_right (Nat.le_refl _), Nat.sub_self, hd, List.filter_cons, if_pos hf]
  rfl
end Lec
namespace Go.Proofs.Ytjpcfpffbicpnaa
open Go.RowKit Lec Lec.Fm
variable {w : World} {x k D lo : Nat} {s b : List Nat}
set_option maxRecDepth 100000 in
set_option maxHeartbeats 1000000 in
theorem place_any (hc : FmC k D s b) (h : FmN w x k D s b lo) (r0 v0 : Nat) (hr0 : (R s b)[r0]? = some v0) :
    Calls Try.prog 55 #[.pointer (some ⟨x, 0, none⟩), .int .i64 (r0 : Int)] w fun e w' => e = .returned (.int .i64 (v0 : Int)) ∧ Below w.heap.size w w' := by
  have hlen := hc.len
  have hv0 : v0 ≤ s.length := (Sa.rowsL_mem hc.sa _).1 (List.mem_iff_getElem?.2 ⟨r0, hr0⟩)
  have HC := Lib.hid hc
  have hkl : (keptL s b).length = s.length + 1 := by unfold keptL; rw [List.length_map, Sa.rowsL_len hc.sa]
  obtain ⟨p, kp, A, cc, B, c', X, h0, h1, h2, h3, h4, h5, h6, h7, h8, h9, _⟩ := h.out
  have HBK : Hid (∀ w', Ext w w' → ∀ r v, (R s b)[r]? = some (v + 1) → _) := Lib.hid fun w' hw r v hr => back_any hc (h.ext hw.below (Nat.le_refl _)) r v hr
  have HGT : Hid (∀ w', Ext w w' → ∀ r v : Nat, (R s b)[r]? = some v → Calls Try.prog 80 #[.pointer (some ⟨kp, 0, none⟩), .int .i64 (r : Int)] w' fun e w'' => e = .returned (.tuple #[.bool (v % 8 == 0), .int .i64 0]) ∧ w' = w'') := Lib.hid fun w' hw r v hr => by
    have he : (keptL s b)[r]? = some (v % 8 == 0) := by unfold keptL; rw [List.getElem?_map, hr]; rfl
    obtain ⟨hl, hv⟩ := List.getElem?_eq_some_iff.1 he
    have := Get_in w' kp (keptL s b) (h6.ext hw.below (Nat.le_refl _)).vec (by omega) r hl
    rwa [hv] at this
  have HRK : Hid (∀ w', Ext w w' → ∀ r v : Nat, (R s b)[r]? = some v → _) := Lib.hid fun w' hw r v hr => Rank_in w' kp (keptL s b) (h6.ext hw.below (Nat.le_refl _)).vec (by omega) r (by have := (List.getElem?_eq_some_iff.1 hr).1; rw [Sa.rowsL_len hc.sa] at this; omega)
  have HPL : Hid (∀ w', Ext w w' → ∀ r v : Nat, (R s b)[r]? = some v → v % 8 = 0 → rankB (keptL s b) r < (plL s b).length ∧ ∃ a, A = some a ∧ w'.cell? (a.add (rankB (keptL s b) r)) = some (.int .i64 (v : Int))) := Lib.hid fun w' hw r v hr hv => by
    have hpl : (plL s b)[rankB (keptL s b) r]? = some v := by
      unfold keptL
      rw [rank_ones]
      exact filter_at (fun v => v % 8 == 0) hr (by simpa using hv)
    exact ⟨(List.getElem?_eq_some_iff.1 hpl).1, (hw.rds h7) _ _ (natsC_at hpl)⟩
  have HPLL : Hid ((plL s b).length ≤ 1000000) := Lib.hid (by
    have := List.length_filter_le (fun v => v % 8 == 0) (R s b)
    rw [Sa.rowsL_len hc.sa] at this
    unfold plL
    omega)
  have HQ : Hid (∀ w', Ext w w' → w'.cell? ⟨x, 0, none⟩ = some (.pointer (some ⟨p, 0, none⟩)) ∧ w'.cell? ⟨x, 1, none⟩ = some (.pointer (some ⟨kp, 0, none⟩)) ∧ w'.cell? ⟨x, 2, none⟩ = some (.slice A (plL s b).length cc)) := Lib.hid fun w' hw => ⟨hw.cell h0, hw.cell h1, hw.cell h2⟩
  have HR0 := Lib.hid hr0
  clear h h0 h1 h2 h3 h4 h5 h6 h7 h8 h9 hr0 hkl
  go_enter Try.func55, Try.ntmps55
  go_wp2
  go_loopw [1, 5] (fun r st wx => ∃ r' v st' : Nat, r = .int .i64 (r' : Int) ∧ st = .int .i64 (st' : Int) ∧ v + st' = v0 ∧ Hid ((R s b)[r']? = some v) ∧ Hid (Ext w wx)) (fun _ st _ => v0 - (intOf st).toNat)
  case atStart => exact ⟨r0, v0, 0, rfl, rfl, by omega, HR0, Lib.hid (Ext.refl _)⟩
  case round =>
    obtain ⟨r, v, st, rfl, rfl, hvs, HRV, HX⟩ := hrel
    have HG := Lib.hid (HGT.out _ HX.out r v HRV.out)
    have c0 := (HQ.out _ HX.out).1
    have c1 := (HQ.out _ HX.out).2.1
    have c2 := (HQ.out _ HX.out).2.2
    by_cases hv8 : v % 8 = 0
    · have hb : (v % 8 == 0) = true := by simpa using hv8
      rw [hb] at HG
      obtain ⟨hrk, a, rfl, ca⟩ := HPL.out _ HX.out r v HRV.out hv8
      have HK := Lib.hid (HRK.out _ HX.out r v HRV.out)
      have HPC : Hid (∀ w', Ext w w' → w'.cell? (a.add (rankB (keptL s b) r)) = some (.int .i64 (v : Int))) := Lib.hid fun w' hw => by
        obtain ⟨_, a2, e2, h2⟩ := HPL.out w' hw r v HRV.out hv8
        obtain rfl := Option.some.inj e2
        exact h2
      have hpll := HPLL.out
      generalize rankB (keptL s b) r = q at *
      have hrki : (q : Int) < ((plL s b).length : Int) := by omega
      clear hb hv8 ca
      go_wp2_with fail
      refine HG.out.mono ?_
      rintro e w1 ⟨rfl, rfl⟩
      go_wp2_with fail
      refine HK.out.mono ?_
      rintro e w1 ⟨rfl, qq, rfl⟩
      have HX1 : Hid (Ext w (wr.drewN qq)) := Lib.hid (HX.out.trans (drawn_below wr qq))
      clear c0 c1 c2
      have c0 := (HQ.out _ HX1.out).1
      have c1 := (HQ.out _ HX1.out).2.1
      have c2 := (HQ.out _ HX1.out).2.2
      have ca := HPC.out _ HX1.out
      go_wp2
      go_ret
      exact ⟨by rw [← hvs]; go_num, HX1.out⟩
    · have hb : (v % 8 == 0) = false := by simpa using hv8
      rw [hb] at HG
      obtain ⟨v, rfl⟩ : ∃ z, v = z + 1 := ⟨v - 1, by omega⟩
      have HB := Lib.hid (HBK.out _ HX.out r v HRV.out)
      have HRN := Lib.hid (F_row HC.out.sa HRV.out)
      clear hb hv8
      go_wp2_with fail
      refine HG.out.mono ?_
      rintro e w1 ⟨rfl, rfl⟩
      go_wp2_with fail
      refine HB.out.mono ?_
      rintro e w1 ⟨rfl, hb1⟩
      have HX1 : Hid (Ext w w1) := Lib.hid (HX.out.trans hb1)
      clear hb1 c0 c1 c2
      go_wp2
      go_roundw
      case rel => exact ⟨_, v, st + 1, rfl, by go_num, by omega, HRN, HX1⟩
      case measure => first | (simp [intOf]; done) | (simp [intOf]; omega)
end Go.Proofs.Ytjpcfpffbicpnaa
