/- The walks of an index's ahead, step, back, Rows, Hits. -/
import Derived.Test.YtjpcfpffbicpnaaFmL
import Derived.Test.YtjpcfpffbicpnaaWavU
set_option linter.unusedVariables false
set_option linter.unusedSimpArgs false
namespace Lec
open Go Go.RowKit
namespace Fm
open Lec.Sa
structure FmC (k D : Nat) (s b : List Nat) : Prop where
  sa : IsSA s b
  d9 : D ≤ 9
  k5 : k ≤ 512
  kD : k ≤ 2 ^ D
  len : s.length ≤ 131072
  sym : ∀ x ∈ s, x < k
theorem sy_mem {s : List Nat} {i : Nat} (h : i < s.length) : sy s i ∈ s := by
  unfold sy; rw [List.getD_eq_getElem?_getD, List.getElem?_eq_getElem h]; exact List.getElem_mem h
theorem FmC.lsym {k D : Nat} {s b : List Nat} (h : FmC k D s b) : ∀ x ∈ L s b, x < k := fun x hx => by
  unfold L outL at hx
  obtain ⟨v, hv, rfl⟩ := List.mem_map.1 hx
  obtain ⟨hv, h0⟩ := List.mem_filter.1 hv
  have := (rowsL_mem h.sa v).1 hv
  have h0 : v ≠ 0 := by simpa using h0
  exact h.sym _ (sy_mem (by omega))
theorem FmC.llen {k D : Nat} {s b : List Nat} (h : FmC k D s b) : (L s b).length = s.length := outL_len h.sa
def keptL (s b : List Nat) : List Bool := (R s b).map (fun v => v % 8 == 0)
def plL (s b : List Nat) : List Nat := (R s b).filter (fun v => v % 8 == 0)
def rowsOk (s b X : List Nat) : Prop := X.length = s.length / 8 + 2 ∧ (∀ r v, (R s b)[r]? = some v → v % 8 = 0 → X[v / 8]? = some r) ∧ X[s.length / 8 + 1]? = some 0
end Fm
open Fm
/-- An index that is only read; its blocks lie from lo on. -/
structure FmN (w : World) (x k D : Nat) (s b : List Nat) (lo : Nat) : Prop where
  out : ∃ p kp A c B c' X, w.cell? ⟨x, 0, none⟩ = some (.pointer (some ⟨p, 0, none⟩)) ∧ w.cell? ⟨x, 1, none⟩ = some (.pointer (some ⟨kp, 0, none⟩)) ∧ w.cell? ⟨x, 2, none⟩ = some (.slice A (plL s b).length c) ∧
    w.cell? ⟨x, 3, none⟩ = some (.slice B (s.length / 8 + 2) c') ∧ w.cell? ⟨x, 4, none⟩ = some (.int .i64 (T s b : Int)) ∧ TreeN w p k D (L s b) lo ∧ VecN w kp (keptL s b) lo ∧ Rds w A (natsC (plL s b)) ∧ Rds w B (natsC X) ∧ rowsOk s b X ∧
    lo ≤ x ∧ (∀ a, A = some a → lo ≤ a.block) ∧ (∀ a, B = some a → lo ≤ a.block)
theorem FmN.ext {w w' : World} {x k D lo B : Nat} {s b : List Nat} (h : FmN w x k D s b lo) (hb : Below B w w') (hD : w.heap.size ≤ B) : FmN w' x k D s b lo := by
  obtain ⟨p, kp, A, c, B, c', X, h0, h1, h2, h3, h4, h5, h6, h7, h8, h9⟩ := h.out
  exact ⟨p, kp, A, c, B, c', X, cell_ext hb hD h0, cell_ext hb hD h1, cell_ext hb hD h2, cell_ext hb hD h3, cell_ext hb hD h4, h5.ext hb hD, h6.ext hb hD, h7.ext hb hD, h8.ext hb hD, h9⟩
theorem FmN.grown {w w' : World} {x k D lo : Nat} {s b : List Nat} {row : Option Nat} (h : FmN w x k D s b lo) (hg : w.grownBy w' row) (hr : ∀ k, row = some k → k < lo) : FmN w' x k D s b lo := by
  obtain ⟨p, kp, A, c, B, c', X, h0, h1, h2, h3, h4, h5, h6, h7, h8, h9, h10, h11, h12⟩ := h.out
  have hp : ∀ o, some (⟨x, o, none⟩ : Addr).block ≠ row := fun o e => by have : x < lo := hr _ e.symm; omega
  exact ⟨p, kp, A, c, B, c', X, hg.cell h0 (hp 0), hg.cell h1 (hp 1), hg.cell h2 (hp 2), hg.cell h3 (hp 3), hg.cell h4 (hp 4), h5.grown hg hr, h6.grown hg hr, rds_grown h7 hg (fun a ha e => by have := hr _ e.symm; have := h11 a ha; omega), rds_grown h8 hg (fun a ha e => by have := hr _ e.symm; have := h12 a ha; omega), h9, h10, h11, h12⟩
end Lec
namespace Go.Proofs.Ytjpcfpffbicpnaa
open Go.RowKit Lec Lec.Fm
variable {w : World} {x k D lo : Nat} {s b : List Nat}
theorem ahead_any (h : FmN w x k D s b lo) (r : Nat) (hr : r ≤ 1000000) : Calls Try.prog 78 #[.pointer (some ⟨x, 0, none⟩), .int .i64 (r : Int)] w fun e w' => e = .returned (.int .i64 (ah (T s b) r : Int)) ∧ w = w' := by
  obtain ⟨p, kp, A, c, B, c', X, h0, h1, h2, h3, h4, _⟩ := h.out
  have HE : Hid (ah (T s b) r = if T s b < r then r - 1 else r) := rfl
  generalize ah (T s b) r = y at *
  generalize T s b = t at *
  clear h h0 h1 h2 h3
  go_enter Try.func78, Try.ntmps78
  by_cases ht : t < r
  · have hti : (t : Int) < (r : Int) := by omega
    have HY : Hid (y = r - 1) := by show _ = _; rw [HE.out, if_pos ht]
    clear HE
    go_wp2
    go_ret
    exact ⟨by rw [HY.out]; go_num, rfl⟩
  · have hti : ¬ (t : Int) < (r : Int) := by omega
    have HY : Hid (y = r) := by show _ = _; rw [HE.out, if_neg ht]
    clear HE
    go_wp2
    go_ret
    exact ⟨by rw [HY.out]; rfl, rfl⟩
set_option maxRecDepth 100000 in
theorem step_any (hc : FmC k D s b) (h : FmN w x k D s b lo) (c r : Nat) (hck : c < k) (hr : r ≤ s.length + 1) : Calls Try.prog 79 #[.pointer (some ⟨x, 0, none⟩), .int .i64 (c : Int), .int .i64 (r : Int)] w fun e w' => e = .returned (.int .i64 (F s b c r : Int)) ∧ Below w.heap.size w w' := by
  have hlen := hc.len
  have hah := ah_le hr (T_le hc.sa)
  have HAH : Hid (∀ w', Ext w w' → Calls Try.prog 78 #[.pointer (some ⟨x, 0, none⟩), .int .i64 (r : Int)] w' fun e w'' => e = .returned (.int .i64 (ah (T s b) r : Int)) ∧ w' = w'') := Lib.hid fun w' hw => ahead_any (h.ext hw.below (Nat.le_refl _)) r (by omega)
  have HFE : Hid (F s b c r = 1 + Wv.less (L s b) c + Wv.eqs ((L s b).take (ah (T s b) r)) c) := rfl
  have hl1 := Wv.less_le (L s b) c
  have hl2 := Wv.eqs_le ((L s b).take (ah (T s b) r)) c
  rw [List.length_take] at hl2
  rw [hc.llen] at hl1 hl2
  obtain ⟨p, kp, A, cc, B, c', X, h0, h1, h2, h3, h4, h5, _⟩ := h.out
  have HLE := Lib.hid (tLess_in h5 hc.k5 c (by omega))
  have HRK : Hid (∀ w', Ext w w' → _) := Lib.hid fun w' hw => tRank_in (h5.ext (hw.below) (Nat.le_refl _)) hc.d9 hc.k5 hc.kD (by rw [hc.llen]; omega) hc.lsym c hck (ah (T s b) r) (by rw [hc.llen]; exact hah)
  have HQ : Hid (∀ w', Ext w w' → w'.cell? ⟨x, 0, none⟩ = some (.pointer (some ⟨p, 0, none⟩))) := Lib.hid fun w' hw => hw.cell h0
  generalize Wv.less (L s b) c = y at *
  generalize Wv.eqs ((L s b).take (ah (T s b) r)) c = z at *
  generalize ah (T s b) r = u at *
  generalize F s b c r = f at *
  clear h h1 h2 h3 h4 h5
  go_enter Try.func79, Try.ntmps79
  go_wp2_with fail
  refine HLE.out.mono ?_
  rintro e w1 ⟨rfl, rfl⟩
  go_upto_region 2 with (fail)
  refine wp_region_cls (Ext w) (by kernel_rfl) (by kernel_rfl) (Ext.drawn _) ?_
  repeat (go_big_quiet_step (first
    | (intro _; rfl)
    | (intro hC; rw [HQ.out _ hC]; exact ⟨rfl, rfl⟩)
    | (intro hC; go_at_call 78; with_reducible exact Calls.cls_same hC (HAH.out _ hC))
    | (intro hC; go_at_call 99; with_reducible exact Calls.cls hC (HRK.out _ hC))))
  refine wpQuiet_nil ?_
  intro w2 hC2
  have HX2 : Hid (Ext w w2) := Lib.hid hC2
  clear hC2 h0
  go_wp2
  go_ret
  exact ⟨by rw [HFE.out]; go_num, HX2.out⟩
set_option maxRecDepth 100000 in
theorem back_any (hc : FmC k D s b) (h : FmN w x k D s b lo) (r v : Nat) (hr : (R s b)[r]? = some (v + 1)) : Calls Try.prog 53 #[.pointer (some ⟨x, 0, none⟩), .int .i64 (r : Int)] w fun e w' => e = .returned (.tuple #[.int .i64 (Sa.sy s v : Int), .int .i64 (F s b (Sa.sy s v) r : Int)]) ∧ Below w.heap.size w w' := by
  have hrl : r < s.length + 1 := by have := (List.getElem?_eq_some_iff.1 hr).1; rwa [Sa.rowsL_len hc.sa] at this
  have hvl : v + 1 ≤ s.length := (Sa.rowsL_mem hc.sa _).1 (List.mem_iff_getElem?.2 ⟨r, hr⟩)
  have hlen := hc.len
  have hck := hc.sym _ (sy_mem (show v < s.length by omega))
  have HAH : Hid (∀ w', Ext w w' → Calls Try.prog 78 #[.pointer (some ⟨x, 0, none⟩), .int .i64 (r : Int)] w' fun e w'' => e = .returned (.int .i64 (ah (T s b) r : Int)) ∧ w' = w'') := Lib.hid fun w' hw => ahead_any (h.ext hw.below (Nat.le_refl _)) r (by omega)
  have HST : Hid (∀ w', Ext w w' → _) := Lib.hid fun w' hw => step_any hc (h.ext hw.below (Nat.le_refl _)) (Sa.sy s v) r hck (by omega)
  obtain ⟨p, kp, A, cc, B, c', X, h0, h1, h2, h3, h4, h5, _⟩ := h.out
  have HAC : Hid (∀ w', Ext w w' → _) := Lib.hid fun w' hw => tAccess_in (h5.ext (hw.below) (Nat.le_refl _)) hc.d9 hc.k5 hc.kD (by rw [hc.llen]; omega) hc.lsym (ah (T s b) r) (Sa.sy s v) (L_row hc.sa hr)
  have HQ : Hid (∀ w', Ext w w' → w'.cell? ⟨x, 0, none⟩ = some (.pointer (some ⟨p, 0, none⟩))) := Lib.hid fun w' hw => hw.cell h0
  generalize Sa.sy s v = c at *
  generalize ah (T s b) r = u at *
  generalize F s b c r = f at *
  clear h h1 h2 h3 h4 h5
  go_enter Try.func53, Try.ntmps53
  go_upto_region 1 with (fail)
  refine wp_region_cls (Ext w) (by kernel_rfl) (by kernel_rfl) (Ext.drawn _) ?_
  repeat (go_big_quiet_step (first
    | (intro _; rfl)
    | (intro hC; rw [HQ.out _ hC]; exact ⟨rfl, rfl⟩)
    | (intro hC; go_at_call 78; with_reducible exact Calls.cls_same hC (HAH.out _ hC))
    | (intro hC; go_at_call 77; with_reducible exact Calls.cls hC (HAC.out _ hC))))
  refine wpQuiet_nil ?_
  intro w2 hC2
  have HX2 : Hid (Ext w w2) := Lib.hid hC2
  clear hC2 h0
  go_wp2_with fail
  refine (HST.out _ HX2.out).mono ?_
  rintro e w3 ⟨rfl, hb⟩
  have HX3 : Hid (Ext w w3) := Lib.hid (HX2.out.trans hb)
  clear hb
  go_wp2
  go_ret2
  exact ⟨rfl, HX3.out⟩
end Go.Proofs.Ytjpcfpffbicpnaa
