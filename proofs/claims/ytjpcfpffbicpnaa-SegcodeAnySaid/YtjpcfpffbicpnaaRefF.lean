/- The walks of the reference's Begins, Find, Span. -/
import Derived.Test.YtjpcfpffbicpnaaFmR
import Derived.Test.YtjpcfpffbicpnaaPackBwt
set_option linter.unusedVariables false
set_option linter.unusedSimpArgs false
namespace Lec.Fm
open Lec.Sa
theorem inP_iff (s q : List Nat) (v : Nat) : inP s q v = true ↔ ∀ i (h : i < q.length), s[v + i]? = some q[i] := by
  unfold inP
  rw [List.isPrefixOf_iff_prefix, List.prefix_iff_getElem?]
  constructor
  · intro h i hi; have := h i hi; rwa [List.getElem?_drop] at this
  · intro h i hi; rw [List.getElem?_drop]; exact h i hi
/-- What Span holds when i rows are gone through. -/
def spanI (s b q : List Nat) (i : Nat) : Nat × Nat := if lowB s b q < min i (uppB s b q) then (lowB s b q, min i (uppB s b q)) else (0, 0)
theorem spanI_zero (s b q : List Nat) : spanI s b q 0 = (0, 0) := by unfold spanI; rw [if_neg (by omega)]
theorem spanI_in {s b q : List Nat} {i : Nat} (h : lowB s b q ≤ i ∧ i < uppB s b q) : spanI s b q (i + 1) = (if (spanI s b q i).2 = 0 then i else (spanI s b q i).1, i + 1) := by
  unfold spanI
  rw [if_pos (by omega)]
  by_cases e : lowB s b q = i
  · have h2 : ¬ lowB s b q < min i (uppB s b q) := by omega
    rw [if_neg h2, if_pos rfl, show min (i + 1) (uppB s b q) = i + 1 by omega, e]
  · have h3 : lowB s b q < min i (uppB s b q) := by omega
    rw [if_pos h3]
    dsimp only
    rw [if_neg (by omega), show min (i + 1) (uppB s b q) = i + 1 by omega]
theorem spanI_out {s b q : List Nat} {i : Nat} (h : ¬ (lowB s b q ≤ i ∧ i < uppB s b q)) : spanI s b q (i + 1) = spanI s b q i := by
  unfold spanI
  by_cases e : lowB s b q < min i (uppB s b q)
  · rw [if_pos e, if_pos (by omega)]
    rw [show min (i + 1) (uppB s b q) = min i (uppB s b q) by omega]
  · rw [if_neg e, if_neg (by omega)]
theorem spanI_all {s b q : List Nat} (h : IsSA s b) : spanI s b q (s.length + 1) = spanS s b q := by
  unfold spanI spanS
  have := upp_le h q
  rw [show min (s.length + 1) (uppB s b q) = uppB s b q by omega]
theorem spanI_le {s b q : List Nat} {i : Nat} (hi : i ≤ 1000000) : (spanI s b q i).1 ≤ 1000000 ∧ (spanI s b q i).2 ≤ 1000000 := by
  unfold spanI; split <;> dsimp only <;> omega
end Lec.Fm
namespace Go.Proofs.Ytjpcfpffbicpnaa
open Go.RowKit Lec Lec.Fm
set_option maxRecDepth 100000 in
theorem begins_any (w : World) (A : Option Addr) (c : Nat) (s : List Nat) (hm : s.length ≤ 1000000) (hr : Rds w A (natsC s)) (B : Option Addr) (d : Nat) (q : List Nat) (hq : q.length ≤ 1000000) (hrq : Rds w B (natsC q)) (v : Nat) (hv : v ≤ s.length) :
    Calls Try.prog 57 #[.slice A s.length c, .int .i64 (v : Int), .slice B q.length d] w fun e w' => e = .returned (.bool (inP s q v)) ∧ ∃ n, w' = w.drewN n := by
  have HR := Lib.hid hr
  have HRQ := Lib.hid hrq
  clear hr hrq
  go_enter Try.func57, Try.ntmps57
  by_cases h1 : s.length - v < q.length
  · have h1i : (s.length : Int) - (v : Int) < (q.length : Int) := by omega
    have HE : Hid (inP s q v = false) := Lib.hid (by
      rw [Bool.eq_false_iff]; intro h
      unfold inP at h
      rw [List.isPrefixOf_iff_prefix] at h
      have := h.length_le
      rw [List.length_drop] at this
      omega)
    go_wp2
    go_ret
    exact ⟨by rw [HE.out]; rfl, 0, rfl⟩
  · have h1i : ¬ (s.length : Int) - (v : Int) < (q.length : Int) := by omega
    go_wp2
    go_loopw [7] (fun i wx => ∃ (j n : Nat), i = .int .i64 (j : Int) ∧ j ≤ q.length ∧ Hid (∀ i, i < j → ∀ h : i < q.length, s[v + i]? = some q[i]) ∧ wx = w.drewN n) (fun i _ => q.length - (intOf i).toNat)
    case atStart => exact ⟨0, 0, rfl, by omega, Lib.hid (fun i hi => by omega), rfl⟩
    case round =>
      obtain ⟨j, n, rfl, hj, HG, rfl⟩ := hrel
      by_cases h2 : j < q.length
      · have h2i : (j : Int) < (q.length : Int) := by omega
        have hvj : v + j < s.length := by omega
        have t1i : (v : Int) + (j : Int) < (s.length : Int) := by omega
        have v3 : IntKind.i64.wrap ((v : Int) + (j : Int)) = (v : Int) + (j : Int) := wrapI (by omega)
        have n1 : (0 : Int) ≤ (v : Int) + (j : Int) := by omega
        have n0 : (0 : Int) ≤ (j : Int) := by omega
        have v1 : ((v : Int) + (j : Int)).toNat = v + j := by omega
        obtain ⟨al, rfl, c1⟩ := HR.out (v + j) _ (natsC_at (List.getElem?_eq_getElem hvj))
        obtain ⟨bl, rfl, c2⟩ := HRQ.out j _ (natsC_at (List.getElem?_eq_getElem h2))
        have HS1 : Hid (s[v + j]? = some s[v + j]) := List.getElem?_eq_getElem hvj
        have HQ1 : Hid (∀ h : j < q.length, q[j] = q[j]) := fun _ => rfl
        obtain ⟨x1, hx1⟩ : ∃ z, z = s[v + j] := ⟨_, rfl⟩
        obtain ⟨x2, hx2⟩ : ∃ z, z = q[j] := ⟨_, rfl⟩
        rw [← hx1] at c1 HS1
        rw [← hx2] at c2
        have HX2 := Lib.hid hx2
        clear hx1 hx2 HQ1
        by_cases t3 : x1 = x2
        · have t3i : ((x1 : Int) != (x2 : Int)) = false := by rw [bne_eq_false_iff_eq]; omega
          have HNX : Hid (∀ i, i < j + 1 → ∀ h : i < q.length, s[v + i]? = some q[i]) := Lib.hid fun i hi h => by
            by_cases e : i = j
            · subst e; rw [HS1.out, t3, HX2.out]
            · exact HG.out i (by omega) h
          clear t3
          go_wp2
          go_quiet (fail)
          go_wp2
          go_roundw
          case rel => exact ⟨j + 1, _, by go_num, by omega, HNX, by first | rfl | (rw [World.drewN_drewN])⟩
          case measure => first | (simp [intOf]; done) | (simp [intOf]; omega)
        · have t3i : ((x1 : Int) != (x2 : Int)) = true := by rw [bne_iff_ne]; omega
          have HE : Hid (inP s q v = false) := Lib.hid (by
            rw [Bool.eq_false_iff]; intro h
            have h3 := (inP_iff s q v).1 h j h2
            rw [HS1.out] at h3
            injection h3 with h3
            exact t3 (by rw [h3, HX2.out]))
          clear t3
          go_wp2
          go_quiet (fail)
          go_wp2
          go_ret
          exact ⟨by rw [HE.out]; rfl, _, by first | rfl | (rw [World.drewN_drewN])⟩
      · obtain rfl : j = q.length := by omega
        have h2i : ¬ (q.length : Int) < (q.length : Int) := by omega
        have HE : Hid (inP s q v = true) := Lib.hid ((inP_iff s q v).2 (fun i h => HG.out i h h))
        go_wp2
        go_ret
        exact ⟨by rw [HE.out]; rfl, n, rfl⟩
theorem info_intF : (Try.prog.info? 3).map (fun i => (i.zero, i.size, i.bytes)) = some (some (.int .i64 0), 1, 8) := by kernel_rfl
set_option maxRecDepth 100000 in
theorem refFind_any (w : World) (A : Option Addr) (c : Nat) (s : List Nat) (hm : s.length ≤ 1000000) (hr : Rds w A (natsC s)) (B : Option Addr) (d : Nat) (q : List Nat) (hq : q.length ≤ 1000000) (hrq : Rds w B (natsC q)) :
    Calls Try.prog 35 #[.slice A s.length c, .slice B q.length d] w fun e w' => ∃ v, e = .returned v ∧ w'.ownsRow w.heap.size 3 1 v (findS s q).length (natsC (findS s q)) ∧ Below w.heap.size w w' := by
  have HBG : Hid (∀ w', Below w.heap.size w w' → ∀ v, v ≤ s.length → _) := Lib.hid fun w' h v hv => begins_any w' A c s hm (hr.ext h (Nat.le_refl _)) B d q hq (hrq.ext h (Nat.le_refl _)) v hv
  have HFE : Hid ((List.range s.length).filter (inP s q) = findS s q) := Lib.hid rfl
  clear hr hrq
  go_enter Try.func35, Try.ntmps35
  go_wp2
  go_loopw [5, 6] (fun v i wx => ∃ k : Nat, k ≤ s.length ∧ i = .int .i64 (k : Int) ∧ Hid (wx.ownsRow w.heap.size 3 1 v ((List.range k).filter (inP s q)).length (natsC ((List.range k).filter (inP s q)))) ∧ Hid (Below w.heap.size w wx)) (fun _ i _ => s.length - (intOf i).toNat)
  case atStart => exact ⟨0, by omega, rfl, World.ownsRow_nil _ _ _ _, Lib.hid (Below.refl _ _)⟩
  case round =>
    obtain ⟨k, hk, rfl, HO, HB⟩ := hrel
    by_cases h8 : k < s.length
    · have h8i : (k : Int) < (s.length : Int) := by omega
      obtain ⟨v, rfl⟩ : ∃ z, z = u5 := ⟨_, rfl⟩
      have HC := Lib.hid (HBG.out _ HB.out k hk)
      have HRS : Hid ((List.range (k + 1)).filter (inP s q) = (List.range k).filter (inP s q) ++ (if inP s q k then [k] else [])) := by
        show _ = _
        rw [List.range_succ, List.filter_append, List.filter_cons]; cases inP s q k <;> rfl
      have hll : ((List.range k).filter (inP s q)).length ≤ k := by have := List.length_filter_le (inP s q) (List.range k); rw [List.length_range] at this; exact this
      generalize inP s q k = t at *
      generalize (List.range k).filter (inP s q) = X at *
      go_wp2_with fail
      refine HC.out.mono ?_
      rintro e w1 ⟨rfl, n, rfl⟩
      have HB1 : Hid (Below w.heap.size w (wr.drewN n)) := Lib.hid (HB.out.trans ((drawn_below wr n).mono HB.out.size))
      have HO1 : Hid ((wr.drewN n).ownsRow w.heap.size 3 1 v X.length (natsC X)) := Lib.hid (own_ext HO.out (drawn_below wr n) (Nat.le_refl _))
      have hsz := HB1.out.size
      cases t with
      | true =>
        simp only [if_true] at HRS
        go_wp2_with (at_builtin; refine wp_app1 (w0 := wr.drewN n) rfl rfl _ _ 57 rfl w.heap.size 3 (.int .i64 0) 1 8 Try.underlying57 info_intF rfl (by decide) (by decide) _ _ _ rfl HO1.out rfl rfl (one_cell1 rfl) (by omega) hsz ?_; intro v' w2 hown hg1 hb1)
        go_roundw
        case rel =>
          refine ⟨k + 1, by omega, by go_num, ?_, Lib.hid (HB1.out.trans hb1)⟩
          show World.ownsRow _ _ _ _ _ _ _
          rw [HRS.out, List.length_append]; unfold natsC at hown ⊢; rw [List.map_append]; exact hown
        case measure => simp [intOf]; omega
      | false =>
        simp only [Bool.false_eq_true, if_false, List.append_nil] at HRS
        go_wp2
        go_roundw
        case rel => exact ⟨k + 1, by omega, by go_num, by rw [HRS.out]; exact HO1, HB1⟩
        case measure => simp [intOf]; omega
    · obtain rfl : k = s.length := by omega
      have h8i : ¬ (s.length : Int) < (s.length : Int) := by omega
      rw [HFE.out] at HO
      go_wp2
      go_ret
      exact ⟨_, rfl, HO.out, HB.out⟩
end Go.Proofs.Ytjpcfpffbicpnaa
