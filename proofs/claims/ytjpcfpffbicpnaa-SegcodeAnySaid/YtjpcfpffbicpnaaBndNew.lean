/- The walk of bounds.New. -/
import Derived.Test.YtjpcfpffbicpnaaPackBas
import Derived.Lib.Builder
import Derived.OneCell
set_option linter.unusedVariables false
set_option linter.unusedSimpArgs false
namespace Lec
open Go Go.RowKit
/-- Bounds in memory of the call's own. -/
def BndN (base : Nat) (w : World) (p : Nat) (xs : List Int) : Prop := ∃ A c, w.cell? ⟨p, 0, none⟩ = some (.slice A xs.length c) ∧ xs.length ≤ 65 ∧ Rds w A (intsI xs) ∧ base ≤ p ∧ (∀ a, A = some a → base ≤ a.block)
theorem BndN.bnd {base : Nat} {w : World} {p : Nat} {xs : List Int} (h : BndN base w p xs) : Bnd w p xs := by
  obtain ⟨A, c, h1, h2, h3, _, _⟩ := h
  exact ⟨A, c, h1, h2, h3⟩
theorem BndN.grown {base : Nat} {w w' : World} {p : Nat} {xs : List Int} {row : Option Nat} (h : BndN base w p xs) (hg : w.grownBy w' row) (hr : ∀ k, row = some k → k < base) : BndN base w' p xs := by
  obtain ⟨A, c, h1, h2, h3, h4, h5⟩ := h
  have hk : ∀ k, base ≤ k → k < w.heap.size → w'.heap[k]? = w.heap[k]? := fun k hb hl => hg.block k hl (fun e => by have := hr k e.symm; omega)
  refine ⟨A, c, (World.cell?_of_block (hk p h4 (World.block_lt_of_cell? w _ h1))).trans h1, h2, ?_, h4, h5⟩
  intro i u hu
  obtain ⟨a, e, hc⟩ := h3 i u hu
  refine ⟨a, e, (World.cell?_of_block (hk _ ?_ (World.block_lt_of_cell? w _ hc))).trans hc⟩
  rw [add_block]; exact h5 a e
end Lec
namespace Go.Proofs.Ytjpcfpffbicpnaa
open Go.RowKit Lec

def NewPost (L : List Int) (w : World) (e : Ending) (w' : World) : Prop :=
  Below w.heap.size w w' ∧
  ((okI L ∧ ∃ p, e = .returned (.tuple #[.pointer (some ⟨p, 0, none⟩), .int .i64 0]) ∧ BndN w.heap.size w' p (startsI L (L.length + 1))) ∨
   (¬ okI L ∧ e = .returned (.tuple #[.pointer none, .int .i64 (lensI L)])))

set_option maxRecDepth 100000 in
set_option maxHeartbeats 1000000 in
theorem New_any (w : World) (A : Option Addr) (n c : Nat) (L : List Int) (hn : L.length = n) (hm : n ≤ 9223372036854775807) (hw : ∀ x ∈ L, -9223372036854775808 ≤ x ∧ x ≤ 9223372036854775807) (hr : Rds w A (intsI L)) :
    Calls Try.prog 52 #[.slice A n c] w (NewPost L w) := by
  have HR := Lib.hid hr
  have HN := Lib.hid hn
  have HW := Lib.hid hw
  clear hr hn hw
  have hdd : decide ((64 : Int) < (n : Int)) = decide (64 < n) := by congr 1; exact propext (by omega)
  go_enter Try.func52, Try.ntmps52
  go_wp2
  go_loopw [4, 5, 18] (fun all much i wr => ∃ (k : Nat) (al : Int) (mu : Bool) (v : Value) (ys : List Int), i = .int .i64 (k : Int) ∧ all = .int .i64 al ∧ much = .bool mu ∧ k ≤ n ∧ 0 ≤ al ∧ al ≤ 131072 ∧ 0 < ys.length ∧ ys.length ≤ k + 1 ∧
      Hid (nonneg (L.take k)) ∧ Hid (mu = false → al = startI L k ∧ n ≤ 64 ∧ ys = startsI L (k + 1)) ∧ Hid (mu = true → 64 < n ∨ 131072 < startI L k) ∧
      Hid (wr.heap[w.heap.size + 1]? = some (.cells #[v] 123 (0, 0))) ∧ Hid (wr.ownsRow w.heap.size 3 1 v ys.length (intsI ys)) ∧ Hid (Below w.heap.size w wr)) (fun _ _ i _ => n - (intOf i).toNat)
  case atStart =>
    refine ⟨0, 0, decide (64 < n), .slice (some ⟨w.heap.size, 0, none⟩) 1 1, [0], rfl, rfl, rfl, by omega, by omega, by omega, by simp, by simp, ?_, ?_, ?_, ?_, ?_, ?_⟩
    · show nonneg _; intro x hx; simp at hx
    · show _ → _; intro h; exact ⟨(startI_zero L).symm, by simpa using h, by simp [startsI, startI_zero]⟩
    · show _ → _; intro h; exact .inl (by simpa using h)
    · show _ = _
      rw [show w.heap.size + 1 = (w.alloc (.cells #[.int .i64 0] 3)).heap.size by simp]
      exact heap_alloc_new _ _
    · show World.ownsRow _ _ _ _ _ _ _
      exact (World.ownsRow_lit w #[.int .i64 0] 1 (Nat.le_refl _) (by decide) rfl).alloc _
    · exact ((Below.refl _ _).alloc (Nat.le_refl _) _).alloc (by simp) _
  case round =>
    obtain ⟨k, al, mu, v, ys, rfl, rfl, rfl, hk, hal0, hal1, hys0, hys1, HNN, HF, HT, HP, HO, HX⟩ := hrel
    obtain ⟨A1, c1, rfl, _, _, _, _, _⟩ := own_rds HO.out
    have hpc : wr.cell? ⟨w.heap.size + 1, 0, none⟩ = some (.slice A1 ys.length c1) := cell_of_row _ _ _ _ _ _ HP.out
    by_cases h1 : k < n
    · have h1i : (k : Int) < (n : Int) := by omega
      have hk' : k < L.length := by rw [HN.out]; exact h1
      obtain ⟨a, rfl, hb⟩ := HR.out.map k hk'
      have hb1 := cell_ext HX.out (Nat.le_refl _) hb
      have hxr := HW.out L[k] (List.getElem_mem hk')
      have HST := Lib.hid (startI_step hk')
      have HNS : Hid (0 ≤ L[k] → nonneg (L.take (k + 1))) := fun h => nonneg_take_snoc hk' HNN.out h
      have HNG : Hid (L[k] < 0 → ¬ nonneg L) := fun h hh => by have := nonneg_at hh hk'; omega
      clear hb
      generalize L[k] = x at *
      by_cases hx : x < 0
      · have HE : Hid (¬ nonneg L) := HNG.out hx
        go_wp2
        go_ret2
        exact ⟨HX.out, .inr ⟨fun o => HE.out o.1, by rw [lensI_neg HE.out]; rfl⟩⟩
      · have HNN2 : Hid (nonneg (L.take (k + 1))) := HNS.out (by omega)
        cases mu
        · obtain ⟨hf1, hf2, hf3⟩ := HF.out rfl
          have HF3 := Lib.hid hf3
          have HF1 := Lib.hid hf1
          clear hf3 hf1
          by_cases hbig : 131072 - al ≤ x
          · go_wp2
            go_roundw
            case rel =>
              refine ⟨k + 1, al, true, _, ys, by go_num, rfl, rfl, by omega, hal0, hal1, hys0, by omega, HNN2, ?_, ?_, HP, HO, HX⟩
              · show _ → _; intro h; cases h
              · show _ → _; intro _; refine .inr ?_; rw [HST.out, ← HF1.out]; omega
            case measure => simp [intOf]; omega
          · have hpf : wr.frozen? ⟨w.heap.size + 1, 0, none⟩ = false := frozen_of_row _ _ _ _ _ HP.out
            have hyl : ys.length ≤ 65 := by omega
            go_wp2_with (at_builtin; refine wp_app1 (w0 := wr) rfl rfl _ _ 57 rfl w.heap.size 3 (.int .i64 0) 1 8 Try.underlying57 info_i64 rfl (by decide) (by decide) _ ys.length _ rfl HO.out rfl rfl (one_cell1 rfl) (by omega) HX.out.size ?_; intro v' w' hown' hg' hb'; obtain ⟨A3, c3, rfl, _, _, _, _, _⟩ := own_rds hown'; have hne := Go.Lib.ownBlock_ne HO.out HP.out (by decide); have hps : w.heap.size + 1 < wr.heap.size := (Array.getElem?_eq_some_iff.1 HP.out).1; have hp2 := (hg'.block (w.heap.size + 1) (by simp; omega) (fun e => hne e.symm)).trans ((Below.heap_alloc _ _ _ hps).trans HP.out); have hc2 : w'.cell? ⟨w.heap.size + 1, 0, none⟩ = some (.slice A1 ys.length c1) := cell_of_row _ _ 0 _ _ _ hp2; have hfz : w'.frozen? ⟨w.heap.size + 1, 0, none⟩ = false := frozen_of_row _ _ 0 _ _ hp2; have HP2 := Lib.hid hp2; have HO2 := Lib.hid hown'; have HX2 := Lib.hid (HX.out.trans hb'); clear hown' hg' hb' hp2 hne)
            have HP3 : Hid ((w'.setCell ⟨w.heap.size + 1, 0, none⟩ (.slice A3 (ys.length + 1) c3)).heap[w.heap.size + 1]? = some (.cells #[.slice A3 (ys.length + 1) c3] 123 (0, 0))) := heap_setCell_same _ _ 0 _ _ _ HP2.out
            have HO3 : Hid ((w'.setCell ⟨w.heap.size + 1, 0, none⟩ (.slice A3 (ys.length + 1) c3)).ownsRow w.heap.size 3 1 (.slice A3 (ys.length + 1) c3) (ys ++ [al + (x + 1)]).length (intsI (ys ++ [al + (x + 1)]))) := by
              show World.ownsRow _ _ _ _ _ _ _
              unfold intsI; rw [List.map_append, List.length_append]
              exact ownsRow_setCell_other HO2.out (Go.Lib.ownBlock_ne HO2.out HP2.out (by decide)) _
            have HX3 : Hid (Below w.heap.size w (w'.setCell ⟨w.heap.size + 1, 0, none⟩ (.slice A3 (ys.length + 1) c3))) := HX2.out.setCell (by simp) _
            clear HP HO HX HP2 HO2 HX2
            go_roundw
            case rel =>
              refine ⟨k + 1, al + (x + 1), false, _, ys ++ [al + (x + 1)], by go_num, rfl, rfl, by omega, by omega, by omega, by simp, by simp; omega, HNN2, ?_, ?_, HP3, HO3, HX3⟩
              · show _ → _; intro _; exact ⟨by rw [HST.out, ← HF1.out], hf2, by rw [startsI_snoc, ← HF3.out, HST.out, ← HF1.out]⟩
              · show _ → _; intro h; cases h
            case measure => simp [intOf]; omega
        · go_wp2
          go_roundw
          case rel =>
            refine ⟨k + 1, al, true, _, ys, by go_num, rfl, rfl, by omega, hal0, hal1, hys0, by omega, HNN2, ?_, ?_, HP, HO, HX⟩
            · show _ → _; intro h; cases h
            · show _ → _; intro _; rcases HT.out rfl with h | h
              · exact .inl h
              · refine .inr ?_; rw [HST.out]; omega
          case measure => simp [intOf]; omega
    · obtain rfl : k = n := by omega
      have h1i : ¬ (k : Int) < (k : Int) := by omega
      have HNL : Hid (nonneg L) := by have := HNN.out; rwa [List.take_of_length_le (by rw [HN.out]; exact Nat.le_refl _)] at this
      cases mu
      · obtain ⟨hf1, hf2, hf3⟩ := HF.out rfl
        have HOK : Hid (okI L) := ⟨HNL.out, by rw [HN.out]; exact hf2, by rw [HN.out, ← hf1]; exact hal1⟩
        have HF3 := Lib.hid hf3
        clear hf1 hf2 hf3
        go_wp2
        go_ret2
        have hys : ys = startsI L (L.length + 1) := by rw [HF3.out, HN.out]
        have hyl : ys.length = (startsI L (L.length + 1)).length := by rw [hys]
        refine ⟨HX.out, .inl ⟨HOK.out, _, rfl, A1, c1, ?_, ?_, ?_, by omega, ?_⟩⟩
        · rw [← hyl]; exact hpc
        · rw [startsI_len]; have := HOK.out.2.1; omega
        · rw [← hys]
          obtain ⟨A2, c2, e, _, _, _, h, _⟩ := own_rds HO.out
          obtain ⟨rfl, rfl⟩ : A1 = A2 ∧ c1 = c2 := by simpa using e
          exact h
        · intro a e
          obtain ⟨A2, c2, e2, _, _, _, _, h⟩ := own_rds HO.out
          obtain ⟨rfl, rfl⟩ : A1 = A2 ∧ c1 = c2 := by simpa using e2
          obtain ⟨g, rfl, hg, _⟩ := h a e
          exact hg
      · have HE : Hid (64 < L.length ∨ 131072 < startI L L.length) := by have := HT.out rfl; rw [← HN.out] at this; exact this
        have HNO : Hid (¬ okI L) := fun o => by rcases HE.out with h | h <;> have := o.2 <;> omega
        go_wp2
        go_ret2
        exact ⟨HX.out, .inr ⟨HNO.out, by rw [lensI_much HNL.out HE.out]; rfl⟩⟩
end Go.Proofs.Ytjpcfpffbicpnaa
