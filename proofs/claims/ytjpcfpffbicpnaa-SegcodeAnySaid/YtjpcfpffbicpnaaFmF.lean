/- The walk of an index's Find. -/
import Derived.Test.YtjpcfpffbicpnaaFmP
import Derived.Test.YtjpcfpffbicpnaaSortW
set_option linter.unusedVariables false
set_option linter.unusedSimpArgs false
namespace Lec.Fm
open Lec.Sa
def findE (k : Nat) (s : List Nat) (p : List Int) : List Nat := if wrongE k p = 0 then findS s (p.map Int.toNat) else []
theorem wrong_ne {k : Nat} {p : List Int} (h : wrongE k p = 0) : p.map Int.toNat ≠ [] := by
  unfold wrongE at h
  split at h
  · omega
  · rename_i h2
    intro e
    rw [List.map_eq_nil_iff] at e
    subst e
    simp at h2
theorem find_done {k : Nat} {s b : List Nat} {p : List Int} (h : IsSA s b) : (((R s b).take (rowsE k s b p).2).drop (rowsE k s b p).1).mergeSort (fun a b => decide (a ≤ b)) = findE k s p := by
  by_cases hw : wrongE k p = 0
  · unfold rowsE findE
    rw [if_pos hw, if_pos hw]
    refine find_sort h (wrong_ne hw) _ (List.mergeSort_perm _ _) ?_
    refine (List.pairwise_mergeSort (fun a b c h1 h2 => ?_) (fun a b => ?_) _).imp (fun h => by simpa using h)
    · simp at h1 h2 ⊢; omega
    · simp; omega
  · unfold rowsE findE
    rw [if_neg hw, if_neg hw]
    simp
end Lec.Fm
namespace Go.Proofs.Ytjpcfpffbicpnaa
open Go.RowKit Lec Lec.Fm
variable {w : World} {x k D lo : Nat} {s b : List Nat}
def FindPost (w : World) (k : Nat) (s : List Nat) (P : List Int) (e : Ending) (w' : World) : Prop :=
  ∃ v, e = .returned (.tuple #[v, .int .i64 (wrongE k P : Int)]) ∧ w'.ownsRow w.heap.size 3 1 v (findE k s P).length (natsC (findE k s P)) ∧ Below w.heap.size w w'
set_option maxRecDepth 100000 in
set_option maxHeartbeats 1000000 in
theorem Find_any (hc : FmC k D s b) (h : FmN w x k D s b lo) (A : Option Addr) (c : Nat) (P : List Int) (hP : P.length ≤ 1000000) (hr : Rds w A (intsV P)) :
    Calls Try.prog 33 #[.pointer (some ⟨x, 0, none⟩), .slice A P.length c] w (FindPost w k s P) := by
  have HRW := Lib.hid (Rows_any hc h A c P hP hr)
  have hlen := hc.len
  have hle := rowsE_le (k := k) (p := P) hc.sa
  have HRL : Hid ((R s b).length = s.length + 1) := Sa.rowsL_len hc.sa
  have HDN := Lib.hid (find_done (k := k) (p := P) hc.sa)
  have HPL : Hid (∀ w', Below w.heap.size w w' → ∀ r v : Nat, (R s b)[r]? = some v → _) := Lib.hid fun w' hw r v hr => place_any hc (h.ext hw (Nat.le_refl _)) r v hr
  clear hc h hr
  generalize rowsE k s b P = rr at *
  obtain ⟨f, t⟩ := rr
  dsimp only at *
  go_enter Try.func33, Try.ntmps33
  go_wp2_with fail
  refine HRW.out.mono ?_
  rintro e w1 ⟨rfl, hb⟩
  have HX1 := Lib.hid hb
  clear hb HRW
  go_wp2
  go_loopw [4, 8] (fun v i wx => ∃ r : Nat, f ≤ r ∧ r ≤ t ∧ i = .int .i64 (r : Int) ∧ Hid (wx.ownsRow w.heap.size 3 1 v (r - f) (natsC (((R s b).take r).drop f))) ∧ Hid (Below w.heap.size w wx)) (fun _ i _ => t - (intOf i).toNat)
  case atStart => exact ⟨f, by omega, by omega, rfl, by show World.ownsRow _ _ _ _ _ _ _; rw [Nat.sub_self, List.drop_take, Nat.sub_self]; exact World.ownsRow_nil _ _ _ _, HX1⟩
  case round =>
    obtain ⟨r, hfr, hrt, rfl, HO, HB⟩ := hrel
    by_cases h8 : r < t
    · have h8i : (r : Int) < (t : Int) := by omega
      have hrl : r < (R s b).length := by rw [HRL.out]; omega
      obtain ⟨v, rfl⟩ : ∃ z, z = u4 := ⟨_, rfl⟩
      obtain ⟨pl, hpl⟩ : ∃ pl, (R s b)[r]? = some pl := ⟨_, List.getElem?_eq_getElem hrl⟩
      have HP := Lib.hid (HPL.out _ HB.out r pl hpl)
      have HTK : Hid (((R s b).take (r + 1)).drop f = ((R s b).take r).drop f ++ [pl]) := Lib.hid (by
        have h2 : (R s b)[r] = pl := (List.getElem?_eq_some_iff.1 hpl).2
        rw [List.take_succ_eq_append_getElem hrl, List.drop_append_of_le_length (by rw [List.length_take]; omega), h2])
      have hsb : r + 1 - f = r - f + 1 := by omega
      have HSB := Lib.hid hsb
      have hm1 : r - f ≤ 1000000 := by omega
      generalize hmm : r - f = m at *
      have HMM := Lib.hid hmm
      clear hpl hrl hsb hmm
      go_wp2_with (first
        | (go_at_call 55
           refine HP.out.mono ?_
           rintro e w2 ⟨rfl, hb2⟩
           have HO2 := Lib.hid (own_ext HO.out hb2 (Nat.le_refl _))
           have HB2 : Hid (Below w.heap.size w w2) := Lib.hid (HB.out.trans (hb2.mono HB.out.size))
           have hsz := HB2.out.size
           clear hb2)
        | (at_builtin; refine wp_app1 (w0 := w2) rfl rfl _ _ 57 rfl w.heap.size 3 (.int .i64 0) 1 8 Try.underlying57 info_intM rfl (by decide) (by decide) _ m _ rfl HO2.out rfl rfl (one_cell1 rfl) (by omega) hsz ?_
           intro v' w3 hown hg1 hb1))
      go_roundw
      case rel =>
        refine ⟨r + 1, by omega, by omega, by go_num, ?_, HB2.out.trans hb1⟩
        show World.ownsRow _ _ _ _ _ _ _
        rw [HSB.out, HTK.out]; unfold natsC at hown ⊢; rw [List.map_append]; exact hown
      case measure => simp [intOf]; omega
    · obtain rfl : r = t := by omega
      have h8i : ¬ (r : Int) < (r : Int) := by omega
      obtain ⟨v, rfl⟩ : ∃ z, z = u4 := ⟨_, rfl⟩
      have hl : (((R s b).take r).drop f).length = r - f := by rw [List.length_drop, List.length_take, HRL.out]; omega
      have HO' := HO.out
      rw [← hl] at HO'
      have HS := Lib.hid (sort_own wr w.heap.size v _ (by omega) HO')
      have HLT : Hid (∀ g, v.ownBlock = some g → w.heap.size ≤ g) := Lib.hid fun g h => (HO.out.lt g h).1
      have HLN : Hid ((findE k s P).length = (((R s b).take r).drop f).length) := Lib.hid (by rw [← HDN.out, List.length_mergeSort])
      clear HO' hl
      go_wp2_with fail
      refine HS.out.mono ?_
      rintro e w2 ⟨rfl, hown, hg⟩
      have HB2 : Hid (Below w.heap.size w w2) := HB.out.grown hg HB.out.size HLT.out
      have HO2 := Lib.hid hown
      clear hown hg
      go_wp2
      go_ret2
      refine ⟨_, rfl, ?_, HB2.out⟩
      have := HO2.out
      rw [show ((List.drop f (List.take r (R s b))).mergeSort leN) = findE k s P from HDN.out, ← HLN.out] at this
      exact this
end Go.Proofs.Ytjpcfpffbicpnaa
