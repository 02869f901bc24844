/- The walks of the reference's Put and Get, and of what writes answers over. -/
import Derived.Test.YthibhndeejichaaWirePut
import Derived.Test.YthibhndeejichaaReader
import Derived.Test.YthibhndeejichaaQuiet
set_option linter.unusedVariables false
set_option linter.unusedSimpArgs false
namespace Lec
open Go Go.RowKit
theorem bytesWorld_below (w : World) (e : TypeId) (s : ByteArray) : Below w.heap.size w (Go.Lib.bytesWorld w e s) :=
  ⟨rfl, rfl, rfl, by rw [Go.Lib.bytesWorld_size]; omega, fun k hk => Go.Lib.bytesWorld_at_old w e s k hk⟩
theorem bytesWorld_rds (w : World) (e : TypeId) (s : ByteArray) : Rds (Go.Lib.bytesWorld w e s) (some ⟨w.heap.size, 0, none⟩) (bytesV (sb s)) := by
  intro i v hv
  have hi : i < (sb s).length := by
    have := (List.getElem?_eq_some_iff.1 hv).1
    simpa [bytesV] using this
  refine ⟨_, rfl, ?_⟩
  rw [Addr.add_lit, Nat.zero_add, Go.Lib.bytesWorld_cell w e s i (by rw [← sb_len]; exact hi), ← hv]
  unfold bytesV sb
  rw [List.getElem?_map, List.getElem?_eq_getElem hi]
  simp [List.getD, sb] at hi ⊢
  simp [hi]
end Lec
namespace Go.Proofs.Ythibhndeejichaa
open Go.RowKit Lec

set_option maxRecDepth 100000 in
theorem refPut_any (w : World) (A : Option Addr) (n c : Nat) (ss : List ByteArray) (hn : ss.length = n) (hm : n ≤ 140737488351232) (hsz : ∀ s ∈ ss, s.size ≤ 140737488351232) (hput : (putB ss).length ≤ 1048576) (hr : Rds w A (ss.map Value.string)) :
    Calls Try.prog 41 #[.slice A n c] w fun e w' => ∃ v, e = .returned (.tuple #[v, .bool true]) ∧ w'.ownsRow w.heap.size 5 1 v (putB ss).length (bytesV (putB ss)) ∧ Below w.heap.size w w' := by
  have HR := Lib.hid hr
  have HN := Lib.hid hn
  have HS := Lib.hid hsz
  have HP := Lib.hid hput
  clear hr hn hsz hput
  have hlen := numB_len9 (n := n) (by omega)
  go_enter Try.func41, Try.ntmps41
  go_wp2_with fail
  refine (refNum_any w n (by omega)).mono ?_
  rintro e w1 ⟨v, rfl, hown, hb⟩
  have HO1 := Lib.hid hown
  have HX1 := Lib.hid hb
  clear hown hb
  go_wp2
  go_loopw [4, 5] (fun x i wr => ∃ (k : Nat) (bs : List UInt8), k ≤ n ∧ i = .int .i64 (k : Int) ∧ Hid (bs = numB n ++ textsB (ss.take k)) ∧ bs.length ≤ 1048576 ∧ Hid (wr.ownsRow w.heap.size 5 1 x bs.length (bytesV bs)) ∧ Hid (Below w.heap.size w wr)) (fun _ i _ => n - (intOf i).toNat)
  case atStart => exact ⟨0, numB n, by omega, rfl, by show _ = _; simp [textsB], by omega, HO1, HX1⟩
  case round =>
    clear HO1 HX1
    obtain ⟨k, bs, hk, rfl, HB, hbl, HO, HX⟩ := hrel
    by_cases h8 : k < n
    · have hki : (k : Int) < n := by omega
      have hk' : k < ss.length := by rw [HN.out]; exact h8
      obtain ⟨a, rfl, hb⟩ := HR.out.map k hk'
      have hb1 := cell_ext HX.out (Nat.le_refl _) hb
      have habl : (a.add k).block < w.heap.size := World.block_lt_of_cell? w _ hb
      have hsk := HS.out ss[k] (List.getElem_mem hk')
      have HT := Lib.hid (textsB_step hk')
      clear hb
      have HTL : bs.length + (numB ss[k].size).length + ss[k].size ≤ 1048576 := by
        have h1 := textsB_take_le ss (k + 1)
        have h2 := HP.out
        have h3 := congrArg List.length HB.out
        have h4 := congrArg List.length HT.out
        unfold putB at h2
        rw [List.length_append, HN.out] at h2
        rw [List.length_append] at h3 h4
        rw [textB_len] at h4
        omega
      generalize ss[k] = s at *
      have hl9 := numB_len9 (n := s.size) (by omega)
      go_wp2_with fail
      refine (refNum_any wr s.size (by omega)).mono ?_
      rintro e w2 ⟨v2, rfl, hown2, hg2⟩
      obtain ⟨A2, c2, rfl, q1, q2, q3, q4, q5⟩ := own_rds hown2
      have HQ3 := Lib.hid q3
      have HQ4 := Lib.hid q4
      have HX2 : Hid (Below w.heap.size w w2) := HX.out.trans (hg2.mono HX.out.size)
      have HO2 := Lib.hid (own_ext HO.out hg2 (Nat.le_refl _))
      have hb2 := cell_ext hg2 (Nat.le_refl _) hb1
      clear hown2 hg2 q1 q2 q3 q4 q5 HO HX hb1
      have hcv := fun w => Lib.run_convert_string_bytes (P := Try.prog) w 9 24 5 s Try.underlying9 Try.underlying24 Try.underlying5
      have hnl : bs.length + (numB s.size).length ≤ 1048576 := by omega
      go_wp2_with (first
        | (at_builtin; (refine wp_app rfl _ _ 24 rfl w.heap.size 5 (.int .u8 0) 1 1 Try.underlying24 info_b8 rfl (by decide) (by decide) _ bs.length _ rfl HO2.out A2 _ c2 (bytesV (numB s.size)) rfl HQ3.out (by simp) HQ4.out (fun u hu => by simp [bytesV] at hu; obtain ⟨_, _, rfl⟩ := hu; rfl) (by omega) HX2.out.size ?_; intro v' w' hown' hg'; have hb3 := grown_cell hg' HO2.out hb2 habl; have HO3 := Lib.hid hown'; have HX3 := Lib.hid (HX2.out.grown hg' HX2.out.size (fun k hk => (HO2.out.lt k hk).1)); clear hown' hg'))
        | (at_builtin; (refine wp_app rfl _ _ 24 rfl w.heap.size 5 (.int .u8 0) 1 1 Try.underlying24 info_b8 rfl (by decide) (by decide) _ (bs.length + (numB s.size).length) _ rfl (own_ext HO3.out (bytesWorld_below w' 5 s) (Nat.le_refl _)) (some ⟨w'.heap.size, 0, none⟩) s.size (grownCap w' s.size 0 5) (bytesV (sb s)) rfl (fun e => by cases e) (by simp [sb_len]) (bytesWorld_rds w' 5 s) (fun u hu => by simp [bytesV] at hu; obtain ⟨_, _, rfl⟩ := hu; rfl) (by omega) (Nat.le_trans HX3.out.size (bytesWorld_below w' 5 s).size) ?_; intro v4 w4 hown4 hg4; have HO4 := Lib.hid hown4; have HX4 := Lib.hid ((HX3.out.trans ((bytesWorld_below w' 5 s).mono HX3.out.size)).grown hg4 (Nat.le_trans HX3.out.size (bytesWorld_below w' 5 s).size) (fun k hk => (HO3.out.lt k hk).1)); clear hown4 hg4)))
      have HO5 : Hid (w4.ownsRow w.heap.size 5 1 v4 (bs ++ numB s.size ++ sb s).length (bytesV (bs ++ numB s.size ++ sb s))) := by
        show World.ownsRow _ _ _ _ _ _ _
        unfold bytesV; rw [List.map_append, List.map_append, List.length_append, List.length_append, sb_len]; exact HO4.out
      obtain ⟨A4, c4, rfl, _, _, _, _, _⟩ := own_rds HO4.out
      have hbi : ¬ (1048576 : Int) < ((bs.length + (numB s.size).length + s.size : Nat) : Int) := by omega
      clear HO4 hcv
      go_wp2
      go_roundw
      case rel =>
        refine ⟨k + 1, (bs ++ numB s.size) ++ sb s, by omega, by go_num, ?_, ?_, ?_, HX4⟩
        · show _ = _; rw [HT.out, HB.out]; simp [textB]
        · rw [List.length_append, List.length_append, sb_len]; omega
        · show World.ownsRow _ _ _ _ _ _ _
          have := HO5.out
          rw [List.length_append, List.length_append, sb_len] at this ⊢; exact this
      case measure => simp [intOf]; omega
    · obtain rfl : k = n := by omega
      have hki : ¬ (k : Int) < k := by omega
      have HE : Hid (bs = putB ss) := by
        show _ = _
        rw [HB.out, List.take_of_length_le (by rw [HN.out]; exact Nat.le_refl _)]
        unfold putB; rw [HN.out]
      obtain ⟨A2, c2, rfl, _, _, _, _, _⟩ := own_rds HO.out
      have hbi : (bs.length : Int) ≤ 1048576 := by omega
      go_wp2
      go_ret2
      refine ⟨_, rfl, ?_, HX.out⟩
      rw [← HE.out]; exact HO.out
end Go.Proofs.Ythibhndeejichaa
