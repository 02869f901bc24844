/- The walk of wavelet.split: a level's bits, and the list in the order of the one below. -/
import Derived.Test.YtfiioobdknbacaaVecN
import Derived.Test.YtfiioobdknbacaaWavL
import Derived.Test.YtfiioobdknbacaaBlk
import Derived.Test.YtfiioobdknbacaaBits
set_option linter.unusedVariables false
set_option linter.unusedSimpArgs false
namespace Lec
open Go Go.RowKit
def bitS (s c : Nat) : Bool := c / 2 ^ s % 2 == 1
theorem setCell_grown (w : World) (p o : Nat) (v : Value) : w.grownBy (w.setCell ⟨p, o, none⟩ v) (some p) :=
  ⟨rfl, rfl, rfl, by simp [World.setCell], fun k _ hne => Below.heap_setCell w ⟨p, o, none⟩ v k (fun e => hne (by rw [e]))⟩
/-- Two rows whose numbers differ lie apart. -/
theorem rows_apart {w : World} {base T n m : Nat} {v u : Value} {Z O : List Nat} {f : Nat → Bool} (hv : w.ownsRow base T 1 v n (natsC Z)) (hu : w.ownsRow base T 1 u m (natsC O)) (hZ : ∀ c ∈ Z, f c = false) (hO : ∀ c ∈ O, f c = true) (nz : Z = [] → v = .slice none 0 0) (no : O = [] → u = .slice none 0 0) : v.ownBlock = none ∨ v.ownBlock ≠ u.ownBlock := by
  cases hg : v.ownBlock with
  | none => exact .inl rfl
  | some g =>
    refine .inr (fun h => ?_)
    match Z, O, hv, hu, hZ, hO, nz, no with
    | [], _, _, _, _, _, nz, _ => rw [nz rfl] at hg; simp [Value.ownBlock] at hg
    | _ :: _, [], _, _, _, _, _, no => rw [no rfl] at h; simp [Value.ownBlock] at h
    | z :: Z, o :: O, hv, hu, hZ, hO, _, _ =>
      have h1 := hv.cells hg 0 (.int .i64 (z : Int)) rfl
      have h2 := hu.cells h.symm 0 (.int .i64 (o : Int)) rfl
      rw [h1] at h2
      have : (z : Int) = (o : Int) := by injection h2 with h3; injection h3
      have hzo : z = o := by omega
      have a := hZ z (by simp)
      have b := hO o (by simp)
      rw [hzo, b] at a
      cases a
end Lec
namespace Go.Proofs.Ytfiioobdknbacaa
open Go.RowKit Lec
theorem and1_i64 {x s : Nat} (h : x < 9223372036854775808) : bits BinOp.and IntKind.i64 ((x : Int) / 2 ^ s) 1 = ((x / 2 ^ s % 2 : Nat) : Int) := by
  have e : (x : Int) / 2 ^ s = ((x / 2 ^ s : Nat) : Int) := by simp
  rw [e, show (1 : Int) = ((1 : Nat) : Int) from rfl, i64_and_nat _ _ (Nat.lt_of_le_of_lt (Nat.div_le_self _ _) h) (by decide), Nat.and_two_pow_sub_one_eq_mod _ 1]
theorem ne_of_apart {v u : Value} (h : ∀ k, v.ownBlock = some k → u.ownBlock ≠ some k) : v.ownBlock = none ∨ v.ownBlock ≠ u.ownBlock := by
  cases hv : v.ownBlock with
  | none => exact .inl rfl
  | some g => exact .inr (fun e => h g hv e.symm)
theorem info_intW : (Try.prog.info? 3).map (fun i => (i.zero, i.size, i.bytes)) = some (some (.int .i64 0), 1, 8) := by kernel_rfl
theorem info_boolW : (Try.prog.info? 4).map (fun i => (i.zero, i.size, i.bytes)) = some (some (.bool false), 1, 1) := by kernel_rfl
/-- A level, new in memory, and the list in the order of the one below. -/
def SplitPost (w : World) (s : Nat) (L : List Nat) (e : Ending) (w' : World) : Prop :=
  ∃ p lo v, e = .returned (.tuple #[.agg #[.pointer (some ⟨p, 0, none⟩), .int .i64 (Wv.nought (bitS s) L : Int)], v]) ∧ w.heap.size ≤ lo ∧ lo ≤ p ∧ p < w'.heap.size ∧ VecT w' p (L.map (bitS s)) lo ∧
    w'.ownsRow w.heap.size 3 1 v L.length (natsC (Wv.part (bitS s) L)) ∧ Below w.heap.size w w'
set_option maxRecDepth 100000 in
set_option maxHeartbeats 4000000 in
theorem split_any (w : World) (A : Option Addr) (c s : Nat) (L : List Nat) (hs : s ≤ 8) (hm : L.length ≤ 131072) (hL : ∀ x ∈ L, x < 512) (hr : Rds w A (natsC L)) :
    Calls Try.prog 94 #[.slice A L.length c, .int .i64 (s : Int)] w (SplitPost w s L) := by
  have HR := Lib.hid hr
  have HL := Lib.hid hL
  clear hr hL
  go_enter Try.func94, Try.ntmps94
  go_wp2_with fail
  obtain ⟨w0, hw0⟩ : ∃ w0, w0 = w.alloc (.cells #[.pointer none, .int .i64 0] 112) := ⟨_, rfl⟩
  have HX0 : Hid (Below w.heap.size w w0) := by rw [hw0]; exact (Below.refl _ _).alloc (Nat.le_refl _) _
  have HP0 : Hid (Blk w0 w.heap.size 112 [.pointer none, .int .i64 0]) := by rw [hw0]; exact Blk.new w _ _
  rw [← hw0]
  have hws : w0.heap.size = w.heap.size + 1 := by rw [hw0]; simp
  have HRW := Lib.hid (HR.out.ext HX0.out (Nat.le_refl _))
  clear hw0 HR
  have HWS := Lib.hid hws
  clear hws
  go_loopw [6, 7, 8, 15] (fun v6 v7 v8 i wx => ∃ k : Nat, i = .int .i64 (k : Int) ∧ k ≤ L.length ∧
      Hid (wx.ownsRow (w.heap.size + 1) 4 1 v6 k (boolsC ((L.take k).map (bitS s)))) ∧
      Hid (wx.ownsRow (w.heap.size + 1) 3 1 v7 ((L.take k).filter (fun c => !bitS s c)).length (natsC ((L.take k).filter (fun c => !bitS s c)))) ∧
      Hid (wx.ownsRow (w.heap.size + 1) 3 1 v8 ((L.take k).filter (bitS s)).length (natsC ((L.take k).filter (bitS s)))) ∧
      Hid ((L.take k).filter (fun c => !bitS s c) = [] → v7 = .slice none 0 0) ∧ Hid ((L.take k).filter (bitS s) = [] → v8 = .slice none 0 0) ∧
      Hid (Below (w.heap.size + 1) w0 wx)) (fun _ _ _ i _ => L.length - (intOf i).toNat)
  case atStart => exact ⟨0, rfl, by omega, World.ownsRow_nil _ _ _ _, World.ownsRow_nil _ _ _ _, World.ownsRow_nil _ _ _ _, Lib.hid (fun _ => rfl), Lib.hid (fun _ => rfl), Below.refl _ _⟩
  case round =>
    obtain ⟨k, rfl, hk, H6, H7, H8, N7, N8, HB⟩ := hrel
    obtain ⟨v6, rfl⟩ : ∃ x, x = u6 := ⟨_, rfl⟩
    obtain ⟨v7, rfl⟩ : ∃ x, x = u7 := ⟨_, rfl⟩
    obtain ⟨v8, rfl⟩ : ∃ x, x = u8 := ⟨_, rfl⟩
    have HX : Hid (Below w.heap.size w wr) := HX0.out.trans (HB.out.mono (by omega))
    have hsz : w.heap.size + 1 ≤ wr.heap.size := by have := HB.out.size; have := HWS.out; omega
    by_cases h1 : k < L.length
    · have h1i : (k : Int) < (L.length : Int) := by omega
      obtain ⟨a, rfl, cc⟩ := (HRW.out.ext HB.out (by rw [HWS.out]; exact Nat.le_refl _)) k (.int .i64 (L[k] : Int)) (natsC_at (List.getElem?_eq_getElem h1))
      have hx := HL.out L[k] (List.getElem_mem h1)
      have T6 : Hid ((L.take (k + 1)).map (bitS s) = (L.take k).map (bitS s) ++ [bitS s L[k]]) := by show _ = _; rw [List.take_succ_eq_append_getElem h1]; simp only [List.map_append, List.map_cons, List.map_nil]
      have T7 : Hid ((L.take (k + 1)).filter (fun c => !bitS s c) = (L.take k).filter (fun c => !bitS s c) ++ (if bitS s L[k] then [] else [L[k]])) := by
        show _ = _; rw [List.take_succ_eq_append_getElem h1, List.filter_append, List.filter_cons]; cases bitS s L[k] <;> rfl
      have T8 : Hid ((L.take (k + 1)).filter (bitS s) = (L.take k).filter (bitS s) ++ (if bitS s L[k] then [L[k]] else [])) := by
        show _ = _; rw [List.take_succ_eq_append_getElem h1, List.filter_append, List.filter_cons]; cases bitS s L[k] <;> rfl
      have hap := rows_apart (f := bitS s) H7.out H8.out (fun c hc => by simpa using (List.mem_filter.1 hc).2) (fun c hc => (List.mem_filter.1 hc).2) N7.out N8.out
      have HAP := Lib.hid hap
      have hbe : bits .and .i64 ((L[k] : Int) / 2 ^ s) 1 = ((L[k] / 2 ^ s % 2 : Nat) : Int) := and1_i64 (by omega)
      have hbq : (((L[k] / 2 ^ s % 2 : Nat) : Int) == 1) = bitS s L[k] := by
        unfold bitS
        have : L[k] / 2 ^ s % 2 < 2 := Nat.mod_lt _ (by omega)
        generalize L[k] / 2 ^ s % 2 = m at *
        match m, this with
        | 0, _ => rfl
        | 1, _ => rfl
      have HAP2 : Hid (v8.ownBlock = none ∨ v8.ownBlock ≠ v7.ownBlock) := Lib.hid (by
        cases hg : v8.ownBlock with
        | none => exact .inl rfl
        | some g => exact .inr (fun e => by
            rcases hap with h | h
            · rw [h] at e; cases e
            · exact h (by rw [← e, hg])))
      clear hap
      generalize L[k] = x at *
      have hzl : ((L.take k).filter (fun c => !bitS s c)).length ≤ k := by have := (List.filter_sublist (l := L.take k) (p := fun c => !bitS s c)).length_le; rw [List.length_take] at this; omega
      have hol : ((L.take k).filter (bitS s)).length ≤ k := by have := (List.filter_sublist (l := L.take k) (p := bitS s)).length_le; rw [List.length_take] at this; omega
      generalize (L.take k).filter (fun c => !bitS s c) = Z at *
      generalize (L.take k).filter (bitS s) = O at *
      have hs0 : (0 : Int) ≤ (s : Int) := by omega
      cases hb : bitS s x with
      | true =>
        have HBT := Lib.hid hb
        rw [hb] at hbq T6 T7 T8
        simp only [if_true, Bool.false_eq_true, if_false] at T7 T8
        clear hb
        have hcast : (x : Int) / 2 ^ s % 2 = ((x / 2 ^ s % 2 : Nat) : Int) := by norm_cast
        have hbi := hbq
        rw [← hcast] at hbi
        clear hcast hbq
        go_wp2_with (first
        | (at_builtin; refine wp_app1 (w0 := wr) rfl rfl _ _ 45 rfl (w.heap.size + 1) 3 (.int .i64 0) 1 8 Try.underlying45 info_intW rfl (by decide) (by decide) _ O.length _ rfl H8.out rfl rfl (one_cell1 rfl) (by omega) hsz ?_
           intro vg w1 hown1 hg1 hb1
           have K6 := Lib.hid ((own_ext H6.out ((Below.refl wr.heap.size wr).alloc (Nat.le_refl _) (.cells #[.int .i64 (x : Int)] 3)) (Nat.le_refl _)).kept hg1 (ne_of_apart (own_apart H6.out H8.out (by decide))))
           have KO := Lib.hid ((own_ext H7.out ((Below.refl wr.heap.size wr).alloc (Nat.le_refl _) (.cells #[.int .i64 (x : Int)] 3)) (Nat.le_refl _)).kept hg1 HAP.out)
           have KG := Lib.hid hown1
           have HB1 := Lib.hid (HB.out.trans hb1)
           have hs1 : w.heap.size + 1 ≤ w1.heap.size := Nat.le_trans hsz hb1.size
           clear hown1 hg1)
        | (at_builtin; refine wp_app1 (w0 := w1) rfl rfl _ _ 104 rfl (w.heap.size + 1) 4 (.bool false) 1 1 Try.underlying104 info_boolW rfl (by decide) (by decide) _ k _ rfl K6.out rfl rfl (one_cell1 rfl) (by omega) hs1 ?_
           intro v6' w2 hown2 hg2 hb2
           have QO := Lib.hid ((own_ext KO.out ((Below.refl w1.heap.size w1).alloc (Nat.le_refl _) (.cells #[.bool true] 4)) (Nat.le_refl _)).kept hg2 (ne_of_apart (own_apart KO.out K6.out (by decide))))
           have QG := Lib.hid ((own_ext KG.out ((Below.refl w1.heap.size w1).alloc (Nat.le_refl _) (.cells #[.bool true] 4)) (Nat.le_refl _)).kept hg2 (ne_of_apart (own_apart KG.out K6.out (by decide))))
           have Q6 := Lib.hid hown2
           clear hown2 hg2))
        go_roundw
        case rel =>
          refine ⟨k + 1, by go_num, by omega, ?_, ?_, ?_, Lib.hid (fun e => N7.out (by rw [T7.out, List.append_nil] at e; exact e)), Lib.hid (fun e => by rw [T8.out] at e; simp at e), HB1.out.trans (hb2.mono (by omega))⟩
          · show World.ownsRow _ _ _ _ _ _ _
            rw [T6.out]; unfold boolsC; rw [List.map_append]; exact Q6.out
          · show World.ownsRow _ _ _ _ _ _ _
            rw [T7.out, List.append_nil]; exact QO.out
          · show World.ownsRow _ _ _ _ _ _ _
            rw [T8.out]; show World.ownsRow _ _ _ _ _ _ _; rw [List.length_append]; unfold natsC at QG ⊢; rw [List.map_append]; exact QG.out
        case measure => simp [intOf]; omega
      | false =>
        have HBT := Lib.hid hb
        rw [hb] at hbq T6 T7 T8
        simp only [if_true, Bool.false_eq_true, if_false] at T7 T8
        clear hb
        have hcast : (x : Int) / 2 ^ s % 2 = ((x / 2 ^ s % 2 : Nat) : Int) := by norm_cast
        have hbi := hbq
        rw [← hcast] at hbi
        have hbj : ¬ (x : Int) / 2 ^ s % 2 = 1 := by simpa using hbi
        have hbk : (x : Int) / 2 ^ s % 2 = 0 := by have := Int.emod_two_eq ((x : Int) / 2 ^ s); omega
        clear hcast hbq
        go_wp2_with (first
        | (at_builtin; refine wp_app1 (w0 := wr) rfl rfl _ _ 45 rfl (w.heap.size + 1) 3 (.int .i64 0) 1 8 Try.underlying45 info_intW rfl (by decide) (by decide) _ Z.length _ rfl H7.out rfl rfl (one_cell1 rfl) (by omega) hsz ?_
           intro vg w1 hown1 hg1 hb1
           have K6 := Lib.hid ((own_ext H6.out ((Below.refl wr.heap.size wr).alloc (Nat.le_refl _) (.cells #[.int .i64 (x : Int)] 3)) (Nat.le_refl _)).kept hg1 (ne_of_apart (own_apart H6.out H7.out (by decide))))
           have KO := Lib.hid ((own_ext H8.out ((Below.refl wr.heap.size wr).alloc (Nat.le_refl _) (.cells #[.int .i64 (x : Int)] 3)) (Nat.le_refl _)).kept hg1 HAP2.out)
           have KG := Lib.hid hown1
           have HB1 := Lib.hid (HB.out.trans hb1)
           have hs1 : w.heap.size + 1 ≤ w1.heap.size := Nat.le_trans hsz hb1.size
           clear hown1 hg1)
        | (at_builtin; refine wp_app1 (w0 := w1) rfl rfl _ _ 104 rfl (w.heap.size + 1) 4 (.bool false) 1 1 Try.underlying104 info_boolW rfl (by decide) (by decide) _ k _ rfl K6.out rfl rfl (one_cell1 rfl) (by omega) hs1 ?_
           intro v6' w2 hown2 hg2 hb2
           have QO := Lib.hid ((own_ext KO.out ((Below.refl w1.heap.size w1).alloc (Nat.le_refl _) (.cells #[.bool false] 4)) (Nat.le_refl _)).kept hg2 (ne_of_apart (own_apart KO.out K6.out (by decide))))
           have QG := Lib.hid ((own_ext KG.out ((Below.refl w1.heap.size w1).alloc (Nat.le_refl _) (.cells #[.bool false] 4)) (Nat.le_refl _)).kept hg2 (ne_of_apart (own_apart KG.out K6.out (by decide))))
           have Q6 := Lib.hid hown2
           clear hown2 hg2))
        go_roundw
        case rel =>
          refine ⟨k + 1, by go_num, by omega, ?_, ?_, ?_, Lib.hid (fun e => by rw [T7.out] at e; simp at e), Lib.hid (fun e => N8.out (by rw [T8.out, List.append_nil] at e; exact e)), HB1.out.trans (hb2.mono (by omega))⟩
          · show World.ownsRow _ _ _ _ _ _ _
            rw [T6.out]; unfold boolsC; rw [List.map_append]; exact Q6.out
          · show World.ownsRow _ _ _ _ _ _ _
            rw [T7.out]; show World.ownsRow _ _ _ _ _ _ _; rw [List.length_append]; unfold natsC at QG ⊢; rw [List.map_append]; exact QG.out
          · show World.ownsRow _ _ _ _ _ _ _
            rw [T8.out, List.append_nil]; exact QO.out
        case measure => simp [intOf]; omega
    · obtain rfl : k = L.length := by omega
      have h1i : ¬ (L.length : Int) < (L.length : Int) := by omega
      rw [List.take_length] at H6 H7 H8 N7 N8
      obtain ⟨A6, c6, e6, p1, p2, p3, p4, p5⟩ := own_rds H6.out
      subst e6
      have HBW := Lib.hid p4
      clear p1 p2 p3 p4 p5
      have HNV := Lib.hid (New_typed wr A6 L.length c6 (L.map (bitS s)) (by simp) (by omega) HBW.out)
      go_wp2_with fail
      refine HNV.out.mono ?_
      rintro e w1 ⟨p, rfl, hp1, hp2, hvec, hb1⟩
      have hlt7 := H7.out.lt
      obtain ⟨A8, c8, e8, p1, p2, p3, p4, p5⟩ := own_rds H8.out
      subst e8
      have HR8 := Lib.hid (Rds.ext p4 hb1 (Nat.le_refl _))
      have HN8 := Lib.hid p3
      have HO7 := Lib.hid (own_ext H7.out hb1 (Nat.le_refl _))
      have HLT := Lib.hid hlt7
      have HV := Lib.hid hvec
      have HX1 : Hid (Below w.heap.size w w1) := HX.out.trans (hb1.mono HX.out.size)
      have hw1 : w.heap.size + 1 ≤ w1.heap.size := Nat.le_trans hsz hb1.size
      have HP1 : Hid (Blk w1 w.heap.size 112 [.pointer none, .int .i64 0]) := Lib.hid ((HP0.out.ext HB.out (by rw [HWS.out]; exact Nat.le_refl _)).ext hb1 (Nat.le_refl _))
      have hzl : (L.filter (fun c => !bitS s c)).length ≤ L.length := (List.filter_sublist (l := L) (p := fun c => !bitS s c)).length_le
      have hol : (L.filter (bitS s)).length ≤ L.length := (List.filter_sublist (l := L) (p := bitS s)).length_le
      have HPA : Hid (Wv.part (bitS s) L = L.filter (fun c => !bitS s c) ++ L.filter (bitS s)) := rfl
      have HNO : Hid (Wv.nought (bitS s) L = (L.filter (fun c => !bitS s c)).length) := rfl
      have HPL := Lib.hid (Wv.part_len (bitS s) L)
      clear p1 p2 p3 p4 p5 hvec hb1 hlt7 H6 H7 H8 N7 N8 HNV HBW
      obtain ⟨A7, c7, e7, p1, p2, p3, p4, p5⟩ := own_rds HO7.out
      subst e7
      clear p1 p2 p3 p4 p5
      generalize L.filter (fun c => !bitS s c) = Z at *
      generalize L.filter (bitS s) = O at *
      have z0 := HP1.out.cell (o := 0) rfl
      have z1 := HP1.out.cell (o := 1) rfl
      have y0 := HP1.out.froz 0
      have y1 := HP1.out.froz 1
      go_wp2_with (at_builtin; refine wp_app rfl _ _ 45 rfl (w.heap.size + 1) 3 (.int .i64 0) 1 8 Try.underlying45 info_intW rfl (by decide) (by decide) _ Z.length _ rfl HO7.out A8 O.length c8 (natsC O) rfl HN8.out (by simp [natsC]) HR8.out (by intro u hu; simp [natsC] at hu; obtain ⟨_, _, rfl⟩ := hu; rfl) (by omega) hw1 ?_
                   intro v9 w2 hown9 hg9
                   have hz0 : w2.cell? ⟨w.heap.size, 0, none⟩ = some (.pointer none) := hg9.cell z0 (fun h => by have := (HLT.out w.heap.size h.symm).1; omega)
                   have hz1 : w2.cell? ⟨w.heap.size, 1, none⟩ = some (.int .i64 0) := hg9.cell z1 (fun h => by have := (HLT.out w.heap.size h.symm).1; omega)
                   have hy0 : w2.frozen? ⟨w.heap.size, 0, none⟩ = false := by rw [World.frozen?_of_block (hg9.block w.heap.size (by omega) (fun h => by have := (HLT.out w.heap.size h.symm).1; omega))]; exact y0
                   have hy1 : w2.frozen? ⟨w.heap.size, 1, none⟩ = false := by rw [World.frozen?_of_block (hg9.block w.heap.size (by omega) (fun h => by have := (HLT.out w.heap.size h.symm).1; omega))]; exact y1
                   clear z0 z1 y0 y1)
      have HZ9 : Hid (w.heap.size < w2.heap.size) := Lib.hid (Nat.lt_of_lt_of_le (by omega : w.heap.size < w1.heap.size) hg9.size)
      have hsp : Value.ownBlock (.slice A7 Z.length c7) = none ∨ True := .inr trivial
      have HV2 := Lib.hid (HV.out.grown hg9 (fun g h => by have := (HLT.out g h).2; exact this))
      have HX2 : Hid (Below w.heap.size w w2) := HX1.out.grown hg9 (by omega) (fun g h => by have := (HLT.out g h).1; omega)
      have HO9 := Lib.hid hown9
      have hp3 : p < w2.heap.size := Nat.lt_of_lt_of_le hp2 hg9.size
      obtain ⟨A9, c9, e9, q1, q2, q3, q4, q5⟩ := own_rds hown9
      subst e9
      refine bodyPost_ret (v := .tuple #[.agg #[.pointer (some ⟨p, 0, none⟩), .int .i64 (Z.length : Int)], .slice A9 (Z.length + O.length) c9]) (by simp [results, Try.results94, go_sem, *]) rfl ?_
      show SplitPost w s L _ _
      refine ⟨p, wr.heap.size, _, by rw [HNO.out], by omega, hp1, by simpa using hp3, ?_, ?_, ?_⟩
      · exact (HV2.out.grown (setCell_grown _ _ _ _) (fun g h => by cases h; omega)).grown (setCell_grown _ _ _ _) (fun g h => by cases h; omega)
      · have hlen : Z.length + O.length = L.length := by have := HPL.out; rw [HPA.out, List.length_append] at this; exact this
        rw [HPA.out, ← hlen]
        have hne : (Value.slice A9 (Z.length + O.length) c9).ownBlock ≠ some w.heap.size := fun h => by have := (HO9.out.lt _ h).1; omega
        have h1 := ownsRow_setCell_other HO9.out (a := ⟨w.heap.size, 0, none⟩) hne (.pointer (some ⟨p, 0, none⟩))
        have h2 := ownsRow_setCell_other h1 (a := ⟨w.heap.size, 1, none⟩) hne (.int .i64 (Z.length : Int))
        have h3 := own_lower h2 (base' := w.heap.size) (by omega)
        unfold natsC at h3 ⊢
        rw [List.map_append]
        exact h3
      · exact (HX2.out.setCell (Nat.le_refl _) _).setCell (Nat.le_refl _) _
end Go.Proofs.Ytfiioobdknbacaa
