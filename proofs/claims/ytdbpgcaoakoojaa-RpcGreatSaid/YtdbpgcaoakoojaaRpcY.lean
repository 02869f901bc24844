/- The walk of rpc's May. -/
import Derived.Test.YtdbpgcaoakoojaaRpcR
set_option linter.unusedVariables false
set_option linter.unusedSimpArgs false
namespace Lec
open Go
theorem bl_neR {a b : ByteArray} (h : a ≠ b) : (a.toList == b.toList) = false := by
  rw [beq_eq_false_iff_ne]
  intro e
  rw [ByteArray.toList_eq, ByteArray.toList_eq] at e
  refine h ?_
  cases a; cases b
  congr 1
  exact Array.toList_inj.1 e
end Lec
namespace Go.Proofs.Ytdbpgcaoakoojaa
open Go.RowKit Lec
set_option maxRecDepth 100000 in
set_option maxHeartbeats 4000000 in
theorem May_any (w : World) (m : Rpc) (A : Option Addr) (c : Nat) (hr : Rds w A (entsC m.ents)) (hm : m.ents.length ≤ 4000000000) (hi : 0 ≤ m.idx ∧ m.idx < 9223372036854775808) :
    Calls Try.prog 17 #[rpcV m (.slice A m.ents.length c)] w fun e w' => e = .returned (.bool (mayR m)) ∧ Below w.heap.size w w' := by
  have HON : Hid (∀ w2, Below w.heap.size w w2 → Calls Try.prog 29 #[rpcV m (.slice A m.ents.length c)] w2 fun e w' => e = .returned (.tuple #[rpcV (ownR m) (ownV m (.slice A m.ents.length c)), .bool (ownB m)]) ∧ Below w2.heap.size w2 w') := Lib.hid (fun w2 h => own_any w2 m A c (hr.ext h (Nat.le_refl _)) hm hi)
  obtain ⟨u, hu⟩ : ∃ u, u = mayR m := ⟨_, rfl⟩
  rw [← hu]
  have HU := Lib.hid hu
  clear hu
  obtain ⟨v, hv⟩ : ∃ v, v = ownB m := ⟨_, rfl⟩
  rw [← hv] at HON
  have HV := Lib.hid hv
  clear hv hr hi
  obtain ⟨r, hrr⟩ : ∃ r, r = ownR m := ⟨_, rfl⟩
  obtain ⟨vo, hvo⟩ : ∃ vo, vo = ownV m (.slice A m.ents.length c) := ⟨_, rfl⟩
  have HVN : Hid (∃ B d, vo = .slice B r.ents.length d) := Lib.hid (by
    rw [hvo, hrr, ownR_ents]
    unfold ownV
    by_cases h3 : m.knd = 3
    · rw [if_pos h3, if_pos h3]; exact ⟨_, _, rfl⟩
    · rw [if_neg h3, if_neg h3]; exact ⟨_, _, rfl⟩)
  rw [← hrr, ← hvo] at HON
  have HRR := Lib.hid hrr
  clear hrr hvo
  have HSM : Hid (u = (v && nodeN m.frm && nodeN m.tto && numsN [m.trm, m.idx, m.lgt, m.com, m.rnd, m.att] && sameR m r)) := Lib.hid (by rw [HU.out, HV.out, HRR.out]; rfl)
  clear HU HV HRR
  obtain ⟨B, d, rfl⟩ := HVN.out
  clear HVN
  obtain ⟨a0, a1, a2, a3, a4, a5, a6, a7, ok, es, a8, dt, dn⟩ := m
  obtain ⟨b0, b1, b2, b3, b4, b5, b6, b7, ok2, es2, b8, dt2, dn2⟩ := r
  unfold rpcV at *
  unfold sameR at HSM
  dsimp only at *
  generalize es.length = n at *
  generalize es2.length = n2 at *
  go_enter Try.func17, Try.ntmps17
  go_upto_region 1 with (fail)
  have HX0 : Hid (Below w.heap.size w (w.alloc (.cells #[.int .i64 a0, .int .i64 a1, .int .i64 a2, .int .i64 a3, .int .i64 a4, .int .i64 a5, .int .i64 a6, .int .i64 a7, .bool ok, .slice A n c, .int .i64 a8, .string dt, .bool dn] 27))) := Lib.hid ((Below.refl _ _).alloc (Nat.le_refl _) _)
  have HB0 : Hid (Blk (w.alloc (.cells #[.int .i64 a0, .int .i64 a1, .int .i64 a2, .int .i64 a3, .int .i64 a4, .int .i64 a5, .int .i64 a6, .int .i64 a7, .bool ok, .slice A n c, .int .i64 a8, .string dt, .bool dn] 27)) w.heap.size 27 [.int .i64 a0, .int .i64 a1, .int .i64 a2, .int .i64 a3, .int .i64 a4, .int .i64 a5, .int .i64 a6, .int .i64 a7, .bool ok, .slice A n c, .int .i64 a8, .string dt, .bool dn]) := Lib.hid (Blk.new _ _ _)
  have HO2 := Lib.hid (HON.out _ HX0.out)
  go_wp2_with fail
  refine HO2.out.mono ?_
  rintro e w1 ⟨rfl, hb1⟩
  go_upto_region 2 with (fail)
  obtain ⟨w2, hw2⟩ : ∃ z, z = w1.alloc (.cells #[.int .i64 b0, .int .i64 b1, .int .i64 b2, .int .i64 b3, .int .i64 b4, .int .i64 b5, .int .i64 b6, .int .i64 b7, .bool ok2, .slice B n2 d, .int .i64 b8, .string dt2, .bool dn2] 27) := ⟨_, rfl⟩
  have HX1 : Hid (Below w.heap.size w w1) := Lib.hid (HX0.out.trans (hb1.mono HX0.out.size))
  have hb2 : Below w1.heap.size w1 w2 := by rw [hw2]; exact (Below.refl _ _).alloc (Nat.le_refl _) _
  have HX2 : Hid (Below w.heap.size w w2) := Lib.hid (HX1.out.trans (hb2.mono HX1.out.size))
  have HB2 : Hid (Blk w2 w.heap.size 27 [.int .i64 a0, .int .i64 a1, .int .i64 a2, .int .i64 a3, .int .i64 a4, .int .i64 a5, .int .i64 a6, .int .i64 a7, .bool ok, .slice A n c, .int .i64 a8, .string dt, .bool dn]) := Lib.hid ((HB0.out.ext hb1 (Nat.le_refl _)).ext hb2 (Nat.le_refl _))
  have HZ2 : Hid (Blk w2 w1.heap.size 27 [.int .i64 b0, .int .i64 b1, .int .i64 b2, .int .i64 b3, .int .i64 b4, .int .i64 b5, .int .i64 b6, .int .i64 b7, .bool ok2, .slice B n2 d, .int .i64 b8, .string dt2, .bool dn2]) := Lib.hid (by rw [hw2]; exact Blk.new _ _ _)
  rw [← hw2]
  generalize w1.heap.size = q at *
  clear hw2 hb1 hb2 HX0 HB0 HO2 HX1 HON
  obtain ⟨t1, ht1⟩ : ∃ z, z = nodeN a1 := ⟨_, rfl⟩
  obtain ⟨t2, ht2⟩ : ∃ z, z = nodeN a2 := ⟨_, rfl⟩
  obtain ⟨t3, ht3⟩ : ∃ z, z = numsN [a3, a4, a5, a6, a7, a8] := ⟨_, rfl⟩
  have HM1 := Lib.hid (rpcNode_any w2 a1)
  have HM2 := Lib.hid (rpcNode_any w2 a2)
  have HM3 := Lib.hid (rpcNumbers_any (w2.alloc (.cells #[.int .i64 a3, .int .i64 a4, .int .i64 a5, .int .i64 a6, .int .i64 a7, .int .i64 a8] 3)) (some ⟨w2.heap.size, 0, none⟩) 6 6 [a3, a4, a5, a6, a7, a8] rfl (by decide) (Blk.new w2 #[.int .i64 a3, .int .i64 a4, .int .i64 a5, .int .i64 a6, .int .i64 a7, .int .i64 a8] 3).rds)
  have HX3 : Hid (Below w.heap.size w (w2.alloc (.cells #[.int .i64 a3, .int .i64 a4, .int .i64 a5, .int .i64 a6, .int .i64 a7, .int .i64 a8] 3))) := Lib.hid (HX2.out.alloc (HX2.out.size) _)
  have HB3 : Hid (Blk (w2.alloc (.cells #[.int .i64 a3, .int .i64 a4, .int .i64 a5, .int .i64 a6, .int .i64 a7, .int .i64 a8] 3)) w.heap.size 27 [.int .i64 a0, .int .i64 a1, .int .i64 a2, .int .i64 a3, .int .i64 a4, .int .i64 a5, .int .i64 a6, .int .i64 a7, .bool ok, .slice A n c, .int .i64 a8, .string dt, .bool dn]) := Lib.hid (HB2.out.ext ((Below.refl _ _).alloc (Nat.le_refl _) _) (Nat.le_refl _))
  have HZ3 : Hid (Blk (w2.alloc (.cells #[.int .i64 a3, .int .i64 a4, .int .i64 a5, .int .i64 a6, .int .i64 a7, .int .i64 a8] 3)) q 27 [.int .i64 b0, .int .i64 b1, .int .i64 b2, .int .i64 b3, .int .i64 b4, .int .i64 b5, .int .i64 b6, .int .i64 b7, .bool ok2, .slice B n2 d, .int .i64 b8, .string dt2, .bool dn2]) := Lib.hid (HZ2.out.ext ((Below.refl _ _).alloc (Nat.le_refl _) _) (Nat.le_refl _))
  rw [← ht1] at HM1 HSM
  rw [← ht2] at HM2 HSM
  rw [← ht3] at HM3 HSM
  clear ht1 ht2 ht3
  have c1 := HB2.out.cell (o := 1) rfl
  have c2 := HB2.out.cell (o := 2) rfl
  have c3 := HB2.out.cell (o := 3) rfl
  have c4 := HB2.out.cell (o := 4) rfl
  have c5 := HB2.out.cell (o := 5) rfl
  have c6 := HB2.out.cell (o := 6) rfl
  have c7 := HB2.out.cell (o := 7) rfl
  have c10 := HB2.out.cell (o := 10) rfl
  cases v with
  | false =>
    have hu9 : u = false := by rw [HSM.out]; rfl
    clear HSM
    go_wp2_with (first | (go_at_call 30; first | ((with_reducible refine HM1.out.mono ?_); rintro e wq ⟨rfl, rfl⟩) | ((with_reducible refine HM2.out.mono ?_); rintro e wq ⟨rfl, rfl⟩)) | (go_at_call 31; refine HM3.out.mono ?_; rintro e w5 ⟨rfl, hb5⟩; have HX5 : Hid (Below w.heap.size w w5) := Lib.hid (HX3.out.trans (hb5.mono HX3.out.size))))
    go_ret
    exact ⟨by rw [hu9]; rfl, HX2.out⟩
  | true =>
    cases t1 with
    | false =>
      have hu9 : u = false := by rw [HSM.out]; rfl
      clear HSM
      go_wp2_with (first | (go_at_call 30; first | ((with_reducible refine HM1.out.mono ?_); rintro e wq ⟨rfl, rfl⟩) | ((with_reducible refine HM2.out.mono ?_); rintro e wq ⟨rfl, rfl⟩)) | (go_at_call 31; refine HM3.out.mono ?_; rintro e w5 ⟨rfl, hb5⟩; have HX5 : Hid (Below w.heap.size w w5) := Lib.hid (HX3.out.trans (hb5.mono HX3.out.size))))
      go_ret
      exact ⟨by rw [hu9]; rfl, HX2.out⟩
    | true =>
      cases t2 with
      | false =>
        have hu9 : u = false := by rw [HSM.out]; rfl
        clear HSM
        go_wp2_with (first | (go_at_call 30; first | ((with_reducible refine HM1.out.mono ?_); rintro e wq ⟨rfl, rfl⟩) | ((with_reducible refine HM2.out.mono ?_); rintro e wq ⟨rfl, rfl⟩)) | (go_at_call 31; refine HM3.out.mono ?_; rintro e w5 ⟨rfl, hb5⟩; have HX5 : Hid (Below w.heap.size w w5) := Lib.hid (HX3.out.trans (hb5.mono HX3.out.size))))
        go_ret
        exact ⟨by rw [hu9]; rfl, HX2.out⟩
      | true =>
        cases t3 with
        | false =>
          have hu9 : u = false := by rw [HSM.out]; rfl
          clear HSM
          go_wp2_with (first | (go_at_call 30; first | ((with_reducible refine HM1.out.mono ?_); rintro e wq ⟨rfl, rfl⟩) | ((with_reducible refine HM2.out.mono ?_); rintro e wq ⟨rfl, rfl⟩)) | (go_at_call 31; refine HM3.out.mono ?_; rintro e w5 ⟨rfl, hb5⟩; have HX5 : Hid (Below w.heap.size w w5) := Lib.hid (HX3.out.trans (hb5.mono HX3.out.size))))
          go_ret
          exact ⟨by rw [hu9]; rfl, HX5.out⟩
        | true =>
          go_upto_region 4 with (first | (go_at_call 30; first | ((with_reducible refine HM1.out.mono ?_); rintro e wq ⟨rfl, rfl⟩) | ((with_reducible refine HM2.out.mono ?_); rintro e wq ⟨rfl, rfl⟩)) | (go_at_call 31; refine HM3.out.mono ?_; rintro e w5 ⟨rfl, hb5⟩))
          have HX5 : Hid (Below w.heap.size w w5) := Lib.hid (HX3.out.trans (hb5.mono HX3.out.size))
          have HB5 := Lib.hid (HB3.out.ext hb5 (Nat.le_refl _))
          have HZ5 := Lib.hid (HZ3.out.ext hb5 (Nat.le_refl _))
          clear hb5 HM1 HM2 HM3 HX2 HX3 HB2 HB3 HZ2 HZ3 c1 c2 c3 c4 c5 c6 c7 c10
          have c4 := HB5.out.cell (o := 4) rfl
          have z4 := HZ5.out.cell (o := 4) rfl
          have c5 := HB5.out.cell (o := 5) rfl
          have z5 := HZ5.out.cell (o := 5) rfl
          have c6 := HB5.out.cell (o := 6) rfl
          have z6 := HZ5.out.cell (o := 6) rfl
          have c7 := HB5.out.cell (o := 7) rfl
          have z7 := HZ5.out.cell (o := 7) rfl
          have c8 := HB5.out.cell (o := 8) rfl
          have z8 := HZ5.out.cell (o := 8) rfl
          have c9 := HB5.out.cell (o := 9) rfl
          have z9 := HZ5.out.cell (o := 9) rfl
          have c10 := HB5.out.cell (o := 10) rfl
          have z10 := HZ5.out.cell (o := 10) rfl
          have c11 := HB5.out.cell (o := 11) rfl
          have z11 := HZ5.out.cell (o := 11) rfl
          have c12 := HB5.out.cell (o := 12) rfl
          have z12 := HZ5.out.cell (o := 12) rfl
          clear HB5 HZ5
          by_cases e0 : a4 = b4
          · subst e0
            by_cases e1 : a5 = b5
            · subst e1
              by_cases e2 : a6 = b6
              · subst e2
                by_cases e3 : a7 = b7
                · subst e3
                  by_cases e4 : ok = ok2
                  · subst e4
                    by_cases e5 : n = n2
                    · subst e5
                      by_cases e6 : a8 = b8
                      · subst e6
                        by_cases e7 : dt = dt2
                        · subst e7
                          by_cases e8 : dn = dn2
                          · subst e8
                            have hu9 : u = true := by rw [HSM.out]; exact decide_eq_true ⟨rfl, rfl, rfl, rfl, rfl, rfl, rfl, rfl, rfl⟩
                            clear HSM
                            go_wp2
                            go_ret
                            exact ⟨by rw [hu9]; first | rfl | simp, HX5.out⟩
                          · have f8 : (dn == dn2) = false := by rw [beq_eq_false_iff_ne]; exact e8
                            have hu9 : u = false := by rw [HSM.out]; exact decide_eq_false (fun h => e8 h.2.2.2.2.2.2.2.2)
                            clear HSM
                            go_wp2
                            go_ret
                            exact ⟨by rw [hu9]; first | rfl | simp, HX5.out⟩
                        · have f7 : (dt.toList == dt2.toList) = false := bl_neR e7
                          have hu9 : u = false := by rw [HSM.out]; exact decide_eq_false (fun h => e7 h.2.2.2.2.2.2.2.1)
                          clear HSM
                          go_wp2
                          go_ret
                          exact ⟨by rw [hu9]; first | rfl | simp, HX5.out⟩
                      · have f6 : (a8 == b8) = false := by rw [beq_eq_false_iff_ne]; exact e6
                        have hu9 : u = false := by rw [HSM.out]; exact decide_eq_false (fun h => e6 h.2.2.2.2.2.2.1)
                        clear HSM
                        go_wp2
                        go_ret
                        exact ⟨by rw [hu9]; first | rfl | simp, HX5.out⟩
                    · have f5 : ((n : Int) == (n2 : Int)) = false := by rw [beq_eq_false_iff_ne]; omega
                      have hu9 : u = false := by rw [HSM.out]; exact decide_eq_false (fun h => e5 h.2.2.2.2.2.1)
                      clear HSM
                      go_wp2
                      go_ret
                      exact ⟨by rw [hu9]; first | rfl | simp, HX5.out⟩
                  · have f4 : (ok == ok2) = false := by rw [beq_eq_false_iff_ne]; exact e4
                    have hu9 : u = false := by rw [HSM.out]; exact decide_eq_false (fun h => e4 h.2.2.2.2.1)
                    clear HSM
                    go_wp2
                    go_ret
                    exact ⟨by rw [hu9]; first | rfl | simp, HX5.out⟩
                · have f3 : (a7 == b7) = false := by rw [beq_eq_false_iff_ne]; exact e3
                  have hu9 : u = false := by rw [HSM.out]; exact decide_eq_false (fun h => e3 h.2.2.2.1)
                  clear HSM
                  go_wp2
                  go_ret
                  exact ⟨by rw [hu9]; first | rfl | simp, HX5.out⟩
              · have f2 : (a6 == b6) = false := by rw [beq_eq_false_iff_ne]; exact e2
                have hu9 : u = false := by rw [HSM.out]; exact decide_eq_false (fun h => e2 h.2.2.1)
                clear HSM
                go_wp2
                go_ret
                exact ⟨by rw [hu9]; first | rfl | simp, HX5.out⟩
            · have f1 : (a5 == b5) = false := by rw [beq_eq_false_iff_ne]; exact e1
              have hu9 : u = false := by rw [HSM.out]; exact decide_eq_false (fun h => e1 h.2.1)
              clear HSM
              go_wp2
              go_ret
              exact ⟨by rw [hu9]; first | rfl | simp, HX5.out⟩
          · have f0 : (a4 == b4) = false := by rw [beq_eq_false_iff_ne]; exact e0
            have hu9 : u = false := by rw [HSM.out]; exact decide_eq_false (fun h => e0 h.1)
            clear HSM
            go_wp2
            go_ret
            exact ⟨by rw [hu9]; first | rfl | simp, HX5.out⟩
end Go.Proofs.Ytdbpgcaoakoojaa
