/- The walk of the law EntriesCompacts. -/
import Derived.Test.YtpdnkhdnenibgaaAskR23
import Derived.Test.YtpdnkhdnenibgaaEntT
import Derived.Test.YtpdnkhdnenibgaaEntM
set_option linter.unusedVariables false
set_option linter.unusedSimpArgs false
namespace Lec
theorem drop_may {b t : Int} {L : List Ent} (h : mayL b t L) {k : Nat} (hk : k < L.length) (hb : b ≤ 1073741824) : mayL (b + 1 + k) L[k].2.1 (L.drop (k + 1)) ∧ endE (b + 1 + k) L[k].2.1 (L.drop (k + 1)) = endE b t L := by
  obtain ⟨h1, h2, h3, h4, h5, h6⟩ := h
  have hat := runsE_at b t L h6 k hk
  have he : endE b t (L.take (k + 1)) = (b + 1 + k, L[k].2.1) := by
    rw [List.take_succ_eq_append_getElem hk, endE_snoc, hat.1]
  have hs : L = L.take (k + 1) ++ L.drop (k + 1) := (List.take_append_drop _ _).symm
  have hr := h6
  rw [hs, runsE_app, he] at hr
  have hg := hat.2
  refine ⟨⟨by omega, by omega, hg.2.2.1, hg.2.2.2.1, by rw [List.length_drop]; omega, hr.2⟩, ?_⟩
  rw [show endE b t L = endE b t (L.take (k + 1) ++ L.drop (k + 1)) by rw [← hs], endE_app, he]
end Lec
namespace Go.Proofs.Ytpdnkhdnenibgaa
open Go.RowKit Lec


set_option maxRecDepth 100000 in
set_option maxHeartbeats 4000000 in
theorem EntriesCompacts_walk (W : World) (A : Option Addr) (c : Nat) (xs : List AskT) (hrow : Row Ask23 W A xs) (hlc : xs.length ≤ c) (hcm : c ≤ maxLen) (hnone : A = none → xs.length = 0 ∧ c = 0) (hby : c * 88 ≤ reachBytes) :
    Calls Try.prog 9 #[.slice A xs.length c] W fun e w' => e = .returned (.bool true) ∧ Below W.heap.size W w' := by
  have hlen : xs.length ≤ 9223372036854775807 := by unfold maxLen at hcm; omega
  have HROW := Lib.hid hrow
  clear hrow hnone hby hcm hlc
  go_enter Try.func9, Try.ntmps9
  go_wp2
  go_loopw [3] (fun i wr => ∃ k : Nat, k ≤ 8 ∧ i = .int .i64 k ∧ Hid (Below W.heap.size W wr)) (fun i _ => 8 - (intOf i).toNat)
  case atStart => exact ⟨0, by omega, rfl, Below.refl _ _⟩
  case round =>
    obtain ⟨k, hk, rfl, HX⟩ := hrel
    by_cases h1 : k < xs.length
    · have h1i : (k : Int) < (xs.length : Int) := by omega
      by_cases h8 : k < 8
      · have h8i : (k : Int) < 8 := by omega
        obtain ⟨a, B, cc, C, d, rfl, hat⟩ := ask_at (HROW.out.ext HX.out (Nat.le_refl _)) k h1
        generalize xs[k] = x at *
        obtain ⟨⟨b, t, L⟩, i, j, Es, N⟩ := x
        have HAT := Lib.hid hat
        clear hat
        generalize hok : ok23 b t L Es = u
        have HOK := Lib.hid hok
        clear hok
        obtain ⟨g0, g1, g2, g3, g4, g5, g6, _, _, _⟩ := HAT.out
        go_wp2_with fail
        clear g0 g1 g2 g3 g4 g5 g6
        refine (ok23_any wr b t B L.length cc L i j C Es.length d Es N rfl rfl HAT.out.l.small HAT.out.e.small HAT.out.l.str HAT.out.e.str HAT.out.l.rds HAT.out.e.rds u HOK.out).mono ?_
        rintro e w1 ⟨rfl, hb⟩
        replace HX : Hid (Below W.heap.size W w1) := HX.out.trans (hb.mono HX.out.size)
        replace HAT := Lib.hid (HAT.out.ext hb (Nat.le_refl _))
        clear hb
        cases u with
        | false =>
          go_wp2
          go_roundw
          case rel => exact ⟨k + 1, by omega, by go_num, HX⟩
          case measure => simp [intOf]; omega
        | true =>
          have HM := Lib.hid (ok23_may HOK.out)
          have hl2 : L.length < 200 := HM.out.2.1
          have hbb : 0 ≤ b ∧ b ≤ 1099511625728 := ⟨HM.out.1.1, HM.out.1.2.1⟩
          have hki0 : (0 : Int) ≤ (k : Int) := by omega
          by_cases hbig : 1073741824 < b
          · --
            obtain ⟨g0, g1, g2, g3, g4, g5, g6, _, _, _⟩ := HAT.out
            go_wp2
            go_roundw
            case rel => exact ⟨k + 1, by omega, by go_num, HX⟩
            case measure => simp [intOf]; omega
          · obtain ⟨n, hn⟩ : ∃ n, n = L.length := ⟨_, rfl⟩
            have HN := Lib.hid hn.symm
            have hend : (endE b t L).1 = b + n := by rw [runsE_end _ _ _ HM.out.1.2.2.2.2.2, hn]
            rw [← hn] at hl2
            clear hn
            obtain ⟨et, het⟩ : ∃ et, endE b t L = (b + n, et) := ⟨_, by rw [← hend]⟩
            have HET := Lib.hid het
            clear hend het
            obtain ⟨g0, g1, g2, g3, g4, g5, g6, _, _, _⟩ := HAT.out
            go_wp2_with fail
            clear g0 g1 g2 g3 g4 g5 g6
            refine (Last_any w1 b t B L.length cc L rfl (by have := HN.out; omega) HAT.out.l.rds HM.out.1).mono ?_
            rw [HET.out]
            rintro e w2 ⟨rfl, hb⟩
            replace HX : Hid (Below W.heap.size W w2) := HX.out.trans (hb.mono HX.out.size)
            replace HAT := Lib.hid (HAT.out.ext hb (Nat.le_refl _))
            clear hb
            obtain ⟨g0, g1, g2, g3, g4, g5, g6, _, _, _⟩ := HAT.out
            go_wp2
            clear g0 g1 g2 g3 g4 g5 g6
            go_loopw [7] (fun i wr => ∃ m : Nat, m ≤ n ∧ i = .int .i64 (b + 1 + m) ∧ Hid (Below W.heap.size W wr) ∧ Hid (Below w2.heap.size w2 wr)) (fun i _ => n - (intOf i - (b + 1)).toNat)
            case atStart => exact ⟨0, by omega, by simp, HX, Below.refl _ _⟩
            case round =>
              obtain ⟨m, hm, rfl, HX2, HBO⟩ := hrel
              have HAT2 := Lib.hid (HAT.out.ext HBO.out (Nat.le_refl _))
              have hs2 := HAT2.out.g2
              have hg0 := HAT2.out.g0
              rw [show (((b, t, L), i, j, Es, N) : AskT).1.2.2.length = n from HN.out] at hs2
              have hw1 : IntKind.i64.wrap (b + (n : Int)) = b + (n : Int) := wrap_id (by omega)
              by_cases hmn : m < n
              · have hle : b + 1 + (m : Int) ≤ b + (n : Int) := by omega
                have hml : m < L.length := by rw [HN.out]; exact hmn
                have hdm := drop_may HM.out.1 hml (by omega)
                have hcp : compE b t L (b + 1 + m) = (b + 1 + m, L[m].2.1, L.drop (m + 1), 0) := by
                  unfold compE
                  rw [if_pos ⟨HM.out.1, by omega, by rw [HN.out]; omega, by omega⟩, atE_in hml, show (b + 1 + (m : Int) - b : Int).toNat = m + 1 by omega]; rfl
                have hat : atE b t L (b + 1 + m) = some L[m].2.1 := atE_in hml
                have hdl : (L.drop (m + 1)).length = n - (m + 1) := by rw [List.length_drop, HN.out]
                generalize L[m].2.1 = lt at *
                have HDM := Lib.hid hdm
                have HCP := Lib.hid hcp
                have HAE := Lib.hid hat
                have HDL := Lib.hid hdl
                clear hml hdm hcp hat hdl
                go_wp2
                go_quiet (fail)
                clear hw1 hs2 hg0
                have hbd : Below wr.heap.size wr (wr.drewN nq) := drawn_below wr nq
                replace HAT2 := Lib.hid (HAT2.out.ext hbd (Nat.le_refl _))
                replace HX2 : Hid (Below W.heap.size W (wr.drewN nq)) := HX2.out.trans (hbd.mono HX2.out.size)
                replace HBO : Hid (Below w2.heap.size w2 (wr.drewN nq)) := HBO.out.trans (hbd.mono HBO.out.size)
                clear hbd
                generalize wr.drewN nq = wq at *
                have HCA := Lib.hid (Compact_any wq b t B n cc L HN.out (by omega) (by rw [← HN.out]; exact HAT2.out.l.len) (by rw [← HN.out]; exact HAT2.out.l.nil) HAT2.out.l.rds (b + 1 + m))
                rw [HCP.out] at HCA
                obtain ⟨g0, g1, g2, g3, g4, g5, g6, _, _, _⟩ := HAT2.out
                rw [show (((b, t, L), i, j, Es, N) : AskT).1.2.2.length = n from HN.out] at g2
                go_wp2_with fail
                clear g0 g1 g2 g3 g4 g5 g6
                refine HCA.out.mono ?_
                rintro e w3 ⟨v, rfl, hown, hb⟩
                obtain ⟨A3, c3, rfl, p1, p2, p3, p4, p5⟩ := own_rds hown
                dsimp only at p1 p2 p3 p4 p5 hown ⊢
                rw [HDL.out]
                have HR3 := Lib.hid p4
                replace HAT2 := Lib.hid (HAT2.out.ext hb (Nat.le_refl _))
                replace HX2 : Hid (Below W.heap.size W w3) := HX2.out.trans (hb.mono HX2.out.size)
                replace HBO : Hid (Below w2.heap.size w2 w3) := HBO.out.trans (hb.mono HBO.out.size)
                clear hb hown p1 p2 p3 p4 p5 HCA HCP
                go_wp2_with fail
                obtain ⟨w4, hw4⟩ : ∃ w4, w4 = w3.alloc (.cells #[.int .i64 (b + 1 + m), .int .i64 lt, .slice A3 (n - (m + 1)) c3] 26) := ⟨_, rfl⟩
                have hb4 : Below w3.heap.size w3 w4 := by rw [hw4]; exact (Below.refl _ _).alloc (Nat.le_refl _) _
                have HP4 : Hid (Lg w4 w3.heap.size (b + 1 + m) lt (.slice A3 (n - (m + 1)) c3)) := by rw [hw4]; exact Lg.new w3 _ _ _ _
                rw [← hw4]
                have HR4 := Lib.hid (HR3.out.ext hb4 (Nat.le_refl _))
                replace HAT2 := Lib.hid (HAT2.out.ext hb4 (Nat.le_refl _))
                replace HX2 : Hid (Below W.heap.size W w4) := HX2.out.trans (hb4.mono HX2.out.size)
                replace HBO : Hid (Below w2.heap.size w2 w4) := HBO.out.trans (hb4.mono HBO.out.size)
                generalize w3.heap.size = pp at *
                clear hw4 hb4 HR3
                refine (Last_any w4 (b + 1 + m) lt A3 (n - (m + 1)) c3 (L.drop (m + 1)) HDL.out (by omega) HR4.out HDM.out.1).mono ?_
                rw [HDM.out.2, HET.out]
                rintro e w5 ⟨rfl, hb⟩
                replace HP4 := Lib.hid (HP4.out.ext hb (Nat.le_refl _))
                replace HAT2 := Lib.hid (HAT2.out.ext hb (Nat.le_refl _))
                replace HX2 : Hid (Below W.heap.size W w5) := HX2.out.trans (hb.mono HX2.out.size)
                replace HBO : Hid (Below w2.heap.size w2 w5) := HBO.out.trans (hb.mono HBO.out.size)
                clear hb HR4 HDM
                obtain ⟨g0, g1, g2, g3, g4, g5, g6, _, _, _⟩ := HAT2.out
                rw [show (((b, t, L), i, j, Es, N) : AskT).1.2.2.length = n from HN.out] at g2
                go_wp2_with fail
                clear g0 g1 g2 g3 g4 g5 g6
                refine (Term_any w5 b t B n cc L HN.out (by omega) HAT2.out.l.rds HM.out.1 _).mono ?_
                rw [HAE.out]
                rintro e w6 ⟨rfl, hb⟩
                replace HP4 := Lib.hid (HP4.out.ext hb (Nat.le_refl _))
                replace HX2 : Hid (Below W.heap.size W w6) := HX2.out.trans (hb.mono HX2.out.size)
                replace HBO : Hid (Below w2.heap.size w2 w6) := HBO.out.trans (hb.mono HBO.out.size)
                clear hb HAT2 HAE
                dsimp only [termR]
                obtain ⟨p0, p1, p2, q0, q1, q2, _⟩ := HP4.out
                have hn1 : (b + (n : Int) != b + (n : Int)) = false := by simp
                have hn2 : (et != et) = false := by simp
                have hn3 : (b + 1 + (m : Int) != b + 1 + (m : Int)) = false := by simp
                have hn4 : (lt != lt) = false := by simp
                have hn5 : (((n - (m + 1) : Nat) : Int) != b + (n : Int) - (b + 1 + (m : Int))) = false := by rw [bne_eq_false_iff_eq]; omega
                go_wp2_with (go_at_call 18; refine (num23 _ _).mono ?_; rintro e wq ⟨rfl, rfl⟩)
                clear p0 p1 p2 q0 q1 q2
                go_roundw
                case rel => exact ⟨m + 1, by omega, congrArg (Value.int .i64) (by omega), HX2, HBO⟩
                case measure => simp [intOf]; omega
              · obtain rfl : m = n := by omega
                have hle : ¬ b + 1 + (m : Int) ≤ b + (m : Int) := by omega
                go_wp2
                go_quiet (fail)
                clear hw1 hs2 hg0
                have hbd : Below wr.heap.size wr (wr.drewN nq) := drawn_below wr nq
                replace HAT2 := Lib.hid (HAT2.out.ext hbd (Nat.le_refl _))
                replace HX2 : Hid (Below W.heap.size W (wr.drewN nq)) := HX2.out.trans (hbd.mono HX2.out.size)
                clear hbd HBO
                generalize wr.drewN nq = wq at *
                have HBAD : Hid (∀ (wz : World) (i : Int), Below wq.heap.size wq wz → (i = b ∨ i = b + m + 1) → Calls Try.prog 29 #[.agg #[.int .i64 b, .int .i64 t, .slice B m cc], .int .i64 i] wz fun e w' => ∃ A9 n9 c9, e = .returned (.tuple #[.agg #[.int .i64 0, .int .i64 0, .slice A9 n9 c9], .int .i64 1]) ∧ Below wz.heap.size wz w') := Lib.hid (fun wz i hbz hi => by
                  have hat := HAT2.out.ext hbz (Nat.le_refl _)
                  refine (Compact_any wz b t B m cc L HN.out (by omega) (by rw [← HN.out]; exact hat.l.len) (by rw [← HN.out]; exact hat.l.nil) hat.l.rds i).mono ?_
                  have hc : compE b t L i = (0, 0, [], 1) := by unfold compE; rw [if_neg (by rw [HN.out]; omega)]
                  rw [hc]
                  rintro e w' ⟨v, rfl, hown, hb⟩
                  obtain ⟨A3, c3, rfl, _, _, _, _, _⟩ := own_rds hown
                  exact ⟨A3, _, c3, rfl, hb⟩)
                have HD1 : Hid (Below wq.heap.size wq wq.drew) := drawn_below wq 1
                have HD2 : Hid (Below wq.heap.size wq (wq.alloc (.cells #[.int .i64 0, .int .i64 0, .slice none 0 0] 26)).drew) := (let h := (Below.refl wq.heap.size wq).alloc (Nat.le_refl _) (.cells #[.int .i64 0, .int .i64 0, .slice none 0 0] 26); ⟨h.os, h.tape, h.output, h.size, h.block⟩)
                have HZD : Hid (Lg (wq.alloc (.cells #[.int .i64 0, .int .i64 0, .slice none 0 0] 26)).drew wq.heap.size 0 0 (.slice none 0 0)) := Lib.hid (by have h := Lg.new wq 0 0 (.slice none 0 0) 26; exact ⟨h.c0, h.c1, h.c2, h.f0, h.f1, h.f2, h.lt⟩)
                have HAB : Hid ((a.add (k * 7)).block ≠ wq.heap.size) := by have h := World.block_lt_of_cell? wq _ HAT2.out.g0; exact fun e => by rw [e] at h; exact Nat.lt_irrefl _ h
                obtain ⟨g0, g1, g2, g3, g4, g5, g6, _, _, _⟩ := HAT2.out
                rw [show (((b, t, L), i, j, Es, N) : AskT).1.2.2.length = m from HN.out] at g2
                go_upto_region 14 with (fail)
                go_cut [16] (fun s16 wx => s16 = .int .i64 1 ∧ Hid (Below wq.heap.size wq wx))
                case first =>
                  go_region_held3 (fun w' => w'.cell? (a.add (k * 7)) = some (.int .i64 b) ∧ w'.cell? ⟨(a.add (k * 7)).block, (a.add (k * 7)).off + 1, none⟩ = some (.int .i64 t) ∧ w'.cell? ⟨(a.add (k * 7)).block, (a.add (k * 7)).off + 2, none⟩ = some (.slice B m cc))
                    (first | (with_reducible exact ⟨g0, g1, g2⟩) | (with_reducible exact ⟨(cell_put (a := a.add (k * 7)) HAB.out).trans g0, (cell_put (a := ⟨(a.add (k * 7)).block, (a.add (k * 7)).off + 1, none⟩) HAB.out).trans g1, (cell_put (a := ⟨(a.add (k * 7)).block, (a.add (k * 7)).off + 2, none⟩) HAB.out).trans g2⟩) | go_keep)
                    (first | (go_at_call 29; with_reducible refine (HBAD.out (wq.alloc (.cells #[.int .i64 0, .int .i64 0, .slice none 0 0] 26)).drew b HD2.out (.inl rfl)).mono ?_
                              rintro e w3 ⟨A9, n9, c9, rfl, hb⟩
                              have HB3 : Hid (Below wq.heap.size wq w3) := HD2.out.trans (hb.mono HD2.out.size)
                              have HZ3 := Lib.hid (HZD.out.ext hb (Nat.le_refl _))
                              have hat := HAT2.out.ext HB3.out (Nat.le_refl _)
                              clear hb g0 g1 g2 g3 g4 g5 g6
                              obtain ⟨g0, g1, g2, g3, g4, g5, g6, _, _, _⟩ := hat
                              rw [show (((b, t, L), i, j, Es, N) : AskT).1.2.2.length = m from HN.out] at g2
                              obtain ⟨z0, z1, z2, y0, y1, y2, _⟩ := HZ3.out)
                           | (go_at_call 29; with_reducible refine (HBAD.out wq.drew b HD1.out (.inl rfl)).mono ?_
                              rintro e w3 ⟨A9, n9, c9, rfl, hb⟩
                              have HB3 : Hid (Below wq.heap.size wq w3) := HD1.out.trans (hb.mono HD1.out.size)
                              have hat := HAT2.out.ext HB3.out (Nat.le_refl _)
                              clear hb g0 g1 g2 g3 g4 g5 g6
                              obtain ⟨g0, g1, g2, g3, g4, g5, g6, _, _, _⟩ := hat
                              rw [show (((b, t, L), i, j, Es, N) : AskT).1.2.2.length = m from HN.out] at g2))
                  · go_wp2_with fail
                    go_meet
                    exact ⟨rfl, by first | exact HB3.out.alloc HB3.out.size _ | exact below_put HB3.out (Nat.le_refl _) _ _ _⟩
                  · go_wp2_with fail
                    go_meet
                    exact ⟨rfl, by first | exact HB3.out.alloc HB3.out.size _ | exact below_put HB3.out (Nat.le_refl _) _ _ _⟩
                case rest =>
                  clear HD1 HD2 HZD HAB g0 g1 g2 g3 g4 g5 g6
                  obtain ⟨rfl, HBC⟩ := hcut
                  have HAT3 := Lib.hid (HAT2.out.ext HBC.out (Nat.le_refl _))
                  have HX3 : Hid (Below W.heap.size W wc) := HX2.out.trans (HBC.out.mono HX2.out.size)
                  have HBB := Lib.hid (HBAD.out wc (b + m + 1) HBC.out (.inr rfl))
                  obtain ⟨g0, g1, g2, g3, g4, g5, g6, _, _, _⟩ := HAT3.out
                  rw [show (((b, t, L), i, j, Es, N) : AskT).1.2.2.length = m from HN.out] at g2
                  go_wp2_with fail
                  refine HBB.out.mono ?_
                  rintro e w3 ⟨A9, n9, c9, rfl, hb⟩
                  clear g0 g1 g2 g3 g4 g5 g6
                  have HX4 : Hid (Below W.heap.size W w3) := HX3.out.trans (hb.mono HX3.out.size)
                  go_wp2_with (go_at_call 18; refine (num23 _ _).mono ?_; rintro e wq ⟨rfl, rfl⟩)
                  have HX := HX4.out.alloc HX4.out.size (.cells #[.int .i64 0, .int .i64 0, .slice A9 n9 c9] 26)
                  go_roundw
                  case rel => exact ⟨k + 1, by omega, by go_num, HX⟩
                  case measure => simp [intOf]; omega
      · obtain rfl : k = 8 := by omega
        go_wp2_with fail
        refine (wakes23 _).mono ?_
        rintro e w1 ⟨rfl, hb⟩
        go_wp2
        go_ret
        exact ⟨rfl, HX.out.trans (hb.mono HX.out.size)⟩
    · have h1i : ¬ (k : Int) < (xs.length : Int) := by omega
      go_wp2_with fail
      refine (wakes23 _).mono ?_
      rintro e w1 ⟨rfl, hb⟩
      go_wp2
      go_ret
      exact ⟨rfl, HX.out.trans (hb.mono HX.out.size)⟩
end Go.Proofs.Ytpdnkhdnenibgaa
