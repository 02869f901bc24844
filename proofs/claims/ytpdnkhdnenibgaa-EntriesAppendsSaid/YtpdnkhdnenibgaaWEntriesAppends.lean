/- The walk of the law EntriesAppends. -/
import Derived.Test.YtpdnkhdnenibgaaAskR23
import Derived.Test.YtpdnkhdnenibgaaEntT
set_option linter.unusedVariables false
set_option linter.unusedSimpArgs false
namespace Go.Proofs.Ytpdnkhdnenibgaa
open Go.RowKit Lec
theorem appE_len (b t : Int) (L es : List Ent) : (appE b t L es).2.2.1.length ≤ 512 := by
  unfold appE
  split
  · split
    · split
      · show (L ++ es).length ≤ 512; rw [List.length_append]; assumption
      · exact Nat.zero_le _
    · exact Nat.zero_le _
  · exact Nat.zero_le _


set_option maxRecDepth 100000 in
set_option maxHeartbeats 20000000 in
theorem EntriesAppends_walk (W : World) (A : Option Addr) (c : Nat) (xs : List AskT) (hrow : Row Ask23 W A xs) (hlc : xs.length ≤ c) (hcm : c ≤ maxLen) (hnone : A = none → xs.length = 0 ∧ c = 0) (hby : c * 88 ≤ reachBytes) :
    Calls Try.prog 3 #[.slice A xs.length c] W fun e w' => e = .returned (.bool true) ∧ Below W.heap.size W w' := by
  have hlen : xs.length ≤ 9223372036854775807 := by unfold maxLen at hcm; omega
  have HROW := Lib.hid hrow
  clear hrow hnone hby hcm hlc
  go_enter Try.func3, Try.ntmps3
  go_wp2
  go_loopw [3] (fun i wr => ∃ k : Nat, k ≤ 8 ∧ i = .int .i64 k ∧ Hid (Below W.heap.size W wr)) (fun i _ => 8 - (intOf i).toNat)
  case atStart => exact ⟨0, by omega, rfl, Below.refl _ _⟩
  case round =>
    obtain ⟨k, hk, rfl, HX⟩ := hrel
    by_cases h1 : k < xs.length
    · have h1i : (k : Int) < (xs.length : Int) := by omega
      by_cases h8 : k < 8
      · have h8i : (k : Int) < 8 := by omega
        obtain ⟨a, B, cc, C, d, rfl, hat⟩ := ask_at (HROW.out.ext HX.out (Nat.le_refl _)) k h1
        generalize xs[k] = x at *
        obtain ⟨⟨b, t, L⟩, i, j, Es, N⟩ := x
        have HAT := Lib.hid hat
        clear hat
        generalize hok : ok23 b t L Es = u
        have HOK := Lib.hid hok
        clear hok
        obtain ⟨g0, g1, g2, g3, g4, g5, g6, _, _, _⟩ := HAT.out
        go_wp2_with fail
        clear g0 g1 g2 g3 g4 g5 g6
        refine (ok23_any wr b t B L.length cc L i j C Es.length d Es N rfl rfl HAT.out.l.small HAT.out.e.small HAT.out.l.str HAT.out.e.str HAT.out.l.rds HAT.out.e.rds u HOK.out).mono ?_
        rintro e w1 ⟨rfl, hb⟩
        replace HX : Hid (Below W.heap.size W w1) := HX.out.trans (hb.mono HX.out.size)
        replace HAT := Lib.hid (HAT.out.ext hb (Nat.le_refl _))
        clear hb
        cases u with
        | false =>
          go_wp2
          go_roundw
          case rel => exact ⟨k + 1, by omega, by go_num, HX⟩
          case measure => simp [intOf]; omega
        | true =>
          have HM := Lib.hid (ok23_may HOK.out)
          have hl2 : L.length < 200 := HM.out.2.1
          have he2 : Es.length ≤ 600 := HM.out.2.2
          have hki0 : (0 : Int) ≤ (k : Int) := by omega
          have HNB : Hid (B = none → L.length = 0 ∧ cc = 0) := HAT.out.l.nil
          have HNC : Hid (C = none → Es.length = 0 ∧ d = 0) := HAT.out.e.nil
          have HRL : Hid (L.length ≤ 100000) := by show _ ≤ _; omega
          have HRE : Hid (Es.length ≤ 100000) := by show _ ≤ _; omega
          obtain ⟨rb, rt, rL, re, hres⟩ : ∃ rb rt rL re, appE b t L Es = (rb, rt, rL, re) := ⟨_, _, _, _, rfl⟩
          have hlr : rL.length ≤ 512 := by have := appE_len b t L Es; rw [hres] at this; exact this
          have HRES := Lib.hid hres
          have HRES2 : Hid (rappE b t L Es = (rb, rt, rL, re)) := by show _ = _; rw [← rappE_eq HM.out.1]; exact hres
          clear hres
          obtain ⟨wd, hwd⟩ : ∃ wd, wd = (w1.alloc (.cells #[.int .i64 0, .int .i64 0, .slice none 0 0] 26)).drew := ⟨_, rfl⟩
          have hbd : Below w1.heap.size w1 wd := by rw [hwd]; exact (let h := (Below.refl w1.heap.size w1).alloc (Nat.le_refl _) _; ⟨h.os, h.tape, h.output, h.size, h.block⟩)
          have HATD : Hid (AskAt wd (a.add (k * 7)) ((b, t, L), i, j, Es, N) B cc C d) := HAT.out.ext hbd (Nat.le_refl _)
          have HBD : Hid (Below w1.heap.size w1 wd) := hbd
          have HZD : Hid (Lg wd w1.heap.size 0 0 (.slice none 0 0)) := by rw [hwd]; have h := Lg.new w1 0 0 (.slice none 0 0) 26; exact ⟨h.c0, h.c1, h.c2, h.f0, h.f1, h.f2, h.lt⟩
          have HWD := Lib.hid hwd
          have HATE : Hid (AskAt w1.drew (a.add (k * 7)) ((b, t, L), i, j, Es, N) B cc C d) := HAT.out.ext (drawn_below w1 1) (Nat.le_refl _)
          have HBE : Hid (Below w1.heap.size w1 w1.drew) := drawn_below w1 1
          have HAB : Hid ((a.add (k * 7)).block ≠ w1.heap.size) := by have h := World.block_lt_of_cell? w1 _ HAT.out.g0; exact fun e => by rw [e] at h; exact Nat.lt_irrefl _ h
          clear hbd hwd
          obtain ⟨g0, g1, g2, g3, g4, g5, g6, _, _, _⟩ := HAT.out
          go_upto_region 5 with (fail)
          go_cut [4, 5] (fun s4 s5 wx => ∃ (pp : Nat) (AA : Option Addr) (ca : Nat), s4 = .pointer (some ⟨pp, 0, none⟩) ∧ s5 = .int .i64 re ∧ Hid (Below W.heap.size W wx) ∧ Hid (AskAt wx (a.add (k * 7)) ((b, t, L), i, j, Es, N) B cc C d) ∧ Hid (Lg wx pp rb rt (.slice AA rL.length ca)) ∧ Hid (Rds wx AA (entsC rL)))
          case first =>
            go_region_held3 (fun w' => w'.cell? (a.add (k * 7)) = some (.int .i64 b) ∧ w'.cell? ⟨(a.add (k * 7)).block, (a.add (k * 7)).off + 1, none⟩ = some (.int .i64 t) ∧ w'.cell? ⟨(a.add (k * 7)).block, (a.add (k * 7)).off + 2, none⟩ = some (.slice B L.length cc) ∧ w'.cell? ⟨(a.add (k * 7)).block, (a.add (k * 7)).off + 5, none⟩ = some (.slice C Es.length d))
              (first | (with_reducible exact ⟨g0, g1, g2, g5⟩) | (with_reducible exact ⟨(cell_put (a := a.add (k * 7)) HAB.out).trans g0, (cell_put (a := ⟨(a.add (k * 7)).block, (a.add (k * 7)).off + 1, none⟩) HAB.out).trans g1, (cell_put (a := ⟨(a.add (k * 7)).block, (a.add (k * 7)).off + 2, none⟩) HAB.out).trans g2, (cell_put (a := ⟨(a.add (k * 7)).block, (a.add (k * 7)).off + 5, none⟩) HAB.out).trans g5⟩) | go_keep)
              (first | (go_at_call 16; rw [← HWD.out]; with_reducible refine (Append_any wd b t B L.length cc L rfl HRL.out HNB.out HATD.out.l.rds C Es.length d Es rfl HRE.out HNC.out HATD.out.e.rds).mono ?_
                        rw [HRES.out]; clear g0 g1 g2 g3 g4 g5 g6
                        rintro e w2 ⟨v, rfl, hown, hb⟩
                        obtain ⟨A2, c2, rfl, p1, p2, p3, p4, p5⟩ := own_rds hown
                        have HO2 := Lib.hid p4
                        have HB2 : Hid (Below w1.heap.size w1 w2) := HBD.out.trans (hb.mono HBD.out.size)
                        have HAT2 := Lib.hid (HATD.out.ext hb (Nat.le_refl _))
                        have HOB : Hid (∀ a, A2 = some a → a.block ≠ w1.heap.size) := fun a ha => by obtain ⟨g, rfl, h1, _⟩ := p5 a ha; have := HZD.out.lt; exact fun e => by rw [← e] at this; exact absurd h1 (Nat.not_le_of_lt this)
                        have HZ2 := Lib.hid (HZD.out.ext hb (Nat.le_refl _))
                        clear p1 p2 p3 p4 p5 hown hb
                        obtain ⟨z0, z1, z2, y0, y1, y2, _⟩ := HZ2.out
                        obtain ⟨g0, g1, g2, g3, g4, g5, g6, _, _, _⟩ := HAT2.out)
                     | (go_at_call 16; with_reducible refine (Append_any w1.drew b t B L.length cc L rfl HRL.out HNB.out HATE.out.l.rds C Es.length d Es rfl HRE.out HNC.out HATE.out.e.rds).mono ?_
                        rw [HRES.out]; clear g0 g1 g2 g3 g4 g5 g6
                        rintro e w2 ⟨v, rfl, hown, hb⟩
                        obtain ⟨A2, c2, rfl, p1, p2, p3, p4, p5⟩ := own_rds hown
                        have HO2 := Lib.hid p4
                        have HB2 : Hid (Below w1.heap.size w1 w2) := HBE.out.trans (hb.mono HBE.out.size)
                        have HAT2 := Lib.hid (HATE.out.ext hb (Nat.le_refl _))
                        clear p1 p2 p3 p4 p5 hown hb
                        obtain ⟨g0, g1, g2, g3, g4, g5, g6, _, _, _⟩ := HAT2.out))
            · go_wp2_with fail
              go_meet
              have hb3 : Below w1.heap.size w1 (w2.alloc (.cells #[.int .i64 rb, .int .i64 rt, .slice A2 rL.length c2] 26)) := HB2.out.alloc HB2.out.size _
              exact ⟨_, A2, c2, rfl, rfl, HX.out.trans (hb3.mono HX.out.size), HAT.out.ext hb3 (Nat.le_refl _), Lg.new w2 rb rt _ _, HO2.out.ext ((Below.refl w2.heap.size w2).alloc (Nat.le_refl _) _) (Nat.le_refl _)⟩
            · go_wp2_with fail
              go_meet
              have hb3 : Below w1.heap.size w1 (put3 w2 w1.heap.size rb rt (.slice A2 rL.length c2)) := below_put HB2.out (Nat.le_refl _) _ _ _
              exact ⟨_, A2, c2, rfl, rfl, HX.out.trans (hb3.mono HX.out.size), HAT.out.ext hb3 (Nat.le_refl _), HZ2.out.put rb rt _, rds_put HO2.out HOB.out ⟩
          case rest =>
            clear HX HAT HATD HBD HZD HWD HATE HBE HAB g0 g1 g2 g3 g4 g5 g6
            obtain ⟨p, A3, c3, rfl, rfl, HX, HAT, HP, HOX⟩ := hcut
            obtain ⟨wd, hwd⟩ : ∃ wd, wd = (wc.alloc (.cells #[.int .i64 0, .int .i64 0, .slice none 0 0] 26)).drew := ⟨_, rfl⟩
            have hbd : Below wc.heap.size wc wd := by rw [hwd]; exact (let h := (Below.refl wc.heap.size wc).alloc (Nat.le_refl _) _; ⟨h.os, h.tape, h.output, h.size, h.block⟩)
            have HATD : Hid (AskAt wd (a.add (k * 7)) ((b, t, L), i, j, Es, N) B cc C d) := HAT.out.ext hbd (Nat.le_refl _)
            have HBD : Hid (Below wc.heap.size wc wd) := hbd
            have HZD : Hid (Lg wd wc.heap.size 0 0 (.slice none 0 0)) := by rw [hwd]; have h := Lg.new wc 0 0 (.slice none 0 0) 26; exact ⟨h.c0, h.c1, h.c2, h.f0, h.f1, h.f2, h.lt⟩
            have HWD := Lib.hid hwd
            have HATE : Hid (AskAt wc.drew (a.add (k * 7)) ((b, t, L), i, j, Es, N) B cc C d) := HAT.out.ext (drawn_below wc 1) (Nat.le_refl _)
            have HBE : Hid (Below wc.heap.size wc wc.drew) := drawn_below wc 1
            have HAB : Hid ((a.add (k * 7)).block ≠ wc.heap.size) := by have h := World.block_lt_of_cell? wc _ HAT.out.g0; exact fun e => by rw [e] at h; exact Nat.lt_irrefl _ h
            clear hbd hwd
            obtain ⟨g0, g1, g2, g3, g4, g5, g6, _, _, _⟩ := HAT.out
            go_upto_region 6 with (fail)
            go_cut [6, 7] (fun s4 s5 wx => ∃ (pp : Nat) (AA : Option Addr) (ca : Nat), s4 = .pointer (some ⟨pp, 0, none⟩) ∧ s5 = .int .i64 re ∧ Hid (Below W.heap.size W wx) ∧ Hid (AskAt wx (a.add (k * 7)) ((b, t, L), i, j, Es, N) B cc C d) ∧ Hid (Lg wx pp rb rt (.slice AA rL.length ca)) ∧ Hid (Rds wx AA (entsC rL)) ∧ Hid (Lg wx p rb rt (.slice A3 rL.length c3)) ∧ Hid (Rds wx A3 (entsC rL)))
            case first =>
              go_region_held3 (fun w' => w'.cell? (a.add (k * 7)) = some (.int .i64 b) ∧ w'.cell? ⟨(a.add (k * 7)).block, (a.add (k * 7)).off + 1, none⟩ = some (.int .i64 t) ∧ w'.cell? ⟨(a.add (k * 7)).block, (a.add (k * 7)).off + 2, none⟩ = some (.slice B L.length cc) ∧ w'.cell? ⟨(a.add (k * 7)).block, (a.add (k * 7)).off + 5, none⟩ = some (.slice C Es.length d))
                (first | (with_reducible exact ⟨g0, g1, g2, g5⟩) | (with_reducible exact ⟨(cell_put (a := a.add (k * 7)) HAB.out).trans g0, (cell_put (a := ⟨(a.add (k * 7)).block, (a.add (k * 7)).off + 1, none⟩) HAB.out).trans g1, (cell_put (a := ⟨(a.add (k * 7)).block, (a.add (k * 7)).off + 2, none⟩) HAB.out).trans g2, (cell_put (a := ⟨(a.add (k * 7)).block, (a.add (k * 7)).off + 5, none⟩) HAB.out).trans g5⟩) | go_keep)
                (first | (go_at_call 17; rw [← HWD.out]; with_reducible refine (rAppend_any wd b t B L.length cc L rfl HRL.out HATD.out.l.rds C Es.length d Es rfl HRE.out HNC.out HATD.out.e.rds HM.out.1).mono ?_
                          rw [HRES2.out]; clear g0 g1 g2 g3 g4 g5 g6
                          rintro e w2 ⟨v, rfl, hown, hb⟩
                          obtain ⟨A2, c2, rfl, p1, p2, p3, p4, p5⟩ := own_rds hown
                          have HO2 := Lib.hid p4
                          have HB2 : Hid (Below wc.heap.size wc w2) := HBD.out.trans (hb.mono HBD.out.size)
                          have HAT2 := Lib.hid (HATD.out.ext hb (Nat.le_refl _))
                          have HOB : Hid (∀ a, A2 = some a → a.block ≠ wc.heap.size) := fun a ha => by obtain ⟨g, rfl, h1, _⟩ := p5 a ha; have := HZD.out.lt; exact fun e => by rw [← e] at this; exact absurd h1 (Nat.not_le_of_lt this)
                          have HZ2 := Lib.hid (HZD.out.ext hb (Nat.le_refl _))
                          clear p1 p2 p3 p4 p5 hown hb
                          obtain ⟨z0, z1, z2, y0, y1, y2, _⟩ := HZ2.out
                          obtain ⟨g0, g1, g2, g3, g4, g5, g6, _, _, _⟩ := HAT2.out)
                       | (go_at_call 17; with_reducible refine (rAppend_any wc.drew b t B L.length cc L rfl HRL.out HATE.out.l.rds C Es.length d Es rfl HRE.out HNC.out HATE.out.e.rds HM.out.1).mono ?_
                          rw [HRES2.out]; clear g0 g1 g2 g3 g4 g5 g6
                          rintro e w2 ⟨v, rfl, hown, hb⟩
                          obtain ⟨A2, c2, rfl, p1, p2, p3, p4, p5⟩ := own_rds hown
                          have HO2 := Lib.hid p4
                          have HB2 : Hid (Below wc.heap.size wc w2) := HBE.out.trans (hb.mono HBE.out.size)
                          have HAT2 := Lib.hid (HATE.out.ext hb (Nat.le_refl _))
                          clear p1 p2 p3 p4 p5 hown hb
                          obtain ⟨g0, g1, g2, g3, g4, g5, g6, _, _, _⟩ := HAT2.out))
              · go_wp2_with fail
                go_meet
                have hb3 : Below wc.heap.size wc (w2.alloc (.cells #[.int .i64 rb, .int .i64 rt, .slice A2 rL.length c2] 26)) := HB2.out.alloc HB2.out.size _
                exact ⟨_, A2, c2, rfl, rfl, HX.out.trans (hb3.mono HX.out.size), HAT.out.ext hb3 (Nat.le_refl _), Lg.new w2 rb rt _ _, HO2.out.ext ((Below.refl w2.heap.size w2).alloc (Nat.le_refl _) _) (Nat.le_refl _), HP.out.ext hb3 (Nat.le_refl _), HOX.out.ext hb3 (Nat.le_refl _)⟩
              · go_wp2_with fail
                go_meet
                have hb3 : Below wc.heap.size wc (put3 w2 wc.heap.size rb rt (.slice A2 rL.length c2)) := below_put HB2.out (Nat.le_refl _) _ _ _
                exact ⟨_, A2, c2, rfl, rfl, HX.out.trans (hb3.mono HX.out.size), HAT.out.ext hb3 (Nat.le_refl _), HZ2.out.put rb rt _, rds_put HO2.out HOB.out , HP.out.ext hb3 (Nat.le_refl _), HOX.out.ext hb3 (Nat.le_refl _)⟩
            case rest =>
              clear HX HAT HATD HBD HZD HWD HATE HBE HAB g0 g1 g2 g3 g4 g5 g6 HP HOX
              obtain ⟨p2, A4, c4, rfl, rfl, HX, HAT, HP2, HO4, HP, HOX⟩ := hcut
              clear HAT HRES HRES2 HM HOK HNB HNC HRL HRE
              have hee : (re != re) = false := by simp
              obtain ⟨k0, k1, k2, _, _, _, _⟩ := HP.out
              obtain ⟨q0, q1, q2, _, _, _, _⟩ := HP2.out
              go_wp2_with (go_at_call 18; refine (num23 _ _).mono ?_; rintro e wq ⟨rfl, rfl⟩)
              clear k0 k1 k2 q0 q1 q2
              refine (EqLog_any _ rb rt A3 rL.length c3 rL rfl HOX.out rb rt A4 rL.length c4 rL rfl HO4.out (by omega) true (by simp)).mono ?_
              rintro e w9 ⟨rfl, hb⟩
              replace HX := Lib.hid (HX.out.trans (hb.mono HX.out.size))
              clear hb HP HP2 HOX HO4
              go_wp2
              go_roundw
              case rel => exact ⟨k + 1, by omega, by go_num, HX⟩
              case measure => simp [intOf]; omega
      · obtain rfl : k = 8 := by omega
        go_wp2_with fail
        refine (wakes23 _).mono ?_
        rintro e w1 ⟨rfl, hb⟩
        go_wp2
        go_ret
        exact ⟨rfl, HX.out.trans (hb.mono HX.out.size)⟩
    · have h1i : ¬ (k : Int) < (xs.length : Int) := by omega
      go_wp2_with fail
      refine (wakes23 _).mono ?_
      rintro e w1 ⟨rfl, hb⟩
      go_wp2
      go_ret
      exact ⟨rfl, HX.out.trans (hb.mono HX.out.size)⟩
end Go.Proofs.Ytpdnkhdnenibgaa
