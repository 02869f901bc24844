/- The walk of the law EntriesCuts. -/
import Derived.Test.YtpdnkhdnenibgaaAskR23
import Derived.Test.YtpdnkhdnenibgaaEntT
import Derived.Test.YtpdnkhdnenibgaaEntK
set_option linter.unusedVariables false
set_option linter.unusedSimpArgs false
namespace Go.Proofs.Ytpdnkhdnenibgaa
open Go.RowKit Lec
theorem cutE_len (b t : Int) (L : List Ent) (i : Int) (h : L.length ≤ 512) : (cutE b t L i).2.2.1.length ≤ 512 := by
  unfold cutE
  split
  · show (L.take _).length ≤ 512; rw [List.length_take]; omega
  · exact Nat.zero_le _
theorem rds_drewN {w : World} {A : Option Addr} {vs : List Value} (h : Rds w A vs) (n : Nat) : Rds (w.drewN n) A vs := h
theorem Calls.q_same {P : Program} {f : FuncId} {args : Array Value} {w : World} {n : Nat} {v : Value} (h : Calls P f args (w.drewN n) fun e w' => e = .returned v ∧ w.drewN n = w') :
    Calls P f args (w.drewN n) fun e w'' => e = .returned v ∧ ∃ m, w'' = w.drewN m := h.mono fun _ _ ⟨he, hm⟩ => ⟨he, n, hm.symm⟩
theorem Calls.q_drawn {P : Program} {f : FuncId} {args : Array Value} {w : World} {n : Nat} {v : Value} (h : Calls P f args (w.drewN n) fun e w' => e = .returned v ∧ ∃ q, (w.drewN n).drewN q = w') :
    Calls P f args (w.drewN n) fun e w'' => e = .returned v ∧ ∃ m, w'' = w.drewN m := h.mono fun _ _ ⟨he, q, hm⟩ => ⟨he, n + q, by rw [← hm, World.drewN_drewN]⟩
theorem eqT (w : World) (A : Option Addr) (k c : Nat) (L : List Ent) (hr : Rds w A (entsC (L.take k))) (B : Option Addr) (d : Nat) (hl : (L.take k).length = k) (hs : Rds w B (entsC (L.take k))) (hk : k ≤ 100000) :
    Calls Try.prog 24 #[.slice A k c, .slice B k d] w fun e w' => e = .returned (.bool true) ∧ ∃ q, w.drewN q = w' := by
  have h := EqEntries_any w A k c (L.take k) hl hr B k d (L.take k) hl hs (by omega)
  rwa [show decide (L.take k = L.take k) = true from by simp] at h



set_option maxRecDepth 100000 in
set_option maxHeartbeats 4000000 in
theorem EntriesCuts_walk (W : World) (A : Option Addr) (c : Nat) (xs : List AskT) (hrow : Row Ask23 W A xs) (hlc : xs.length ≤ c) (hcm : c ≤ maxLen) (hnone : A = none → xs.length = 0 ∧ c = 0) (hby : c * 88 ≤ reachBytes) :
    Calls Try.prog 5 #[.slice A xs.length c] W fun e w' => e = .returned (.bool true) ∧ Below W.heap.size W w' := by
  have hlen : xs.length ≤ 9223372036854775807 := by unfold maxLen at hcm; omega
  have HROW := Lib.hid hrow
  clear hrow hnone hby hcm hlc
  go_enter Try.func5, Try.ntmps5
  go_wp2
  go_loopw [3] (fun i wr => ∃ k : Nat, k ≤ 8 ∧ i = .int .i64 k ∧ Hid (Below W.heap.size W wr)) (fun i _ => 8 - (intOf i).toNat)
  case atStart => exact ⟨0, by omega, rfl, Below.refl _ _⟩
  case round =>
    obtain ⟨k, hk, rfl, HX⟩ := hrel
    by_cases h1 : k < xs.length
    · have h1i : (k : Int) < (xs.length : Int) := by omega
      by_cases h8 : k < 8
      · have h8i : (k : Int) < 8 := by omega
        obtain ⟨a, B, cc, C, d, rfl, hat⟩ := ask_at (HROW.out.ext HX.out (Nat.le_refl _)) k h1
        generalize xs[k] = x at *
        obtain ⟨⟨b, t, L⟩, i, j, Es, N⟩ := x
        have HAT := Lib.hid hat
        clear hat
        generalize hok : ok23 b t L Es = u
        have HOK := Lib.hid hok
        clear hok
        obtain ⟨g0, g1, g2, g3, g4, g5, g6, _, _, _⟩ := HAT.out
        go_wp2_with fail
        clear g0 g1 g2 g3 g4 g5 g6
        refine (ok23_any wr b t B L.length cc L i j C Es.length d Es N rfl rfl HAT.out.l.small HAT.out.e.small HAT.out.l.str HAT.out.e.str HAT.out.l.rds HAT.out.e.rds u HOK.out).mono ?_
        rintro e w1 ⟨rfl, hb⟩
        replace HX : Hid (Below W.heap.size W w1) := HX.out.trans (hb.mono HX.out.size)
        replace HAT := Lib.hid (HAT.out.ext hb (Nat.le_refl _))
        clear hb
        cases u with
        | false =>
          go_wp2
          go_roundw
          case rel => exact ⟨k + 1, by omega, by go_num, HX⟩
          case measure => simp [intOf]; omega
        | true =>
          have HM := Lib.hid (ok23_may HOK.out)
          have hl2 : L.length < 200 := HM.out.2.1
          have hbb : 0 ≤ b ∧ b ≤ 1099511625728 := ⟨HM.out.1.1, HM.out.1.2.1⟩
          have hki0 : (0 : Int) ≤ (k : Int) := by omega
          go_wp2
          go_loopw [4] (fun i wr => ∃ m : Nat, m ≤ L.length + 3 ∧ i = .int .i64 (-1 + m) ∧ Hid (Below W.heap.size W wr) ∧ Hid (Below w1.heap.size w1 wr)) (fun i _ => L.length + 4 - (intOf i + 1).toNat)
          case atStart => exact ⟨0, by omega, by simp, HX, Below.refl _ _⟩
          case round =>
            obtain ⟨m, hm, rfl, HX2, HBO⟩ := hrel
            obtain ⟨z, hz⟩ : ∃ z : Int, z = -1 + (m : Int) := ⟨_, rfl⟩
            rw [← hz]
            have hz1 : -1 ≤ z := by omega
            have hz2 : z ≤ L.length + 2 := by omega
            have HZ := Lib.hid hz
            have HAT2 := Lib.hid (HAT.out.ext HBO.out (Nat.le_refl _))
            obtain ⟨g0, g1, g2, g3, g4, g5, g6, _, _, _⟩ := HAT2.out
            by_cases hml : z < L.length + 2
            · have hle : z ≤ (L.length : Int) + 1 := by omega
              have hmm : m < L.length + 3 := by omega
              clear hz
              have hwb : IntKind.i64.wrap (b + z) = b + z := wrap_id (by omega)
              have HNB : Hid (B = none → L.length = 0 ∧ cc = 0) := HAT.out.l.nil
              have HRL : Hid (L.length ≤ 100000) := by show _ ≤ _; omega
              have HLC : Hid (L.length ≤ cc) := HAT.out.l.len
              have HIB : Hid (-4398046511104 ≤ b + z ∧ b + z ≤ 4398046511104) := by show _ ∧ _; omega
              obtain ⟨rb, rt, rL, re, hres⟩ : ∃ rb rt rL re, cutE b t L (b + z) = (rb, rt, rL, re) := ⟨_, _, _, _, rfl⟩
              have HRES := Lib.hid hres
              clear hres
              clear HAT
              clear g0 g1 g2 g3 g4 g5 g6
              have HAT := HAT2
              have HX := HX2
              clear HAT2 HX2
              obtain ⟨wd, hwd⟩ : ∃ wd, wd = (wr.alloc (.cells #[.int .i64 0, .int .i64 0, .slice none 0 0] 26)).drew := ⟨_, rfl⟩
              have hbd : Below wr.heap.size wr wd := by rw [hwd]; exact (let h := (Below.refl wr.heap.size wr).alloc (Nat.le_refl _) _; ⟨h.os, h.tape, h.output, h.size, h.block⟩)
              have HATD : Hid (AskAt wd (a.add (k * 7)) ((b, t, L), i, j, Es, N) B cc C d) := HAT.out.ext hbd (Nat.le_refl _)
              have HBD : Hid (Below wr.heap.size wr wd) := hbd
              have HZD : Hid (Lg wd wr.heap.size 0 0 (.slice none 0 0)) := by rw [hwd]; have h := Lg.new wr 0 0 (.slice none 0 0) 26; exact ⟨h.c0, h.c1, h.c2, h.f0, h.f1, h.f2, h.lt⟩
              have HWD := Lib.hid hwd
              have HATE : Hid (AskAt wr.drew (a.add (k * 7)) ((b, t, L), i, j, Es, N) B cc C d) := HAT.out.ext (drawn_below wr 1) (Nat.le_refl _)
              have HBE : Hid (Below wr.heap.size wr wr.drew) := drawn_below wr 1
              have HAB : Hid ((a.add (k * 7)).block ≠ wr.heap.size) := by have h := World.block_lt_of_cell? wr _ HAT.out.g0; exact fun e => by rw [e] at h; exact Nat.lt_irrefl _ h
              clear hbd hwd
              obtain ⟨g0, g1, g2, g3, g4, g5, g6, _, _, _⟩ := HAT.out
              go_upto_region 8 with (fail)
              go_cut [5, 6] (fun s4 s5 wx => ∃ (pp : Nat) (AA : Option Addr) (ca : Nat), s4 = .pointer (some ⟨pp, 0, none⟩) ∧ s5 = .int .i64 re ∧ Hid (Below W.heap.size W wx) ∧ Hid (AskAt wx (a.add (k * 7)) ((b, t, L), i, j, Es, N) B cc C d) ∧ Hid (Lg wx pp rb rt (.slice AA rL.length ca)) ∧ Hid (Rds wx AA (entsC rL)) ∧ Hid (Below w1.heap.size w1 wx))
              case first =>
                go_region_held3 (fun w' => w'.cell? (a.add (k * 7)) = some (.int .i64 b) ∧ w'.cell? ⟨(a.add (k * 7)).block, (a.add (k * 7)).off + 1, none⟩ = some (.int .i64 t) ∧ w'.cell? ⟨(a.add (k * 7)).block, (a.add (k * 7)).off + 2, none⟩ = some (.slice B L.length cc) ∧ w'.cell? ⟨(a.add (k * 7)).block, (a.add (k * 7)).off + 5, none⟩ = some (.slice C Es.length d))
                  (first | (with_reducible exact ⟨g0, g1, g2, g5⟩) | (with_reducible exact ⟨(cell_put (a := a.add (k * 7)) HAB.out).trans g0, (cell_put (a := ⟨(a.add (k * 7)).block, (a.add (k * 7)).off + 1, none⟩) HAB.out).trans g1, (cell_put (a := ⟨(a.add (k * 7)).block, (a.add (k * 7)).off + 2, none⟩) HAB.out).trans g2, (cell_put (a := ⟨(a.add (k * 7)).block, (a.add (k * 7)).off + 5, none⟩) HAB.out).trans g5⟩) | go_keep)
                  (first | (go_at_call 23; rw [← HWD.out]; with_reducible refine (Cut_any wd b t B L.length cc L rfl HRL.out HLC.out HNB.out HATD.out.l.rds (b + z) HIB.out).mono ?_
                            rw [HRES.out]; clear g0 g1 g2 g3 g4 g5 g6
                            rintro e w2 ⟨v, rfl, hown, hb⟩
                            obtain ⟨A2, c2, rfl, p1, p2, p3, p4, p5⟩ := own_rds hown
                            have HO2 := Lib.hid p4
                            have HB2 : Hid (Below wr.heap.size wr w2) := HBD.out.trans (hb.mono HBD.out.size)
                            have HAT2 := Lib.hid (HATD.out.ext hb (Nat.le_refl _))
                            have HOB : Hid (∀ a, A2 = some a → a.block ≠ wr.heap.size) := fun a ha => by obtain ⟨g, rfl, h1, _⟩ := p5 a ha; have := HZD.out.lt; exact fun e => by rw [← e] at this; exact absurd h1 (Nat.not_le_of_lt this)
                            have HZ2 := Lib.hid (HZD.out.ext hb (Nat.le_refl _))
                            clear p1 p2 p3 p4 p5 hown hb
                            obtain ⟨z0, z1, z2, y0, y1, y2, _⟩ := HZ2.out
                            obtain ⟨g0, g1, g2, g3, g4, g5, g6, _, _, _⟩ := HAT2.out)
                         | (go_at_call 23; with_reducible refine (Cut_any wr.drew b t B L.length cc L rfl HRL.out HLC.out HNB.out HATE.out.l.rds (b + z) HIB.out).mono ?_
                            rw [HRES.out]; clear g0 g1 g2 g3 g4 g5 g6
                            rintro e w2 ⟨v, rfl, hown, hb⟩
                            obtain ⟨A2, c2, rfl, p1, p2, p3, p4, p5⟩ := own_rds hown
                            have HO2 := Lib.hid p4
                            have HB2 : Hid (Below wr.heap.size wr w2) := HBE.out.trans (hb.mono HBE.out.size)
                            have HAT2 := Lib.hid (HATE.out.ext hb (Nat.le_refl _))
                            clear p1 p2 p3 p4 p5 hown hb
                            obtain ⟨g0, g1, g2, g3, g4, g5, g6, _, _, _⟩ := HAT2.out))
                · go_wp2_with fail
                  go_meet
                  have hb3 : Below wr.heap.size wr (w2.alloc (.cells #[.int .i64 rb, .int .i64 rt, .slice A2 rL.length c2] 26)) := HB2.out.alloc HB2.out.size _
                  exact ⟨_, A2, c2, rfl, rfl, HX.out.trans (hb3.mono HX.out.size), HAT.out.ext hb3 (Nat.le_refl _), Lg.new w2 rb rt _ _, HO2.out.ext ((Below.refl w2.heap.size w2).alloc (Nat.le_refl _) _) (Nat.le_refl _), HBO.out.trans (hb3.mono HBO.out.size)⟩
                · go_wp2_with fail
                  go_meet
                  have hb3 : Below wr.heap.size wr (put3 w2 wr.heap.size rb rt (.slice A2 rL.length c2)) := below_put HB2.out (Nat.le_refl _) _ _ _
                  exact ⟨_, A2, c2, rfl, rfl, HX.out.trans (hb3.mono HX.out.size), HAT.out.ext hb3 (Nat.le_refl _), HZ2.out.put rb rt _, rds_put HO2.out HOB.out , HBO.out.trans (hb3.mono HBO.out.size)⟩
              case rest =>
                clear HX HAT HATD HBD HZD HWD HATE HBE HAB g0 g1 g2 g3 g4 g5 g6 hwb HBO
                obtain ⟨p, A3, c3, rfl, rfl, HX, HAT, HP, HOX, HB3⟩ := hcut
                by_cases hin : 0 ≤ z ∧ z ≤ L.length
                · obtain ⟨kk, rfl⟩ : ∃ kk : Nat, z = kk := ⟨z.toNat, by omega⟩
                  have hkk : kk ≤ L.length := by omega
                  have hres : cutE b t L (b + (kk : Int)) = (b, t, L.take kk, 0) := by unfold cutE; rw [if_pos ⟨HM.out.1, by omega, by omega⟩, show (b + (kk : Int) - b).toNat = kk by omega]
                  rw [HRES.out] at hres
                  obtain ⟨rfl, rfl, rfl, rfl⟩ : rb = b ∧ rt = t ∧ rL = L.take kk ∧ re = 0 := by
                    injection hres with h1 h2; injection h2 with h2 h3; injection h3 with h3 h4; exact ⟨h1, h2, h3, h4⟩
                  clear hres HRES
                  have hlk : (L.take kk).length = kk := by rw [List.length_take]; omega
                  rw [hlk] at HP
                  have HLK := Lib.hid hlk
                  clear hlk
                  have hcc : (cc = 0 ∧ kk = 0) ∨ ∃ a', B = some a' ∧ ¬ cc = 0 := by
                    have h1 := HLC.out
                    cases hB : B with
                    | none => have := HNB.out hB; exact .inl ⟨this.2, by omega⟩
                    | some a' => by_cases h : cc = 0
                                 · exact .inl ⟨h, by omega⟩
                                 · exact .inr ⟨a', rfl, h⟩
                  have hkki0 : (0 : Int) ≤ (kk : Int) := by omega
                  have hkkic : (kk : Int) ≤ (cc : Int) := by have := HLC.out; omega
                  have hk1 : ¬ (kk : Int) < 0 := by omega
                  have hk2 : ¬ (L.length : Int) < (kk : Int) := by omega
                  have hbb2 : (rb != rb) = false := by simp
                  have htt2 : (rt != rt) = false := by simp
                  have HK9 : Hid (kk ≤ 100000) := by show _ ≤ _; omega
                  have HRT := Lib.hid (rds_take HAT.out.l.rds kk)
                  rcases hcc with ⟨rfl, rfl⟩ | ⟨a', rfl, hcz⟩
                  ·
                    obtain ⟨g0, g1, g2, g3, g4, g5, g6, _, _, _⟩ := HAT.out
                    obtain ⟨q0, q1, q2, _, _, _, _⟩ := HP.out
                    go_wp2
                    go_quiet (first
                      | (go_at_call 18; first | exact Calls.q_same (num23 _ _) | exact Calls.quiet_of (Calls.q_same (n := 0) (num23 _ _)))
                      | (go_at_call 24; first | exact Calls.q_drawn (eqT _ A3 0 c3 L (rds_drewN HOX.out _) B 0 HLK.out (rds_drewN HRT.out _) HK9.out)))
                    clear g0 g1 g2 g3 g4 g5 g6
                    clear q0 q1 q2
                    have hbd : Below wc.heap.size wc (wc.drewN nq) := drawn_below wc nq
                    replace HX := Lib.hid (HX.out.trans (hbd.mono HX.out.size))
                    replace HB3 := Lib.hid (HB3.out.trans (hbd.mono HB3.out.size))
                    clear hbd HP HOX HAT HRT
                    go_wp2
                    go_roundw
                    case rel => exact ⟨m + 1, by omega, by have := HZ.out; exact congrArg (Value.int .i64) (by omega), HX, HB3⟩
                    case measure => have := HZ.out; (simp [intOf]) <;> omega
                  ·
                    obtain ⟨g0, g1, g2, g3, g4, g5, g6, _, _, _⟩ := HAT.out
                    obtain ⟨q0, q1, q2, _, _, _, _⟩ := HP.out
                    go_wp2
                    go_quiet (first
                      | (go_at_call 18; first | exact Calls.q_same (num23 _ _) | exact Calls.quiet_of (Calls.q_same (n := 0) (num23 _ _)))
                      | (go_at_call 24; first | exact Calls.q_drawn (eqT _ A3 kk c3 L (rds_drewN HOX.out _) (some a') cc HLK.out (rds_drewN HRT.out _) HK9.out)))
                    clear g0 g1 g2 g3 g4 g5 g6
                    clear q0 q1 q2
                    have hbd : Below wc.heap.size wc (wc.drewN nq) := drawn_below wc nq
                    replace HX := Lib.hid (HX.out.trans (hbd.mono HX.out.size))
                    replace HB3 := Lib.hid (HB3.out.trans (hbd.mono HB3.out.size))
                    clear hbd HP HOX HAT HRT
                    go_wp2
                    go_roundw
                    case rel => exact ⟨m + 1, by omega, by have := HZ.out; exact congrArg (Value.int .i64) (by omega), HX, HB3⟩
                    case measure => have := HZ.out; (simp [intOf]) <;> omega
                · have hres : cutE b t L (b + z) = (0, 0, [], 1) := by unfold cutE; rw [if_neg (by omega)]
                  rw [HRES.out] at hres
                  obtain ⟨rfl, rfl, rfl, rfl⟩ : rb = 0 ∧ rt = 0 ∧ rL = [] ∧ re = 1 := by
                    injection hres with h1 h2; injection h2 with h2 h3; injection h3 with h3 h4; exact ⟨h1, h2, h3, h4⟩
                  clear hres HRES
                  have hout : z < 0 ∨ (L.length : Int) < z := by omega
                  obtain ⟨g0, g1, g2, g3, g4, g5, g6, _, _, _⟩ := HAT.out
                  obtain ⟨q0, q1, q2, _, _, _, _⟩ := HP.out
                  rcases hout with ho | ho
                  all_goals
                    go_wp2_with (go_at_call 18; refine (num23 _ _).mono ?_; rintro e wq ⟨rfl, rfl⟩)
                    clear g0 g1 g2 g3 g4 g5 g6
                    clear q0 q1 q2
                    refine (EqLog_any _ 0 0 A3 0 c3 [] rfl (Rds.nil _ _) 0 0 none 0 0 [] rfl (Rds.nil _ _) (by omega) true (by simp)).mono ?_
                    rintro e w9 ⟨rfl, hb⟩
                    replace HX := Lib.hid (HX.out.trans (hb.mono HX.out.size))
                    replace HB3 := Lib.hid (HB3.out.trans (hb.mono HB3.out.size))
                    clear hb HP HOX HAT
                    go_wp2
                    go_roundw
                    case rel => exact ⟨m + 1, by omega, by have := HZ.out; exact congrArg (Value.int .i64) (by omega), HX, HB3⟩
                    case measure => have := HZ.out; (simp [intOf]) <;> omega
            · have hle : ¬ z ≤ (L.length : Int) + 1 := by omega
              go_wp2
              have HX := HX2
              go_roundw
              case rel => exact ⟨k + 1, by omega, by go_num, HX⟩
              case measure => simp [intOf]; omega
      · obtain rfl : k = 8 := by omega
        go_wp2_with fail
        refine (wakes23 _).mono ?_
        rintro e w1 ⟨rfl, hb⟩
        go_wp2
        go_ret
        exact ⟨rfl, HX.out.trans (hb.mono HX.out.size)⟩
    · have h1i : ¬ (k : Int) < (xs.length : Int) := by omega
      go_wp2_with fail
      refine (wakes23 _).mono ?_
      rintro e w1 ⟨rfl, hb⟩
      go_wp2
      go_ret
      exact ⟨rfl, HX.out.trans (hb.mono HX.out.size)⟩
end Go.Proofs.Ytpdnkhdnenibgaa
