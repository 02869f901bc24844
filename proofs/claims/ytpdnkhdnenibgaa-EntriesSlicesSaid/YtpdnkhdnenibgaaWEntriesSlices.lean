/- The walk of the law EntriesSlices. -/
import Derived.Test.YtpdnkhdnenibgaaAskR23
import Derived.Test.YtpdnkhdnenibgaaEntS
set_option linter.unusedVariables false
set_option linter.unusedSimpArgs false
namespace Lec
theorem sliceE_in {b t : Int} {L : List Ent} (h : mayL b t L) {p : Nat} (hp : p ≤ L.length) (n : Nat) : sliceE b t L (b + 1 + p) n = ((L.drop p).take n, 0) := by
  unfold sliceE
  rw [if_pos h, if_pos (by omega), if_pos (by omega), show (b + 1 + (p : Int) - b - 1).toNat = p by omega]; rfl
theorem sliceE_in' {b t : Int} {L : List Ent} (h : mayL b t L) {p : Nat} (hp : p ≤ L.length) (n : Nat) (z : Int) (hz : z = n) : sliceE b t L (b + 1 + p) z = ((L.drop p).take n, 0) := by
  subst hz; exact sliceE_in h hp n
theorem sliceE_out {b t : Int} {L : List Ent} (h : mayL b t L) {i : Int} (hi : i ≤ b ∨ b + L.length + 1 < i) (N : Int) : sliceE b t L i N = ([], 3) := by
  unfold sliceE
  rw [if_pos h, if_neg (by omega)]
theorem tmod4 (x : Int) : -3 ≤ x.tmod 4 ∧ x.tmod 4 ≤ 3 := by
  have h1 := Int.tmod_lt_of_pos x (show (0:Int) < 4 by decide)
  have h2 := Int.lt_tmod_of_pos x (show (0:Int) < 4 by decide)
  omega
theorem takeE_len (D : List Ent) (n : Nat) : D.take (D.take n).length = D.take n := by
  rw [List.length_take]
  rcases Nat.le_total n D.length with h | h
  · rw [Nat.min_eq_left h]
  · rw [Nat.min_eq_right h, List.take_of_length_le (Nat.le_refl _), List.take_of_length_le h]
theorem take_more (L : List Ent) (p n : Nat) : entsC (L.take (p + n)) = entsC (L.take p) ++ entsC ((L.drop p).take n) := by
  rw [← entsC_app, List.take_add]
end Lec
namespace Go.Proofs.Ytpdnkhdnenibgaa
open Go.RowKit Lec


set_option maxRecDepth 100000 in
set_option maxHeartbeats 4000000 in
theorem EntriesSlices_walk (W : World) (A : Option Addr) (c : Nat) (xs : List AskT) (hrow : Row Ask23 W A xs) (hlc : xs.length ≤ c) (hcm : c ≤ maxLen) (hnone : A = none → xs.length = 0 ∧ c = 0) (hby : c * 88 ≤ reachBytes) :
    Calls Try.prog 8 #[.slice A xs.length c] W fun e w' => e = .returned (.bool true) ∧ Below W.heap.size W w' := by
  have hlen : xs.length ≤ 9223372036854775807 := by unfold maxLen at hcm; omega
  have HROW := Lib.hid hrow
  clear hrow hnone hby hcm hlc
  go_enter Try.func8, Try.ntmps8
  go_wp2
  go_loopw [3] (fun i wr => ∃ k : Nat, k ≤ 8 ∧ i = .int .i64 k ∧ Hid (Below W.heap.size W wr)) (fun i _ => 8 - (intOf i).toNat)
  case atStart => exact ⟨0, by omega, rfl, Below.refl _ _⟩
  case round =>
    obtain ⟨k, hk, rfl, HX⟩ := hrel
    by_cases h1 : k < xs.length
    · have h1i : (k : Int) < (xs.length : Int) := by omega
      by_cases h8 : k < 8
      · have h8i : (k : Int) < 8 := by omega
        obtain ⟨a, B, cc, C, d, rfl, hat⟩ := ask_at (HROW.out.ext HX.out (Nat.le_refl _)) k h1
        generalize xs[k] = x at *
        obtain ⟨⟨b, t, L⟩, i, j, Es, N⟩ := x
        have HAT := Lib.hid hat
        clear hat
        generalize hok : ok23 b t L Es = u
        have HOK := Lib.hid hok
        clear hok
        obtain ⟨g0, g1, g2, g3, g4, g5, g6, _, _, _⟩ := HAT.out
        go_wp2_with fail
        clear g0 g1 g2 g3 g4 g5 g6
        refine (ok23_any wr b t B L.length cc L i j C Es.length d Es N rfl rfl HAT.out.l.small HAT.out.e.small HAT.out.l.str HAT.out.e.str HAT.out.l.rds HAT.out.e.rds u HOK.out).mono ?_
        rintro e w1 ⟨rfl, hb⟩
        replace HX : Hid (Below W.heap.size W w1) := HX.out.trans (hb.mono HX.out.size)
        replace HAT := Lib.hid (HAT.out.ext hb (Nat.le_refl _))
        clear hb
        cases u with
        | false =>
          go_wp2
          go_roundw
          case rel => exact ⟨k + 1, by omega, by go_num, HX⟩
          case measure => simp [intOf]; omega
        | true =>
          have HM := Lib.hid (ok23_may HOK.out)
          have hl2 : L.length < 200 := HM.out.2.1
          have hbb : 0 ≤ b ∧ b ≤ 1099511625728 := ⟨HM.out.1.1, HM.out.1.2.1⟩
          have hki0 : (0 : Int) ≤ (k : Int) := by omega
          have WSZ : Hid (W.heap.size ≤ w1.heap.size) := HX.out.size
          obtain ⟨hr1, hr2⟩ := tmod4 (wrap64 (N + 1))
          by_cases hr : 1 + (wrap64 (N + 1)).tmod 4 < 1
          · --
            obtain ⟨g0, g1, g2, g3, g4, g5, g6, _, _, _⟩ := HAT.out
            have HMQ := Lib.hid HM.out.1
            have HLC : Hid (L.length ≤ cc) := HAT.out.l.len
            have HNB : Hid (B = none → L.length = 0 ∧ cc = 0) := HAT.out.l.nil
            go_wp2
            try rw [HQQ.out]
            clear g0 g1 g2 g3 g4 g5 g6
            go_loopw [5, 6, 7] (fun v5 v6 v7 wr => ∃ (p m : Nat), m ≤ p ∧ p ≤ L.length ∧ v6 = .int .i64 (b + 1 + p) ∧ v7 = .int .i64 (m : Int) ∧ Hid (wr.ownsRow w1.heap.size 56 3 v5 p (entsC (L.take p))) ∧ Hid (Below W.heap.size W wr) ∧ Hid (Below w1.heap.size w1 wr)) (fun _ _ v7 _ => L.length + 1 - (intOf v7).toNat)
            case atStart => exact ⟨0, 0, by omega, by omega, by simp, rfl, World.ownsRow_nil _ _ _ _, HX, Below.refl _ _⟩
            case round =>
              clear HX
              obtain ⟨p, m, hmp, hpl, rfl, rfl, HO, HX, HB1⟩ := hrel
              have hmi : (m : Int) ≤ (L.length : Int) := by omega
              have HAT1 := Lib.hid (HAT.out.ext HB1.out (Nat.le_refl _))
              obtain ⟨g0, g1, g2, g3, g4, g5, g6, _, _, _⟩ := HAT1.out
              go_wp2_with fail
              clear g0 g1 g2 g3 g4 g5 g6
              refine (Slice_any wr b t B L.length cc L rfl (by omega) HLC.out HNB.out HAT1.out.l.rds (b + 1 + p) (1) (by omega)).mono ?_
              rw [sliceE_in' HMQ.out hpl 1 (1) (by omega)]
              rintro e w2 ⟨v, rfl, hown, hb⟩
              obtain ⟨A2, c2, rfl, r1, r2, r3, r4, r5⟩ := own_rds hown
              have HR2 := Lib.hid r4
              have HN2 := Lib.hid r3
              replace HX : Hid (Below W.heap.size W w2) := HX.out.trans (hb.mono HX.out.size)
              replace HB1 : Hid (Below w1.heap.size w1 w2) := HB1.out.trans (hb.mono HB1.out.size)
              replace HAT1 := Lib.hid (HAT1.out.ext hb (Nat.le_refl _))
              have HO2 := Lib.hid (own_ext HO.out hb (Nat.le_refl _))
              clear hb hown r1 r2 r3 r4 r5 HO
              have hl2 : ((L.drop p).take 1).length ≤ 1 := by rw [List.length_take]; omega
              have hl3 : p + ((L.drop p).take 1).length ≤ L.length := by rw [List.length_take, List.length_drop]; omega
              have hl4 : p < L.length → 1 ≤ ((L.drop p).take 1).length := by intro h; rw [List.length_take, List.length_drop]; omega
              have HTM : Hid (entsC (L.take (p + ((L.drop p).take 1).length)) = entsC (L.take p) ++ entsC ((L.drop p).take 1)) := by
                show _ = _
                rw [take_more, takeE_len]
              have HEL : Hid ((entsC ((L.drop p).take 1)).length = ((L.drop p).take 1).length * 3) := entsC_len _
              have HOC := Lib.hid (ents_one ((L.drop p).take 1))
              have hl5 : p = L.length → ((L.drop p).take 1).length = 0 := by intro h; rw [List.length_take, List.length_drop]; omega
              generalize (L.drop p).take 1 = ps at *
              generalize hn2 : ps.length = n2 at *
              have hqi : ¬ (1) < (n2 : Int) := by omega
              by_cases hpe : p = L.length
              · have hz : n2 = 0 := hl5 hpe
                have hzi : ((n2 : Int) == 0) = true := by rw [hz]; rfl
                have HALL : Hid (w2.ownsRow w1.heap.size 56 3 u5 p (entsC L)) := by
                  have h := HO2.out
                  rwa [List.take_of_length_le (by omega)] at h
                obtain ⟨A5, c5, rfl, r1, r2, r3, r4, r5⟩ := own_rds HALL.out
                have HR5 := Lib.hid r4
                have HPE := Lib.hid hpe.symm
                have hpl2 : p < 200 := by omega
                clear r1 r2 r3 r4 r5 HTM HO2 HOC HEL HR2 HN2 hn2 hl2 hl3 hl4 hl5 hpe HALL hmi hmp hpl
                obtain ⟨g0, g1, g2, g3, g4, g5, g6, _, _, _⟩ := HAT1.out
                go_wp2_with (go_at_call 18; refine (num23 _ _).mono ?_; rintro e wq ⟨rfl, rfl⟩)
                clear g0 g1 g2 g3 g4 g5 g6
                refine (Slice_any w2 b t B L.length cc L rfl (by omega) HLC.out HNB.out HAT1.out.l.rds (b + 1 + p + 1) (1) (by omega)).mono ?_
                rw [sliceE_out HMQ.out (.inr (by have := HPE.out; omega))]
                rintro e w3 ⟨v, rfl, hown, hb⟩
                obtain ⟨A6, c6, rfl, _, _, _, _, _⟩ := own_rds hown
                replace HX : Hid (Below W.heap.size W w3) := HX.out.trans (hb.mono HX.out.size)
                replace HB1 : Hid (Below w1.heap.size w1 w3) := HB1.out.trans (hb.mono HB1.out.size)
                replace HAT1 := Lib.hid (HAT1.out.ext hb (Nat.le_refl _))
                replace HR5 := Lib.hid (HR5.out.ext hb (Nat.le_refl _))
                clear hb hown
                have HATD : Hid (AskAt w3.drew (a.add (k * 7)) ((b, t, L), i, j, Es, N) B cc C d) := HAT1.out.ext (drawn_below w3 1) (Nat.le_refl _)
                have HB3 : Hid (Below w3.heap.size w3 w3.drew) := drawn_below w3 1
                have HL1 : Hid (L.length ≤ 100000) := by show _ ≤ _; omega
                have HBI : Hid (-4398046511104 ≤ b ∧ b ≤ 4398046511104) := by show _ ∧ _; omega
                obtain ⟨g0, g1, g2, g3, g4, g5, g6, _, _, _⟩ := HAT1.out
                go_wp2_with fail
                go_region_held3 (fun w' => w'.cell? (a.add (k * 7)) = some (.int .i64 b) ∧ w'.cell? ⟨(a.add (k * 7)).block, (a.add (k * 7)).off + 1, none⟩ = some (.int .i64 t) ∧ w'.cell? ⟨(a.add (k * 7)).block, (a.add (k * 7)).off + 2, none⟩ = some (.slice B L.length cc))
                  (first | (with_reducible exact ⟨g0, g1, g2⟩) | go_keep)
                  (first | (go_at_call 28; with_reducible refine (Slice_any w3.drew b t B L.length cc L rfl HL1.out HLC.out HNB.out HATD.out.l.rds b (1) HBI.out).mono ?_; rw [sliceE_out HMQ.out (.inl (Int.le_refl _))]; clear g0 g1 g2 g3 g4 g5 g6
                            rintro e w4 ⟨v, rfl, hown, hb⟩
                            obtain ⟨A7, c7, rfl, _, _, _, _, _⟩ := own_rds hown
                            have HB4 : Hid (Below w3.heap.size w3 w4) := HB3.out.trans (hb.mono HB3.out.size)
                            have HAT4 := Lib.hid (HATD.out.ext hb (Nat.le_refl _))
                            clear hb hown
                            obtain ⟨g0, g1, g2, g3, g4, g5, g6, _, _, _⟩ := HAT4.out))
                clear g0 g1 g2 g3 g4 g5 g6 HATD HB3
                replace HX : Hid (Below W.heap.size W w4) := HX.out.trans (HB4.out.mono HX.out.size)
                replace HR5 := Lib.hid (HR5.out.ext HB4.out (Nat.le_refl _))
                clear HB4 HB1 HAT1
                obtain ⟨g0, g1, g2, g3, g4, g5, g6, _, _, _⟩ := HAT4.out
                go_wp2_with fail
                clear g0 g1 g2 g3 g4 g5 g6
                refine (EqEntries_any w4 A5 p c5 L HPE.out HR5.out B L.length cc L rfl HAT4.out.l.rds (by omega)).mono ?_
                rw [show decide (L = L) = true from by simp]
                rintro e w5 ⟨rfl, hbq⟩
                obtain ⟨nq, rfl⟩ := hbq
                replace HX := Lib.hid (HX.out.trans ((drawn_below w4 nq).mono HX.out.size))
                clear HAT4 HR5
                generalize w4.drewN nq = w6 at *
                go_wp2_with (go_at_call 18; refine (num23 _ _).mono ?_; rintro e wq ⟨rfl, rfl⟩)
                go_roundw
                case rel => exact ⟨k + 1, by omega, by go_num, HX⟩
                case measure => simp [intOf]; omega
              · have hz1 : 1 ≤ n2 := hl4 (by omega)
                have hzi : ((n2 : Int) == 0) = false := by rw [beq_eq_false_iff_ne]; omega
                clear hn2 hl4 hl5 hpe
                go_wp2_with (first
                  | (go_at_call 18; refine (num23 _ _).mono ?_; rintro e wq ⟨rfl, rfl⟩)
                  | (at_builtin; go_loud (refine wp_app rfl _ _ 24 rfl w1.heap.size 56 (.agg #[.int .i64 0, .int .i64 0, .string ⟨#[]⟩]) 3 32 Try.underlying24 info_ent rfl (by decide) (by decide) _ p _ rfl HO2.out A2 n2 c2 (entsC ps) rfl HN2.out HEL.out HR2.out HOC.out (by omega) HB1.out.size ?_; intro v' w3 hown' hg'; have HO3 := Lib.hid hown'; have HX3 := Lib.hid (HX.out.grown hg' HX.out.size (fun k hk => Nat.le_trans WSZ.out (HO2.out.lt k hk).1)); have HB3 := Lib.hid (HB1.out.grown hg' HB1.out.size (fun k hk => (HO2.out.lt k hk).1)); clear hown' hg')))
                go_roundw
                case rel => exact ⟨p + n2, m + 1, by omega, by omega, congrArg (Value.int .i64) (by omega), by go_num, by show World.ownsRow _ _ _ _ _ _ _; rw [HTM.out]; exact HO3.out, HX3, HB3⟩
                case measure => simp [intOf]; omega
          · obtain ⟨qq, hqq⟩ : ∃ qq : Nat, 1 + (wrap64 (N + 1)).tmod 4 = (qq : Int) := ⟨(1 + (wrap64 (N + 1)).tmod 4).toNat, by omega⟩
            obtain ⟨g0, g1, g2, g3, g4, g5, g6, _, _, _⟩ := HAT.out
            have hq1 : 1 ≤ qq ∧ qq ≤ 4 := by omega
            have HQQ := Lib.hid hqq
            clear hqq
            have HMQ := Lib.hid HM.out.1
            have HLC : Hid (L.length ≤ cc) := HAT.out.l.len
            have HNB : Hid (B = none → L.length = 0 ∧ cc = 0) := HAT.out.l.nil
            go_wp2
            try rw [HQQ.out]
            clear g0 g1 g2 g3 g4 g5 g6
            go_loopw [5, 6, 7] (fun v5 v6 v7 wr => ∃ (p m : Nat), m ≤ p ∧ p ≤ L.length ∧ v6 = .int .i64 (b + 1 + p) ∧ v7 = .int .i64 (m : Int) ∧ Hid (wr.ownsRow w1.heap.size 56 3 v5 p (entsC (L.take p))) ∧ Hid (Below W.heap.size W wr) ∧ Hid (Below w1.heap.size w1 wr)) (fun _ _ v7 _ => L.length + 1 - (intOf v7).toNat)
            case atStart => exact ⟨0, 0, by omega, by omega, by simp, rfl, World.ownsRow_nil _ _ _ _, HX, Below.refl _ _⟩
            case round =>
              clear HX
              obtain ⟨p, m, hmp, hpl, rfl, rfl, HO, HX, HB1⟩ := hrel
              have hmi : (m : Int) ≤ (L.length : Int) := by omega
              have HAT1 := Lib.hid (HAT.out.ext HB1.out (Nat.le_refl _))
              obtain ⟨g0, g1, g2, g3, g4, g5, g6, _, _, _⟩ := HAT1.out
              go_wp2_with fail
              clear g0 g1 g2 g3 g4 g5 g6
              refine (Slice_any wr b t B L.length cc L rfl (by omega) HLC.out HNB.out HAT1.out.l.rds (b + 1 + p) ((qq : Int)) (by omega)).mono ?_
              rw [sliceE_in' HMQ.out hpl qq ((qq : Int)) (by omega)]
              rintro e w2 ⟨v, rfl, hown, hb⟩
              obtain ⟨A2, c2, rfl, r1, r2, r3, r4, r5⟩ := own_rds hown
              have HR2 := Lib.hid r4
              have HN2 := Lib.hid r3
              replace HX : Hid (Below W.heap.size W w2) := HX.out.trans (hb.mono HX.out.size)
              replace HB1 : Hid (Below w1.heap.size w1 w2) := HB1.out.trans (hb.mono HB1.out.size)
              replace HAT1 := Lib.hid (HAT1.out.ext hb (Nat.le_refl _))
              have HO2 := Lib.hid (own_ext HO.out hb (Nat.le_refl _))
              clear hb hown r1 r2 r3 r4 r5 HO
              have hl2 : ((L.drop p).take qq).length ≤ qq := by rw [List.length_take]; omega
              have hl3 : p + ((L.drop p).take qq).length ≤ L.length := by rw [List.length_take, List.length_drop]; omega
              have hl4 : p < L.length → 1 ≤ ((L.drop p).take qq).length := by intro h; rw [List.length_take, List.length_drop]; omega
              have HTM : Hid (entsC (L.take (p + ((L.drop p).take qq).length)) = entsC (L.take p) ++ entsC ((L.drop p).take qq)) := by
                show _ = _
                rw [take_more, takeE_len]
              have HEL : Hid ((entsC ((L.drop p).take qq)).length = ((L.drop p).take qq).length * 3) := entsC_len _
              have HOC := Lib.hid (ents_one ((L.drop p).take qq))
              have hl5 : p = L.length → ((L.drop p).take qq).length = 0 := by intro h; rw [List.length_take, List.length_drop]; omega
              generalize (L.drop p).take qq = ps at *
              generalize hn2 : ps.length = n2 at *
              have hqi : ¬ ((qq : Int)) < (n2 : Int) := by omega
              by_cases hpe : p = L.length
              · have hz : n2 = 0 := hl5 hpe
                have hzi : ((n2 : Int) == 0) = true := by rw [hz]; rfl
                have HALL : Hid (w2.ownsRow w1.heap.size 56 3 u5 p (entsC L)) := by
                  have h := HO2.out
                  rwa [List.take_of_length_le (by omega)] at h
                obtain ⟨A5, c5, rfl, r1, r2, r3, r4, r5⟩ := own_rds HALL.out
                have HR5 := Lib.hid r4
                have HPE := Lib.hid hpe.symm
                have hpl2 : p < 200 := by omega
                clear r1 r2 r3 r4 r5 HTM HO2 HOC HEL HR2 HN2 hn2 hl2 hl3 hl4 hl5 hpe HALL hmi hmp hpl
                obtain ⟨g0, g1, g2, g3, g4, g5, g6, _, _, _⟩ := HAT1.out
                go_wp2_with (go_at_call 18; refine (num23 _ _).mono ?_; rintro e wq ⟨rfl, rfl⟩)
                clear g0 g1 g2 g3 g4 g5 g6
                refine (Slice_any w2 b t B L.length cc L rfl (by omega) HLC.out HNB.out HAT1.out.l.rds (b + 1 + p + 1) ((qq : Int)) (by omega)).mono ?_
                rw [sliceE_out HMQ.out (.inr (by have := HPE.out; omega))]
                rintro e w3 ⟨v, rfl, hown, hb⟩
                obtain ⟨A6, c6, rfl, _, _, _, _, _⟩ := own_rds hown
                replace HX : Hid (Below W.heap.size W w3) := HX.out.trans (hb.mono HX.out.size)
                replace HB1 : Hid (Below w1.heap.size w1 w3) := HB1.out.trans (hb.mono HB1.out.size)
                replace HAT1 := Lib.hid (HAT1.out.ext hb (Nat.le_refl _))
                replace HR5 := Lib.hid (HR5.out.ext hb (Nat.le_refl _))
                clear hb hown
                have HATD : Hid (AskAt w3.drew (a.add (k * 7)) ((b, t, L), i, j, Es, N) B cc C d) := HAT1.out.ext (drawn_below w3 1) (Nat.le_refl _)
                have HB3 : Hid (Below w3.heap.size w3 w3.drew) := drawn_below w3 1
                have HL1 : Hid (L.length ≤ 100000) := by show _ ≤ _; omega
                have HBI : Hid (-4398046511104 ≤ b ∧ b ≤ 4398046511104) := by show _ ∧ _; omega
                obtain ⟨g0, g1, g2, g3, g4, g5, g6, _, _, _⟩ := HAT1.out
                go_wp2_with fail
                go_region_held3 (fun w' => w'.cell? (a.add (k * 7)) = some (.int .i64 b) ∧ w'.cell? ⟨(a.add (k * 7)).block, (a.add (k * 7)).off + 1, none⟩ = some (.int .i64 t) ∧ w'.cell? ⟨(a.add (k * 7)).block, (a.add (k * 7)).off + 2, none⟩ = some (.slice B L.length cc))
                  (first | (with_reducible exact ⟨g0, g1, g2⟩) | go_keep)
                  (first | (go_at_call 28; with_reducible refine (Slice_any w3.drew b t B L.length cc L rfl HL1.out HLC.out HNB.out HATD.out.l.rds b ((qq : Int)) HBI.out).mono ?_; rw [sliceE_out HMQ.out (.inl (Int.le_refl _))]; clear g0 g1 g2 g3 g4 g5 g6
                            rintro e w4 ⟨v, rfl, hown, hb⟩
                            obtain ⟨A7, c7, rfl, _, _, _, _, _⟩ := own_rds hown
                            have HB4 : Hid (Below w3.heap.size w3 w4) := HB3.out.trans (hb.mono HB3.out.size)
                            have HAT4 := Lib.hid (HATD.out.ext hb (Nat.le_refl _))
                            clear hb hown
                            obtain ⟨g0, g1, g2, g3, g4, g5, g6, _, _, _⟩ := HAT4.out))
                clear g0 g1 g2 g3 g4 g5 g6 HATD HB3
                replace HX : Hid (Below W.heap.size W w4) := HX.out.trans (HB4.out.mono HX.out.size)
                replace HR5 := Lib.hid (HR5.out.ext HB4.out (Nat.le_refl _))
                clear HB4 HB1 HAT1
                obtain ⟨g0, g1, g2, g3, g4, g5, g6, _, _, _⟩ := HAT4.out
                go_wp2_with fail
                clear g0 g1 g2 g3 g4 g5 g6
                refine (EqEntries_any w4 A5 p c5 L HPE.out HR5.out B L.length cc L rfl HAT4.out.l.rds (by omega)).mono ?_
                rw [show decide (L = L) = true from by simp]
                rintro e w5 ⟨rfl, hbq⟩
                obtain ⟨nq, rfl⟩ := hbq
                replace HX := Lib.hid (HX.out.trans ((drawn_below w4 nq).mono HX.out.size))
                clear HAT4 HR5
                generalize w4.drewN nq = w6 at *
                go_wp2_with (go_at_call 18; refine (num23 _ _).mono ?_; rintro e wq ⟨rfl, rfl⟩)
                go_roundw
                case rel => exact ⟨k + 1, by omega, by go_num, HX⟩
                case measure => simp [intOf]; omega
              · have hz1 : 1 ≤ n2 := hl4 (by omega)
                have hzi : ((n2 : Int) == 0) = false := by rw [beq_eq_false_iff_ne]; omega
                clear hn2 hl4 hl5 hpe
                go_wp2_with (first
                  | (go_at_call 18; refine (num23 _ _).mono ?_; rintro e wq ⟨rfl, rfl⟩)
                  | (at_builtin; go_loud (refine wp_app rfl _ _ 24 rfl w1.heap.size 56 (.agg #[.int .i64 0, .int .i64 0, .string ⟨#[]⟩]) 3 32 Try.underlying24 info_ent rfl (by decide) (by decide) _ p _ rfl HO2.out A2 n2 c2 (entsC ps) rfl HN2.out HEL.out HR2.out HOC.out (by omega) HB1.out.size ?_; intro v' w3 hown' hg'; have HO3 := Lib.hid hown'; have HX3 := Lib.hid (HX.out.grown hg' HX.out.size (fun k hk => Nat.le_trans WSZ.out (HO2.out.lt k hk).1)); have HB3 := Lib.hid (HB1.out.grown hg' HB1.out.size (fun k hk => (HO2.out.lt k hk).1)); clear hown' hg')))
                go_roundw
                case rel => exact ⟨p + n2, m + 1, by omega, by omega, congrArg (Value.int .i64) (by omega), by go_num, by show World.ownsRow _ _ _ _ _ _ _; rw [HTM.out]; exact HO3.out, HX3, HB3⟩
                case measure => simp [intOf]; omega
      · obtain rfl : k = 8 := by omega
        go_wp2_with fail
        refine (wakes23 _).mono ?_
        rintro e w1 ⟨rfl, hb⟩
        go_wp2
        go_ret
        exact ⟨rfl, HX.out.trans (hb.mono HX.out.size)⟩
    · have h1i : ¬ (k : Int) < (xs.length : Int) := by omega
      go_wp2_with fail
      refine (wakes23 _).mono ?_
      rintro e w1 ⟨rfl, hb⟩
      go_wp2
      go_ret
      exact ⟨rfl, HX.out.trans (hb.mono HX.out.size)⟩
end Go.Proofs.Ytpdnkhdnenibgaa
