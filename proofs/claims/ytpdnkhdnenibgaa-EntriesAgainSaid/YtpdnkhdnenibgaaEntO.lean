/- The walk of entries.Merge. -/
import Derived.Test.YtpdnkhdnenibgaaEntM
set_option linter.unusedVariables false
set_option linter.unusedSimpArgs false
namespace Lec
open Go Go.RowKit
/-- The entries that a log has already, left out. -/
def skipE (b t : Int) (L : List Ent) : Int → List Ent → Int × List Ent
  | p, [] => (p, [])
  | p, e :: es => if atE b t L e.1 = some e.2.1 then skipE b t L e.1 es else (p, e :: es)
/-- Where a merge begins. -/
def fromE (b t prev s : Int) (es : List Ent) : Int × Int × List Ent := if prev < b then (b, t, es.drop (b - prev).toNat) else (prev, s, es)
def mayM (b t : Int) (L : List Ent) (prev s : Int) (es : List Ent) : Prop := mayL b t L ∧ 0 ≤ prev ∧ prev ≤ 1099511627776 ∧ (0 ≤ s ∧ s ≤ 1099511627775) ∧ runsE prev s es
/-- What Merge answers: a log, whether it misses, an error. -/
def joinE (b t : Int) (L : List Ent) (p : Int) (es : List Ent) : Int × Int × List Ent × Bool × Int :=
  if es.length = 0 then (b, t, L, false, 0) else
    if 512 < (L.take (p - b).toNat ++ es).length then (0, 0, [], false, 6) else if mayL b t (L.take (p - b).toNat ++ es) then (b, t, L.take (p - b).toNat ++ es, false, 0) else (0, 0, [], false, 1)
instance (b t : Int) (L : List Ent) (prev s : Int) (es : List Ent) : Decidable (mayM b t L prev s es) := by unfold mayM; infer_instance
def mergeE (b t : Int) (L : List Ent) (prev s : Int) (es : List Ent) : Int × Int × List Ent × Bool × Int :=
  if mayM b t L prev s es then
    if atE b t L (fromE b t prev s es).1 = some (fromE b t prev s es).2.1 then
      joinE b t L (skipE b t L (fromE b t prev s es).1 (fromE b t prev s es).2.2).1 (skipE b t L (fromE b t prev s es).1 (fromE b t prev s es).2.2).2
    else (b, t, L, true, 0)
  else (0, 0, [], false, 1)
def slenOf : Value → Nat | .slice _ n _ => n | _ => 0
theorem add_nil (a : Addr) : a.add 0 = a := by simp [Addr.add]
theorem atE_range {b t i x : Int} {L : List Ent} (h : atE b t L i = some x) : b ≤ i ∧ i ≤ b + L.length := by
  by_cases h1 : i < b ∨ b + L.length < i
  · rw [atE_out h1] at h; cases h
  · omega
end Lec
namespace Go.Proofs.Ytpdnkhdnenibgaa
open Go.RowKit Lec
/-- A log, new in memory, whether it misses, an error. -/
def MerRet (w : World) (r : Int × Int × List Ent × Bool × Int) (e : Ending) (w' : World) : Prop :=
  ∃ v, e = .returned (.tuple #[.agg #[.int .i64 r.1, .int .i64 r.2.1, v], .bool r.2.2.2.1, .int .i64 r.2.2.2.2]) ∧ w'.ownsRow w.heap.size 56 3 v r.2.2.1.length (entsC r.2.2.1) ∧ Below w.heap.size w w'

set_option maxRecDepth 100000 in
set_option maxHeartbeats 4000000 in
theorem Merge_any (w : World) (b t : Int) (A : Option Addr) (n c : Nat) (L : List Ent) (hn : L.length = n) (hm : n ≤ 100000) (hnc : n ≤ c) (hA : A = none → n = 0 ∧ c = 0) (hr : Rds w A (entsC L))
    (prev s : Int) (B : Option Addr) (m d : Nat) (es : List Ent) (hmn : es.length = m) (hmm : m ≤ 100000) (hmd : m ≤ d) (hB : B = none → m = 0 ∧ d = 0) (hs : Rds w B (entsC es)) :
    Calls Try.prog 31 #[.agg #[.int .i64 b, .int .i64 t, .slice A n c], .int .i64 prev, .int .i64 s, .slice B m d] w (MerRet w (mergeE b t L prev s es)) := by
  have HR := Lib.hid hr
  have HN := Lib.hid hn
  have HA := Lib.hid hA
  have HS := Lib.hid hs
  have HM := Lib.hid hmn
  have HB := Lib.hid hB
  clear hr hn hA hs hmn hB
  generalize happ : mergeE b t L prev s es = res
  have HAPP := Lib.hid happ
  clear happ
  go_enter Try.func31, Try.ntmps31
  go_wp2_with fail
  obtain ⟨w0, hw0⟩ : ∃ w0, w0 = (w.alloc (.cells #[.int .i64 b, .int .i64 t, .slice A n c] 26)).alloc (.cells #[.int .i64 0, .int .i64 0, .slice none 0 0] 26) := ⟨_, rfl⟩
  rw [← hw0]
  have HX : Hid (Below w.heap.size w w0) := by rw [hw0]; exact ((Below.refl _ _).alloc (Nat.le_refl _) _).alloc (by simp) _
  have HL : Hid (Lg w0 w.heap.size b t (.slice A n c)) := by rw [hw0]; exact (Lg.new w b t _ _).ext (B := w.heap.size + 1) ((Below.refl _ _).alloc (by simp) _) (by simp)
  have HZ : Hid (Lg w0 (w.heap.size + 1) 0 0 (.slice none 0 0)) := by rw [hw0]; have := Lg.new (w.alloc (.cells #[.int .i64 b, .int .i64 t, .slice A n c] 26)) 0 0 (.slice none 0 0) 26; show Lg _ _ _ _ _; simpa using this
  have hz : w.heap.size + 1 < w0.heap.size := by rw [hw0]; simp
  replace HR := Lib.hid (HR.out.ext HX.out (Nat.le_refl _))
  replace HS := Lib.hid (HS.out.ext HX.out (Nat.le_refl _))
  clear hw0
  by_cases hok : mayL b t L
  · have HM1 := Lib.hid (decide_eq_true hok)
    refine (May_any w0 b t A n c L HN.out (by omega) HR.out _ HM1.out).mono ?_
    rintro r w1 ⟨rfl, hb⟩
    replace HX : Hid (Below w.heap.size w w1) := HX.out.trans (hb.mono HX.out.size)
    replace HL := Lib.hid (HL.out.ext hb (Nat.le_refl _))
    replace HZ := Lib.hid (HZ.out.ext hb (Nat.le_refl _))
    replace HR := Lib.hid (HR.out.ext hb (Nat.le_refl _))
    replace HS := Lib.hid (HS.out.ext hb (Nat.le_refl _))
    replace hz := Nat.lt_of_lt_of_le hz hb.size
    clear hb HM1
    by_cases hp0 : prev < 0
    · have HE : Hid (res = (0, 0, [], false, 1)) := by show _ = _; rw [← HAPP.out]; unfold mergeE; rw [if_neg (fun h => absurd h.2.1 (by omega))]
      clear HAPP hok
      obtain ⟨k0, k1, k2, f0, f1, f2, _⟩ := HL.out
      obtain ⟨z0, z1, z2, y0, y1, y2, _⟩ := HZ.out
      go_wp2
      refine bodyPost_ret (v := .tuple #[.agg #[.int .i64 0, .int .i64 0, .slice none 0 0], .bool false, .int .i64 1]) (by simp [results, Try.results31, go_sem, *]) rfl ?_
      show MerRet _ _ _ _
      rw [HE.out]
      refine ⟨_, rfl, World.ownsRow_nil _ _ _ _, ?_⟩
      exact ((HX.out.setCell (by simp) _).setCell (by simp) _).setCell (by simp) _
    · by_cases hp1 : 1099511627776 < prev
      · have HE : Hid (res = (0, 0, [], false, 1)) := by show _ = _; rw [← HAPP.out]; unfold mergeE; rw [if_neg (fun h => absurd h.2.2.1 (by omega))]
        clear HAPP hok
        obtain ⟨k0, k1, k2, f0, f1, f2, _⟩ := HL.out
        obtain ⟨z0, z1, z2, y0, y1, y2, _⟩ := HZ.out
        go_wp2
        refine bodyPost_ret (v := .tuple #[.agg #[.int .i64 0, .int .i64 0, .slice none 0 0], .bool false, .int .i64 1]) (by simp [results, Try.results31, go_sem, *]) rfl ?_
        show MerRet _ _ _ _
        rw [HE.out]
        refine ⟨_, rfl, World.ownsRow_nil _ _ _ _, ?_⟩
        exact ((HX.out.setCell (by simp) _).setCell (by simp) _).setCell (by simp) _
      · by_cases hst : 0 ≤ s ∧ s ≤ 1099511627775
        · have HT := Lib.hid (decide_eq_true hst)
          by_cases hrun : runsE prev s es
          · have HF := Lib.hid (decide_eq_true hrun)
            have HOK : Hid (mayM b t L prev s es) := ⟨hok, by omega, by omega, hst, hrun⟩
            have hbb : 0 ≤ b ∧ b ≤ 1099511625728 := ⟨hok.1, hok.2.1⟩
            clear hok hst hrun
            obtain ⟨k0, k1, k2, f0, f1, f2, _⟩ := HL.out
            obtain ⟨z0, z1, z2, y0, y1, y2, _⟩ := HZ.out
            go_wp2_with (first | (go_at_call 72; refine (term_any _ s _ HT.out).mono ?_; rintro r wq ⟨rfl, rfl⟩))
            clear k0 k1 k2 f0 f1 f2 z0 z1 z2 y0 y1 y2
            refine (Follow_any w1 B m d prev s es HM.out (by omega) (by omega) HS.out _ HF.out).mono ?_
            rintro r w2 ⟨rfl, hb⟩
            replace HX : Hid (Below w.heap.size w w2) := HX.out.trans (hb.mono HX.out.size)
            replace HL := Lib.hid (HL.out.ext hb (Nat.le_refl _))
            replace HZ := Lib.hid (HZ.out.ext hb (Nat.le_refl _))
            replace HR := Lib.hid (HR.out.ext hb (Nat.le_refl _))
            replace HS := Lib.hid (HS.out.ext hb (Nat.le_refl _))
            replace hz := Nat.lt_of_lt_of_le hz hb.size
            clear hb HF HT
            obtain ⟨k0, k1, k2, f0, f1, f2, _⟩ := HL.out
            obtain ⟨z0, z1, z2, y0, y1, y2, _⟩ := HZ.out
            go_upto_if 42 with (fail)
            go_cut [1, 2, 3] (fun s1 s2 s3 wx => ∃ (q1 q2 : Int) (E : List Ent) (C : Option Addr) (m' d' : Nat), s1 = .int .i64 q1 ∧ s2 = .int .i64 q2 ∧ s3 = .slice C m' d' ∧ Hid (fromE b t prev s es = (q1, q2, E)) ∧ Hid (E.length = m') ∧ m' ≤ d' ∧ m' ≤ 100000 ∧ Hid (C = none → m' = 0 ∧ d' = 0) ∧ Hid (Rds w2 C (entsC E)) ∧ Hid (Below w2.heap.size w2 wx))
            case first =>
              by_cases hpb : prev < b
              · have hpi : (prev < b) = True := eq_true hpb
                obtain ⟨z, hz9⟩ : ∃ z : Nat, (z : Int) = b - prev := ⟨(b - prev).toNat, by omega⟩
                have hfr : fromE b t prev s es = (b, t, es.drop z) := by unfold fromE; rw [if_pos hpb, ← hz9, Int.toNat_natCast]
                have hw1 : IntKind.i64.wrap (b - prev) = b - prev := wrap_id (by omega)
                obtain ⟨k, hk⟩ : ∃ k, k = min z m := ⟨_, rfl⟩
                have hed : es.drop z = es.drop k := by
                  rw [hk]
                  by_cases h : z ≤ m
                  · rw [Nat.min_eq_left h]
                  · rw [Nat.min_eq_right (by omega), List.drop_eq_nil_of_le (by rw [HM.out]; omega), List.drop_eq_nil_of_le (by rw [HM.out]; omega)]
                rw [hed] at hfr
                have HFR := Lib.hid hfr
                have HDL : Hid ((es.drop k).length = m - k) := by show _ = _; rw [List.length_drop, HM.out]
                have hkm : k ≤ m := by omega
                have hkd : k ≤ d := by omega
                have HKD : Hid (k = min z m) := hk
                have hsub : b - prev = (z : Int) := hz9.symm
                have hwz : IntKind.i64.wrap (z : Int) = (z : Int) := wrap_id (by omega)
                have hk0 : (0 : Int) ≤ (k : Int) := by omega
                have hkdi : (k : Int) ≤ (d : Int) := by omega
                have hkmi : (k : Int) ≤ (m : Int) := by omega
                clear hfr hed hpi hk hz9
                have hcase : (d = k ∧ m = k) ∨ ∃ a, B = some a ∧ ¬ d = k ∧ ¬ d - k = 0 := by
                  have h1 := HB.out
                  cases hB : B with
                  | none => have := h1 hB; exact .inl ⟨by omega, by omega⟩
                  | some a => by_cases h : d = k
                              · exact .inl ⟨h, by omega⟩
                              · exact .inr ⟨a, rfl, h, by omega⟩
                by_cases hzm : z ≤ m
                · obtain rfl : k = z := by rw [HKD.out, Nat.min_eq_left hzm]
                  have hmin : ¬ m < k := by omega
                  rcases hcase with ⟨rfl, rfl⟩ | ⟨a, rfl, hck, hck2⟩
                  · replace HFR : Hid (fromE b t prev s es = (b, t, [])) := by show _ = _; rw [HFR.out, List.drop_eq_nil_of_le (by rw [HM.out]; exact Nat.le_refl _)]
                    go_wp2_with fail
                    go_quiet (fail)
                    go_wp2_with fail
                    go_meet
                    exact ⟨_, _, _, _, _, _, rfl, rfl, rfl, HFR, (by show ([] : List Ent).length = _; simp), Nat.le_refl _, by omega, (fun _ => ⟨rfl, rfl⟩), Rds.nil _ _, drawn_below _ _⟩
                  · go_wp2_with fail
                    go_quiet (fail)
                    go_wp2_with fail
                    go_meet
                    exact ⟨_, _, _, _, _, _, rfl, rfl, rfl, HFR, HDL, by omega, by omega, (fun e => by cases e), rds_drop HS.out rfl, drawn_below _ _⟩
                · obtain rfl : k = m := by rw [HKD.out, Nat.min_eq_right (by omega)]
                  have hmin : k < z := by omega
                  have hmin2 : ¬ z < k := by omega
                  have hmin3 : ¬ z ≤ k := by omega
                  rcases hcase with ⟨rfl, _⟩ | ⟨a, rfl, hck, hck2⟩
                  · replace HFR : Hid (fromE b t prev s es = (b, t, [])) := by show _ = _; rw [HFR.out, List.drop_eq_nil_of_le (by rw [HM.out]; exact Nat.le_refl _)]
                    go_wp2_with fail
                    go_quiet (fail)
                    go_wp2_with fail
                    go_meet
                    exact ⟨_, _, _, _, _, _, rfl, rfl, rfl, HFR, (by show ([] : List Ent).length = _; simp), Nat.le_refl _, by omega, (fun _ => ⟨rfl, rfl⟩), Rds.nil _ _, drawn_below _ _⟩
                  · go_wp2_with fail
                    go_quiet (fail)
                    go_wp2_with fail
                    go_meet
                    exact ⟨_, _, _, _, _, _, rfl, rfl, rfl, HFR, (by show _ = _; rw [HDL.out]; omega), by omega, by omega, (fun e => by cases e), rds_drop HS.out rfl, drawn_below _ _⟩
              · have hpi : ¬ prev < b := hpb
                have HFR : Hid (fromE b t prev s es = (prev, s, es)) := by show _ = _; unfold fromE; rw [if_neg hpb]
                go_wp2_with fail
                go_meet
                exact ⟨_, _, _, _, _, _, rfl, rfl, rfl, HFR, HM, hmd, hmm, HB, HS, Below.refl _ _⟩
            case rest =>
              clear k0 k1 k2 f0 f1 f2 z0 z1 z2 y0 y1 y2
              obtain ⟨q1, q2, E, C, m', d', rfl, rfl, rfl, HFR, HME, hmd', hmm', HNC, HSC, HBC⟩ := hcut
              have hb := HBC.out
              replace HSC := Lib.hid HSC.out
              replace HX : Hid (Below w.heap.size w wc) := HX.out.trans (hb.mono HX.out.size)
              replace HL := Lib.hid (HL.out.ext hb (Nat.le_refl _))
              replace HZ := Lib.hid (HZ.out.ext hb (Nat.le_refl _))
              replace HR := Lib.hid (HR.out.ext hb (Nat.le_refl _))
              replace HS := Lib.hid (HS.out.ext hb (Nat.le_refl _))
              replace hz := Nat.lt_of_lt_of_le hz hb.size
              have HS2 : Hid (Rds wc C (entsC E)) := Lib.hid (HSC.out.ext hb (Nat.le_refl _))
              clear hb HSC HS HBC HM HB hmd hmm
              have HRES : Hid ((if atE b t L q1 = some q2 then joinE b t L (skipE b t L q1 E).1 (skipE b t L q1 E).2 else (b, t, L, true, 0)) = res) := by
                show _ = _; rw [← HAPP.out]; unfold mergeE; rw [if_pos HOK.out, HFR.out]
              clear HAPP HFR
              have HS := HS2
              have HAT := Lib.hid (At_any wc b t A n c L HN.out (by omega) HR.out HOK.out.1 q1)
              obtain ⟨o, ho⟩ : ∃ o, o = atE b t L q1 := ⟨_, rfl⟩
              rw [← ho] at HRES HAT
              have HQ := Lib.hid ho
              clear ho HS2
              obtain ⟨k0, k1, k2, f0, f1, f2, _⟩ := HL.out
              obtain ⟨z0, z1, z2, y0, y1, y2, _⟩ := HZ.out
              go_wp2_with fail
              clear k0 k1 k2 f0 f1 f2 z0 z1 z2 y0 y1 y2
              refine HAT.out.mono ?_
              rintro r w3 ⟨rfl, hb⟩
              replace HX : Hid (Below w.heap.size w w3) := HX.out.trans (hb.mono HX.out.size)
              replace HL := Lib.hid (HL.out.ext hb (Nat.le_refl _))
              replace HZ := Lib.hid (HZ.out.ext hb (Nat.le_refl _))
              replace HR := Lib.hid (HR.out.ext hb (Nat.le_refl _))
              replace HS := Lib.hid (HS.out.ext hb (Nat.le_refl _))
              replace hz := Nat.lt_of_lt_of_le hz hb.size
              clear hb HAT
              by_cases hoq : o = some q2
              · subst hoq
                have HRES2 : Hid (joinE b t L (skipE b t L q1 E).1 (skipE b t L q1 E).2 = res) := by
                  show _ = _; rw [← HRES.out, if_pos rfl]
                clear HRES
                have hqq : (q2 != q2) = false := by simp
                dsimp only [atR]
                have hq : ∃ x, atE b t L q1 = some x := ⟨_, HQ.out.symm⟩
                obtain ⟨k0, k1, k2, f0, f1, f2, _⟩ := HL.out
                obtain ⟨z0, z1, z2, y0, y1, y2, _⟩ := HZ.out
                go_wp2_with fail
                clear k0 k1 k2 f0 f1 f2 z0 z1 z2 y0 y1 y2
                go_loopw [1, 3] (fun s1 s3 wx => ∃ (p : Int) (F : List Ent) (D : Option Addr) (l e : Nat), s1 = .int .i64 p ∧ s3 = .slice D l e ∧ Hid (F.length = l) ∧ l ≤ e ∧ l ≤ 100000 ∧ Hid (D = none → l = 0 ∧ e = 0) ∧ Hid (Rds wx D (entsC F)) ∧ Hid (∃ x, atE b t L p = some x) ∧ Hid (joinE b t L (skipE b t L p F).1 (skipE b t L p F).2 = res) ∧ Hid (Below w3.heap.size w3 wx)) (fun _ s3 _ => slenOf s3)
                case atStart => exact ⟨q1, E, C, m', d', rfl, rfl, HME, hmd', hmm', HNC, HS, hq, HRES2, Below.refl _ _⟩
                case round =>
                  clear hq HQ HRES2 HME hmd' hmm' HNC HS
                  obtain ⟨p, F, D, l, e, rfl, rfl, HFL, hle, hl1, HND, HS, HAP, HRS, HBR⟩ := hrel
                  have hb := HBR.out
                  have HS9 := HS
                  have HS : Hid (Rds w3 none (entsC [])) := Rds.nil _ _
                  replace HX : Hid (Below w.heap.size w wr) := HX.out.trans (hb.mono HX.out.size)
                  replace HL := Lib.hid (HL.out.ext hb (Nat.le_refl _))
                  replace HZ := Lib.hid (HZ.out.ext hb (Nat.le_refl _))
                  replace HR := Lib.hid (HR.out.ext hb (Nat.le_refl _))
                  replace HS := Lib.hid (HS.out.ext hb (Nat.le_refl _))
                  replace hz := Nat.lt_of_lt_of_le hz hb.size
                  replace HS := HS9
                  clear hb HS9
                  by_cases hl0 : l = 0
                  · subst hl0
                    have hF : F = [] := List.eq_nil_of_length_eq_zero HFL.out
                    have HE : Hid (res = (b, t, L, false, 0)) := by show _ = _; rw [← HRS.out, hF]; rfl
                    clear HRS hF HAP
                    obtain ⟨k0, k1, k2, f0, f1, f2, _⟩ := HL.out
                    obtain ⟨z0, z1, z2, y0, y1, y2, _⟩ := HZ.out
                    go_wp2_with fail
                    clear k0 k1 k2 f0 f1 f2 z0 z1 z2 y0 y1 y2
                    have hsum : sumLen [L] = n := by simp [sumLen, HN.out]
                    refine (with_any _ b t A n c _ 1 1 [L] rfl (by rw [hsum]; omega) (by omega) (rdsL1 HN.out HA.out HR.out _)).mono ?_
                    rintro e w4 ⟨v, rfl, hown, hb⟩
                    obtain ⟨A1, c1, rfl, p1, p2, p3, p4, p5⟩ := own_rds hown
                    rw [hsum] at hown ⊢
                    rw [show [L].flatten = L by simp] at hown
                    clear p1 p2 p3 p4 p5
                    have hb0 : Below wr.heap.size wr (wr.alloc (.cells #[.slice A n c] 24)) := (Below.refl _ _).alloc (Nat.le_refl _) _
                    have hz3 : w.heap.size + 1 < (wr.alloc (.cells #[.slice A n c] 24)).heap.size := by simp; omega
                    replace hb := hb0.trans (hb.mono (by simp))
                    replace HX : Hid (Below w.heap.size w w4) := HX.out.trans (hb.mono HX.out.size)
                    replace HL := Lib.hid (HL.out.ext hb (Nat.le_refl _))
                    replace HZ := Lib.hid (HZ.out.ext hb (Nat.le_refl _))
                    replace HR := Lib.hid (HR.out.ext hb (Nat.le_refl _))
                    replace HS := Lib.hid (HS.out.ext hb (Nat.le_refl _))
                    replace hz := Nat.lt_of_lt_of_le hz hb.size
                    have HO := Lib.hid hown
                    clear hown hb hb0 hsum
                    obtain ⟨k0, k1, k2, f0, f1, f2, _⟩ := HL.out
                    obtain ⟨z0, z1, z2, y0, y1, y2, _⟩ := HZ.out
                    go_wp2
                    refine bodyPost_ret (v := .tuple #[.agg #[.int .i64 b, .int .i64 t, .slice A1 n c1], .bool false, .int .i64 0]) (by simp [results, Try.results31, go_sem, *]) rfl ?_
                    show MerRet _ _ _ _
                    rw [HE.out]
                    refine ⟨_, rfl, ?_, ((HX.out.setCell (by simp) _).setCell (by simp) _).setCell (by simp) _⟩
                    show World.ownsRow _ _ _ _ _ L.length (entsC L)
                    rw [HN.out]
                    have h := own_lower (own_set (p := w.heap.size + 1) (o := 2) (own_set (p := w.heap.size + 1) (o := 1) (own_set (p := w.heap.size + 1) (o := 0) HO.out hz3 (.int .i64 b)) hz3 (.int .i64 t)) hz3 (.slice A1 n c1)) (base' := w.heap.size) (by omega)
                    simpa using h
                  · have hl : 0 < l := by omega
                    obtain ⟨⟨xi, xt, xd⟩, F', rfl⟩ : ∃ x F', F = x :: F' := by
                      cases F with
                      | nil => exact absurd HFL.out.symm hl0
                      | cons x F' => exact ⟨x, F', rfl⟩
                    obtain ⟨a, rfl, x0, x1, x2⟩ := ents_cells HS.out 0 (by simp)
                    rw [Nat.zero_mul, add_nil a] at x0 x1 x2
                    have HX0 := Lib.hid x0
                    have HX1 := Lib.hid x1
                    clear x0 x1 x2
                    obtain ⟨o, ho⟩ : ∃ o, o = atE b t L xi := ⟨_, rfl⟩
                    have HO := Lib.hid ho
                    have HCA : Hid (∀ wz, Below wr.heap.size wr wz → Calls Try.prog 69 #[.agg #[.int .i64 b, .int .i64 t, .slice A n c], .int .i64 xi] wz fun r w' => r = .returned (.tuple #[.int .i64 (atR o).1, .bool (atR o).2]) ∧ Below wz.heap.size wz w') := Lib.hid (fun wz hz => by
                      have := At_any wz b t A n c L HN.out (by omega) (HR.out.ext hz (Nat.le_refl _)) HOK.out.1 xi
                      rw [← ho] at this; exact this)
                    have HLQ : Hid (∀ wz, Below wr.heap.size wr wz → wz.cell? ⟨w.heap.size, 0, none⟩ = some (.int .i64 b) ∧ wz.cell? ⟨w.heap.size, 1, none⟩ = some (.int .i64 t) ∧ wz.cell? ⟨w.heap.size, 2, none⟩ = some (.slice A n c)) := Lib.hid (fun wz h => by have q := HL.out.ext h (Nat.le_refl _); exact ⟨q.c0, q.c1, q.c2⟩)
                    have HXQ : Hid (∀ wz, Below wr.heap.size wr wz → wz.cell? a = some (.int .i64 xi) ∧ wz.cell? ⟨a.block, a.off + 1, none⟩ = some (.int .i64 xt)) := Lib.hid (fun wz h => ⟨cell_ext h (Nat.le_refl _) HX0.out, cell_ext h (Nat.le_refl _) HX1.out⟩)
                    obtain ⟨k0, k1, k2⟩ := HLQ.out wr (Below.refl _ _)
                    obtain ⟨x0, x1⟩ := HXQ.out wr (Below.refl _ _)
                    have hbd : Below wr.heap.size wr wr.drew := drawn_below wr 1
                    clear ho
                    go_upto_region 10 with (fail)
                    go_region_held3 (fun w' => w'.cell? ⟨w.heap.size, 0, none⟩ = some (.int .i64 b) ∧ w'.cell? ⟨w.heap.size, 1, none⟩ = some (.int .i64 t) ∧ w'.cell? ⟨w.heap.size, 2, none⟩ = some (.slice A n c) ∧ w'.cell? a = some (.int .i64 xi) ∧ w'.cell? ⟨a.block, a.off + 1, none⟩ = some (.int .i64 xt))
                      (first | (with_reducible exact ⟨k0, k1, k2, x0, x1⟩) | go_keep)
                      (first | (go_at_call 69; with_reducible refine (HCA.out wr.drew hbd).mono ?_
                                rintro r w4 ⟨rfl, hb4⟩
                                have HB4 : Hid (Below wr.heap.size wr w4) := hbd.trans (hb4.mono hbd.size)
                                clear hb4 k0 k1 k2 x0 x1
                                obtain ⟨k0, k1, k2⟩ := HLQ.out w4 HB4.out
                                obtain ⟨x0, x1⟩ := HXQ.out w4 HB4.out))
                    by_cases hox : o = some xt
                    · subst hox
                      have hxx : (xt != xt) = false := by simp
                      have HRN : Hid (joinE b t L (skipE b t L xi F').1 (skipE b t L xi F').2 = res) := by
                        show _ = _; rw [← HRS.out]
                        have : skipE b t L p ((xi, xt, xd) :: F') = skipE b t L xi F' := by show (if atE b t L xi = some xt then _ else _) = _; rw [if_pos HO.out.symm]
                        rw [this]
                      have HAP2 : Hid (∃ x, atE b t L xi = some x) := ⟨_, HO.out.symm⟩
                      have HFL2 : Hid (F'.length = l - 1) := by show _ = _; have := HFL.out; simp at this; omega
                      have HDR : Hid (Rds wr (some ⟨a.block, a.off + 3, none⟩) (entsC F')) := Lib.hid (by have h := rds_drop (k := 1) HS.out rfl; rwa [show a.add (1 * 3) = ⟨a.block, a.off + 3, none⟩ by simp [Addr.add]] at h)
                      have hle1 : (1 : Int) ≤ (l : Int) := by omega
                      have he1 : (1 : Int) ≤ (e : Int) := by omega
                      dsimp only [atR]
                      by_cases hez : e = 1
                      · go_wp2_with fail
                        go_quiet (fail)
                        go_wp2
                        go_roundw
                        case rel =>
                          have hl9 : l = 1 := by omega
                          subst hl9
                          subst hez
                          have hF : F' = [] := List.eq_nil_of_length_eq_zero (by have := HFL2.out; omega)
                          subst hF
                          exact ⟨xi, [], _, _, _, rfl, rfl, rfl, Nat.le_refl _, Nat.zero_le _, Lib.hid (fun _ => ⟨rfl, rfl⟩), Rds.nil _ _, HAP2, HRN, HBR.out.trans ((HB4.out.trans ((drawn_below w4 nq).mono HB4.out.size)).mono HBR.out.size)⟩
                        case measure => simp [slenOf]; omega
                      · have hez2 : ¬ e - 1 = 0 := by omega
                        go_wp2_with fail
                        go_quiet (fail)
                        go_wp2
                        go_roundw
                        case rel =>
                          have hb9 := HB4.out.trans ((drawn_below w4 nq).mono HB4.out.size)
                          exact ⟨xi, F', _, _, _, rfl, rfl, HFL2, by omega, by omega, Lib.hid (fun h => by cases h), HDR.out.ext hb9 (Nat.le_refl _), HAP2, HRN, HBR.out.trans (hb9.mono HBR.out.size)⟩
                        case measure => simp [slenOf]; omega
                    · have HE0 : Hid (joinE b t L p ((xi, xt, xd) :: F') = res) := by
                        show _ = _; rw [← HRS.out]
                        have : skipE b t L p ((xi, xt, xd) :: F') = (p, (xi, xt, xd) :: F') := by show (if atE b t L xi = some xt then _ else _) = _; rw [if_neg (by rw [← HO.out]; exact hox)]
                        rw [this]
                      have hhas : (atR o).2 = false ∨ ((atR o).2 = true ∧ ((atR o).1 != xt) = true) := by
                        cases o with
                        | none => exact .inl rfl
                        | some y => exact .inr ⟨rfl, by rw [bne_iff_ne]; intro e; exact hox (by rw [← e]; rfl)⟩
                      obtain ⟨y1, hy1⟩ : ∃ y, y = (atR o).1 := ⟨_, rfl⟩
                      obtain ⟨y2, hy2⟩ : ∃ y, y = (atR o).2 := ⟨_, rfl⟩
                      rw [← hy1, ← hy2] at hhas ⊢
                      clear hy1 hy2 hox
                      have hpr : b ≤ p ∧ p ≤ b + n := by obtain ⟨x, hx⟩ := HAP.out; have := atE_range hx; rw [HN.out] at this; exact this
                      obtain ⟨kk, rfl⟩ : ∃ kk : Nat, p = b + kk := ⟨(p - b).toNat, by omega⟩
                      have hkn : kk ≤ n := by omega
                      have hsub : b + (kk : Int) - b = (kk : Int) := by omega
                      have hwr : IntKind.i64.wrap (b + (kk : Int) - b) = (kk : Int) := by rw [hsub]; exact wrap_id (by omega)
                      have hwr2 : IntKind.i64.wrap (kk : Int) = (kk : Int) := wrap_id (by omega)
                      have HLK : Hid ((L.take kk).length = kk) := by show _ = _; rw [List.length_take, HN.out]; omega
                      have HJ : Hid (res = if 512 < kk + l then (0, 0, [], false, 6) else if mayL b t (L.take kk ++ (xi, xt, xd) :: F') then (b, t, L.take kk ++ (xi, xt, xd) :: F', false, 0) else (0, 0, [], false, 1)) := by
                        show _ = _
                        rw [← HE0.out]
                        unfold joinE
                        rw [if_neg (by rw [HFL.out]; omega), List.length_append, show (b + (kk : Int) - b).toNat = kk by omega, HLK.out, HFL.out]
                      clear HX0 HX1 HXQ HLQ HCA HE0 HRS
                      generalize hFF : (xi, xt, xd) :: F' = FF at *
                      clear hFF
                      replace HS := Lib.hid (HS.out.ext HB4.out (Nat.le_refl _))
                      have HL4 := Lib.hid (HL.out.ext HB4.out (Nat.le_refl _))
                      have HZ4 := Lib.hid (HZ.out.ext HB4.out (Nat.le_refl _))
                      have HR4 := Lib.hid (HR.out.ext HB4.out (Nat.le_refl _))
                      have HX4 : Hid (Below w.heap.size w w4) := HX.out.trans (HB4.out.mono HX.out.size)
                      have hz4 : w.heap.size + 1 < w4.heap.size := Nat.lt_of_lt_of_le hz HB4.out.size
                      have hx1Q := x1
                      have hli : ((l : Int) == 0) = false := by rw [beq_eq_false_iff_ne]; omega
                      clear hpr HAP HX HL HZ HR
                      have hA0 : c = 0 ∨ ∃ a, A = some a ∧ ¬ c = 0 := by
                        cases A with
                        | none => exact .inl (HA.out rfl).2
                        | some a => by_cases h : c = 0
                                    · exact .inl h
                                    · exact .inr ⟨a, rfl, h⟩
                      rcases hA0 with hc0 | ⟨a', rfl, hcz⟩
                      · subst hc0
                        obtain rfl : n = 0 := by omega
                        obtain rfl : kk = 0 := by omega
                        have hw0 : IntKind.i64.wrap 0 = 0 := by decide
                        have hw1 : IntKind.i64.wrap b = b := wrap_id (by omega)
                        rcases hhas with rfl | ⟨rfl, hne⟩
                        ·
                          obtain ⟨kl, hkl⟩ : ∃ kl, kl = 0 + l := ⟨_, rfl⟩
                          rw [← hkl] at HJ
                          have HKL := Lib.hid hkl
                          have hkl9 : kl ≤ 200000 := by omega
                          clear hkl
                          have HWT : Hid (Calls Try.prog 66 #[.agg #[.int .i64 b, .int .i64 t, .slice A 0 0], .slice (some ⟨w4.heap.size, 0, none⟩) 2 2] (w4.alloc (.cells #[.slice A 0 0, .slice (some a) l e] 24)).drew fun r w' => ∃ (A1 : Option Addr) (c1 : Nat), r = .returned (.agg #[.int .i64 b, .int .i64 t, .slice A1 kl c1]) ∧ w'.ownsRow (w4.heap.size + 1) 56 3 (.slice A1 kl c1) kl (entsC (L.take 0 ++ FF)) ∧ Below w4.heap.size w4 w') := Lib.hid (by
                            have hsum : sumLen [L.take 0, FF] = kl := by rw [HKL.out]; simp [sumLen, HLK.out, HFL.out]
                            refine (with_any _ b t A 0 0 _ 2 2 [L.take 0, FF] rfl (by rw [hsum]; omega) (by omega) (RdsL.drew (rdsL2 HLK.out HFL.out (fun _ => ⟨rfl, rfl⟩) (fun h => by cases h) (rds_take HR4.out 0) HS.out _))).mono ?_
                            rintro r w5 ⟨v, rfl, hown, hb⟩
                            rw [hsum, show [L.take 0, FF].flatten = L.take 0 ++ FF by simp] at hown
                            obtain ⟨A1, c1, rfl, p1, p2, p3, p4, p5⟩ := own_rds hown
                            have hb4 : Below w4.heap.size w4 (w4.alloc (.cells #[.slice A 0 0, .slice (some a) l e] 24)).drew := (let h := (Below.refl w4.heap.size w4).alloc (Nat.le_refl _) (.cells #[.slice A 0 0, .slice (some a) l e] 24); ⟨h.os, h.tape, h.output, h.size, h.block⟩)
                            refine ⟨A1, c1, rfl, ?_, hb4.trans (hb.mono (by simp))⟩
                            have hs : (w4.alloc (.cells #[.slice A 0 0, .slice (some a) l e] 24)).drew.heap.size = w4.heap.size + 1 := by simp [World.drew, World.drewN]
                            rw [hs] at hown
                            exact hown)
                          go_upto_region 15 with (fail)
                          go_region_held3 (fun w' => w'.cell? ⟨w.heap.size, 0, none⟩ = some (.int .i64 b) ∧ w'.cell? ⟨w.heap.size, 1, none⟩ = some (.int .i64 t) ∧ w'.cell? ⟨w.heap.size, 2, none⟩ = some (Value.slice A 0 0))
                              (first | go_keep | exact ⟨k0, k1, k2⟩)
                              (first | (go_at_call 66; with_reducible refine HWT.out.mono ?_
                                        rintro r w5 ⟨A1, c1, rfl, hown, hb5⟩
                                        have HB5 := Lib.hid hb5
                                        have HO5 := Lib.hid hown
                                        have HL5 := HL4.out.ext hb5 (Nat.le_refl _)
                                        have HZ5 := Lib.hid (HZ4.out.ext hb5 (Nat.le_refl _))
                                        clear hown hb5 k0 k1 k2
                                        obtain ⟨k0, k1, k2, _, _, _, _⟩ := HL5
                                        obtain ⟨z0, z1, z2, y0, y1', y2', _⟩ := HZ5.out))
                          go_upto_region 16 with (fail)
                          obtain ⟨w6, hw6⟩ : ∃ w6, w6 = ((w5.setCell ⟨w.heap.size + 1, 0, none⟩ (.int .i64 b)).setCell ⟨w.heap.size + 1, 1, none⟩ (.int .i64 t)).setCell ⟨w.heap.size + 1, 2, none⟩ (.slice A1 kl c1) := ⟨_, rfl⟩
                          have HP6 : Hid (Lg w6 (w.heap.size + 1) b t (.slice A1 kl c1)) := by rw [hw6]; exact HZ5.out.put b t _
                          have HX6 : Hid (Below w.heap.size w w6) := by rw [hw6]; exact below_put (HX4.out.trans (HB5.out.mono HX4.out.size)) (by omega) _ _ _
                          have HO6 : Hid (w6.ownsRow (w4.heap.size + 1) 56 3 (.slice A1 kl c1) kl (entsC (L.take 0 ++ FF))) := by rw [hw6]; exact own_set (own_set (own_set HO5.out (by omega) _) (by omega) _) (by omega) _
                          rw [← hw6]
                          have HML : Hid ((L.take 0 ++ FF).length = kl) := by show _ = _; rw [List.length_append, HLK.out, HFL.out, HKL.out]
                          generalize L.take 0 ++ FF = M at *
                          have HR6 : Hid (Rds w6 A1 (entsC M)) := by obtain ⟨A9, c9, e9, _, _, _, p4, _⟩ := own_rds HO6.out; cases e9; exact p4
                          clear hw6 HO5 HZ5 HB5 HWT HL4 HZ4 HR4 HX4 HS HKL HLK HFL k0 k1 k2 z0 z1 z2 y0 y1' y2' x0 x1 hx1Q
                          obtain ⟨z0, z1, z2, y0, y1', y2', _⟩ := HP6.out
                          have HX := HX6
                          by_cases h512 : 512 < kl
                          · have h5i : (512 : Int) < (kl : Int) := by omega
                            have HE : Hid (res = (0, 0, [], false, 6)) := by show _ = _; rw [HJ.out, if_pos h512]
                            go_wp2
                            refine bodyPost_ret (v := .tuple #[.agg #[.int .i64 0, .int .i64 0, .slice none 0 0], .bool false, .int .i64 6]) (by simp [results, Try.results31, go_sem, *]) rfl ?_
                            show MerRet _ _ _ _
                            rw [HE.out]
                            refine ⟨_, rfl, World.ownsRow_nil _ _ _ _, ?_⟩
                            exact ((HX.out.setCell (by simp) _).setCell (by simp) _).setCell (by simp) _
                          · have h5i : ¬ (512 : Int) < (kl : Int) := by omega
                            rw [if_neg h512] at HJ
                            by_cases hmay : mayL b t M
                            · have HE : Hid (res = (b, t, M, false, 0)) := by show _ = _; rw [HJ.out, if_pos hmay]
                              have HMM := Lib.hid (decide_eq_true hmay)
                              clear HJ hmay
                              go_wp2_with fail
                              refine (May_any w6 b t A1 kl c1 M HML.out (by omega) HR6.out _ HMM.out).mono ?_
                              rintro r w7 ⟨rfl, hb⟩
                              have HP7 := Lib.hid (HP6.out.ext hb (Nat.le_refl _))
                              have HO7 := Lib.hid (own_ext HO6.out hb (Nat.le_refl _))
                              have HX7 : Hid (Below w.heap.size w w7) := HX6.out.trans (hb.mono HX6.out.size)
                              clear hb z0 z1 z2 y0 y1' y2' HMM HR6 HP6 HO6 HX6 HX
                              obtain ⟨z0, z1, z2, y0, y1', y2', _⟩ := HP7.out
                              go_wp2
                              refine bodyPost_ret (v := .tuple #[.agg #[.int .i64 b, .int .i64 t, .slice A1 kl c1], .bool false, .int .i64 0]) (by simp [results, Try.results31, go_sem, *]) rfl ?_
                              show MerRet _ _ _ _
                              rw [HE.out]
                              refine ⟨_, rfl, ?_, ((HX7.out.setCell (by simp) _).setCell (by simp) _).setCell (by simp) _⟩
                              show World.ownsRow _ _ _ _ _ M.length (entsC M)
                              rw [HML.out]
                              exact own_lower (own_set (own_set (own_set HO7.out (by omega) _) (by omega) _) (by omega) _) (by omega)
                            · have HE : Hid (res = (0, 0, [], false, 1)) := by show _ = _; rw [HJ.out, if_neg hmay]
                              have HMM := Lib.hid (decide_eq_false hmay)
                              clear HJ hmay
                              go_wp2_with fail
                              refine (May_any w6 b t A1 kl c1 M HML.out (by omega) HR6.out _ HMM.out).mono ?_
                              rintro r w7 ⟨rfl, hb⟩
                              have HP7 := Lib.hid (HP6.out.ext hb (Nat.le_refl _))
                              have HX7 : Hid (Below w.heap.size w w7) := HX6.out.trans (hb.mono HX6.out.size)
                              clear hb z0 z1 z2 y0 y1' y2' HMM HR6 HP6 HO6 HX6 HX
                              have HX := HX7
                              obtain ⟨z0, z1, z2, y0, y1', y2', _⟩ := HP7.out
                              go_wp2
                              refine bodyPost_ret (v := .tuple #[.agg #[.int .i64 0, .int .i64 0, .slice none 0 0], .bool false, .int .i64 1]) (by simp [results, Try.results31, go_sem, *]) rfl ?_
                              show MerRet _ _ _ _
                              rw [HE.out]
                              refine ⟨_, rfl, World.ownsRow_nil _ _ _ _, ?_⟩
                              exact ((HX.out.setCell (by simp) _).setCell (by simp) _).setCell (by simp) _
                        ·
                          obtain ⟨kl, hkl⟩ : ∃ kl, kl = 0 + l := ⟨_, rfl⟩
                          rw [← hkl] at HJ
                          have HKL := Lib.hid hkl
                          have hkl9 : kl ≤ 200000 := by omega
                          clear hkl
                          have HWT : Hid (Calls Try.prog 66 #[.agg #[.int .i64 b, .int .i64 t, .slice A 0 0], .slice (some ⟨w4.heap.size, 0, none⟩) 2 2] (w4.alloc (.cells #[.slice A 0 0, .slice (some a) l e] 24)).drew fun r w' => ∃ (A1 : Option Addr) (c1 : Nat), r = .returned (.agg #[.int .i64 b, .int .i64 t, .slice A1 kl c1]) ∧ w'.ownsRow (w4.heap.size + 1) 56 3 (.slice A1 kl c1) kl (entsC (L.take 0 ++ FF)) ∧ Below w4.heap.size w4 w') := Lib.hid (by
                            have hsum : sumLen [L.take 0, FF] = kl := by rw [HKL.out]; simp [sumLen, HLK.out, HFL.out]
                            refine (with_any _ b t A 0 0 _ 2 2 [L.take 0, FF] rfl (by rw [hsum]; omega) (by omega) (RdsL.drew (rdsL2 HLK.out HFL.out (fun _ => ⟨rfl, rfl⟩) (fun h => by cases h) (rds_take HR4.out 0) HS.out _))).mono ?_
                            rintro r w5 ⟨v, rfl, hown, hb⟩
                            rw [hsum, show [L.take 0, FF].flatten = L.take 0 ++ FF by simp] at hown
                            obtain ⟨A1, c1, rfl, p1, p2, p3, p4, p5⟩ := own_rds hown
                            have hb4 : Below w4.heap.size w4 (w4.alloc (.cells #[.slice A 0 0, .slice (some a) l e] 24)).drew := (let h := (Below.refl w4.heap.size w4).alloc (Nat.le_refl _) (.cells #[.slice A 0 0, .slice (some a) l e] 24); ⟨h.os, h.tape, h.output, h.size, h.block⟩)
                            refine ⟨A1, c1, rfl, ?_, hb4.trans (hb.mono (by simp))⟩
                            have hs : (w4.alloc (.cells #[.slice A 0 0, .slice (some a) l e] 24)).drew.heap.size = w4.heap.size + 1 := by simp [World.drew, World.drewN]
                            rw [hs] at hown
                            exact hown)
                          go_upto_region 15 with (fail)
                          go_region_held3 (fun w' => w'.cell? ⟨w.heap.size, 0, none⟩ = some (.int .i64 b) ∧ w'.cell? ⟨w.heap.size, 1, none⟩ = some (.int .i64 t) ∧ w'.cell? ⟨w.heap.size, 2, none⟩ = some (Value.slice A 0 0))
                              (first | go_keep | exact ⟨k0, k1, k2⟩)
                              (first | (go_at_call 66; with_reducible refine HWT.out.mono ?_
                                        rintro r w5 ⟨A1, c1, rfl, hown, hb5⟩
                                        have HB5 := Lib.hid hb5
                                        have HO5 := Lib.hid hown
                                        have HL5 := HL4.out.ext hb5 (Nat.le_refl _)
                                        have HZ5 := Lib.hid (HZ4.out.ext hb5 (Nat.le_refl _))
                                        clear hown hb5 k0 k1 k2
                                        obtain ⟨k0, k1, k2, _, _, _, _⟩ := HL5
                                        obtain ⟨z0, z1, z2, y0, y1', y2', _⟩ := HZ5.out))
                          go_upto_region 16 with (fail)
                          obtain ⟨w6, hw6⟩ : ∃ w6, w6 = ((w5.setCell ⟨w.heap.size + 1, 0, none⟩ (.int .i64 b)).setCell ⟨w.heap.size + 1, 1, none⟩ (.int .i64 t)).setCell ⟨w.heap.size + 1, 2, none⟩ (.slice A1 kl c1) := ⟨_, rfl⟩
                          have HP6 : Hid (Lg w6 (w.heap.size + 1) b t (.slice A1 kl c1)) := by rw [hw6]; exact HZ5.out.put b t _
                          have HX6 : Hid (Below w.heap.size w w6) := by rw [hw6]; exact below_put (HX4.out.trans (HB5.out.mono HX4.out.size)) (by omega) _ _ _
                          have HO6 : Hid (w6.ownsRow (w4.heap.size + 1) 56 3 (.slice A1 kl c1) kl (entsC (L.take 0 ++ FF))) := by rw [hw6]; exact own_set (own_set (own_set HO5.out (by omega) _) (by omega) _) (by omega) _
                          rw [← hw6]
                          have HML : Hid ((L.take 0 ++ FF).length = kl) := by show _ = _; rw [List.length_append, HLK.out, HFL.out, HKL.out]
                          generalize L.take 0 ++ FF = M at *
                          have HR6 : Hid (Rds w6 A1 (entsC M)) := by obtain ⟨A9, c9, e9, _, _, _, p4, _⟩ := own_rds HO6.out; cases e9; exact p4
                          clear hw6 HO5 HZ5 HB5 HWT HL4 HZ4 HR4 HX4 HS HKL HLK HFL k0 k1 k2 z0 z1 z2 y0 y1' y2' x0 x1 hx1Q
                          obtain ⟨z0, z1, z2, y0, y1', y2', _⟩ := HP6.out
                          have HX := HX6
                          by_cases h512 : 512 < kl
                          · have h5i : (512 : Int) < (kl : Int) := by omega
                            have HE : Hid (res = (0, 0, [], false, 6)) := by show _ = _; rw [HJ.out, if_pos h512]
                            go_wp2
                            refine bodyPost_ret (v := .tuple #[.agg #[.int .i64 0, .int .i64 0, .slice none 0 0], .bool false, .int .i64 6]) (by simp [results, Try.results31, go_sem, *]) rfl ?_
                            show MerRet _ _ _ _
                            rw [HE.out]
                            refine ⟨_, rfl, World.ownsRow_nil _ _ _ _, ?_⟩
                            exact ((HX.out.setCell (by simp) _).setCell (by simp) _).setCell (by simp) _
                          · have h5i : ¬ (512 : Int) < (kl : Int) := by omega
                            rw [if_neg h512] at HJ
                            by_cases hmay : mayL b t M
                            · have HE : Hid (res = (b, t, M, false, 0)) := by show _ = _; rw [HJ.out, if_pos hmay]
                              have HMM := Lib.hid (decide_eq_true hmay)
                              clear HJ hmay
                              go_wp2_with fail
                              refine (May_any w6 b t A1 kl c1 M HML.out (by omega) HR6.out _ HMM.out).mono ?_
                              rintro r w7 ⟨rfl, hb⟩
                              have HP7 := Lib.hid (HP6.out.ext hb (Nat.le_refl _))
                              have HO7 := Lib.hid (own_ext HO6.out hb (Nat.le_refl _))
                              have HX7 : Hid (Below w.heap.size w w7) := HX6.out.trans (hb.mono HX6.out.size)
                              clear hb z0 z1 z2 y0 y1' y2' HMM HR6 HP6 HO6 HX6 HX
                              obtain ⟨z0, z1, z2, y0, y1', y2', _⟩ := HP7.out
                              go_wp2
                              refine bodyPost_ret (v := .tuple #[.agg #[.int .i64 b, .int .i64 t, .slice A1 kl c1], .bool false, .int .i64 0]) (by simp [results, Try.results31, go_sem, *]) rfl ?_
                              show MerRet _ _ _ _
                              rw [HE.out]
                              refine ⟨_, rfl, ?_, ((HX7.out.setCell (by simp) _).setCell (by simp) _).setCell (by simp) _⟩
                              show World.ownsRow _ _ _ _ _ M.length (entsC M)
                              rw [HML.out]
                              exact own_lower (own_set (own_set (own_set HO7.out (by omega) _) (by omega) _) (by omega) _) (by omega)
                            · have HE : Hid (res = (0, 0, [], false, 1)) := by show _ = _; rw [HJ.out, if_neg hmay]
                              have HMM := Lib.hid (decide_eq_false hmay)
                              clear HJ hmay
                              go_wp2_with fail
                              refine (May_any w6 b t A1 kl c1 M HML.out (by omega) HR6.out _ HMM.out).mono ?_
                              rintro r w7 ⟨rfl, hb⟩
                              have HP7 := Lib.hid (HP6.out.ext hb (Nat.le_refl _))
                              have HX7 : Hid (Below w.heap.size w w7) := HX6.out.trans (hb.mono HX6.out.size)
                              clear hb z0 z1 z2 y0 y1' y2' HMM HR6 HP6 HO6 HX6 HX
                              have HX := HX7
                              obtain ⟨z0, z1, z2, y0, y1', y2', _⟩ := HP7.out
                              go_wp2
                              refine bodyPost_ret (v := .tuple #[.agg #[.int .i64 0, .int .i64 0, .slice none 0 0], .bool false, .int .i64 1]) (by simp [results, Try.results31, go_sem, *]) rfl ?_
                              show MerRet _ _ _ _
                              rw [HE.out]
                              refine ⟨_, rfl, World.ownsRow_nil _ _ _ _, ?_⟩
                              exact ((HX.out.setCell (by simp) _).setCell (by simp) _).setCell (by simp) _
                      · have hk0 : (0 : Int) ≤ (kk : Int) := by omega
                        have hkc : (kk : Int) ≤ (c : Int) := by omega
                        rcases hhas with rfl | ⟨rfl, hne⟩
                        ·
                          obtain ⟨kl, hkl⟩ : ∃ kl, kl = kk + l := ⟨_, rfl⟩
                          rw [← hkl] at HJ
                          have HKL := Lib.hid hkl
                          have hkl9 : kl ≤ 200000 := by omega
                          clear hkl
                          have HWT : Hid (Calls Try.prog 66 #[.agg #[.int .i64 b, .int .i64 t, .slice (some a') n c], .slice (some ⟨w4.heap.size, 0, none⟩) 2 2] (w4.alloc (.cells #[.slice (some a') kk c, .slice (some a) l e] 24)).drew fun r w' => ∃ (A1 : Option Addr) (c1 : Nat), r = .returned (.agg #[.int .i64 b, .int .i64 t, .slice A1 kl c1]) ∧ w'.ownsRow (w4.heap.size + 1) 56 3 (.slice A1 kl c1) kl (entsC (L.take kk ++ FF)) ∧ Below w4.heap.size w4 w') := Lib.hid (by
                            have hsum : sumLen [L.take kk, FF] = kl := by rw [HKL.out]; simp [sumLen, HLK.out, HFL.out]
                            refine (with_any _ b t (some a') n c _ 2 2 [L.take kk, FF] rfl (by rw [hsum]; omega) (by omega) (RdsL.drew (rdsL2 HLK.out HFL.out (fun h => by cases h) (fun h => by cases h) (rds_take HR4.out kk) HS.out _))).mono ?_
                            rintro r w5 ⟨v, rfl, hown, hb⟩
                            rw [hsum, show [L.take kk, FF].flatten = L.take kk ++ FF by simp] at hown
                            obtain ⟨A1, c1, rfl, p1, p2, p3, p4, p5⟩ := own_rds hown
                            have hb4 : Below w4.heap.size w4 (w4.alloc (.cells #[.slice (some a') kk c, .slice (some a) l e] 24)).drew := (let h := (Below.refl w4.heap.size w4).alloc (Nat.le_refl _) (.cells #[.slice (some a') kk c, .slice (some a) l e] 24); ⟨h.os, h.tape, h.output, h.size, h.block⟩)
                            refine ⟨A1, c1, rfl, ?_, hb4.trans (hb.mono (by simp))⟩
                            have hs : (w4.alloc (.cells #[.slice (some a') kk c, .slice (some a) l e] 24)).drew.heap.size = w4.heap.size + 1 := by simp [World.drew, World.drewN]
                            rw [hs] at hown
                            exact hown)
                          go_upto_region 15 with (fail)
                          go_region_held3 (fun w' => w'.cell? ⟨w.heap.size, 0, none⟩ = some (.int .i64 b) ∧ w'.cell? ⟨w.heap.size, 1, none⟩ = some (.int .i64 t) ∧ w'.cell? ⟨w.heap.size, 2, none⟩ = some (Value.slice (some a') n c))
                              (first | go_keep | exact ⟨k0, k1, k2⟩)
                              (first | (go_at_call 66; with_reducible refine HWT.out.mono ?_
                                        rintro r w5 ⟨A1, c1, rfl, hown, hb5⟩
                                        have HB5 := Lib.hid hb5
                                        have HO5 := Lib.hid hown
                                        have HL5 := HL4.out.ext hb5 (Nat.le_refl _)
                                        have HZ5 := Lib.hid (HZ4.out.ext hb5 (Nat.le_refl _))
                                        clear hown hb5 k0 k1 k2
                                        obtain ⟨k0, k1, k2, _, _, _, _⟩ := HL5
                                        obtain ⟨z0, z1, z2, y0, y1', y2', _⟩ := HZ5.out))
                          go_upto_region 16 with (fail)
                          obtain ⟨w6, hw6⟩ : ∃ w6, w6 = ((w5.setCell ⟨w.heap.size + 1, 0, none⟩ (.int .i64 b)).setCell ⟨w.heap.size + 1, 1, none⟩ (.int .i64 t)).setCell ⟨w.heap.size + 1, 2, none⟩ (.slice A1 kl c1) := ⟨_, rfl⟩
                          have HP6 : Hid (Lg w6 (w.heap.size + 1) b t (.slice A1 kl c1)) := by rw [hw6]; exact HZ5.out.put b t _
                          have HX6 : Hid (Below w.heap.size w w6) := by rw [hw6]; exact below_put (HX4.out.trans (HB5.out.mono HX4.out.size)) (by omega) _ _ _
                          have HO6 : Hid (w6.ownsRow (w4.heap.size + 1) 56 3 (.slice A1 kl c1) kl (entsC (L.take kk ++ FF))) := by rw [hw6]; exact own_set (own_set (own_set HO5.out (by omega) _) (by omega) _) (by omega) _
                          rw [← hw6]
                          have HML : Hid ((L.take kk ++ FF).length = kl) := by show _ = _; rw [List.length_append, HLK.out, HFL.out, HKL.out]
                          generalize L.take kk ++ FF = M at *
                          have HR6 : Hid (Rds w6 A1 (entsC M)) := by obtain ⟨A9, c9, e9, _, _, _, p4, _⟩ := own_rds HO6.out; cases e9; exact p4
                          clear hw6 HO5 HZ5 HB5 HWT HL4 HZ4 HR4 HX4 HS HKL HLK HFL k0 k1 k2 z0 z1 z2 y0 y1' y2' x0 x1 hx1Q
                          obtain ⟨z0, z1, z2, y0, y1', y2', _⟩ := HP6.out
                          have HX := HX6
                          by_cases h512 : 512 < kl
                          · have h5i : (512 : Int) < (kl : Int) := by omega
                            have HE : Hid (res = (0, 0, [], false, 6)) := by show _ = _; rw [HJ.out, if_pos h512]
                            go_wp2
                            refine bodyPost_ret (v := .tuple #[.agg #[.int .i64 0, .int .i64 0, .slice none 0 0], .bool false, .int .i64 6]) (by simp [results, Try.results31, go_sem, *]) rfl ?_
                            show MerRet _ _ _ _
                            rw [HE.out]
                            refine ⟨_, rfl, World.ownsRow_nil _ _ _ _, ?_⟩
                            exact ((HX.out.setCell (by simp) _).setCell (by simp) _).setCell (by simp) _
                          · have h5i : ¬ (512 : Int) < (kl : Int) := by omega
                            rw [if_neg h512] at HJ
                            by_cases hmay : mayL b t M
                            · have HE : Hid (res = (b, t, M, false, 0)) := by show _ = _; rw [HJ.out, if_pos hmay]
                              have HMM := Lib.hid (decide_eq_true hmay)
                              clear HJ hmay
                              go_wp2_with fail
                              refine (May_any w6 b t A1 kl c1 M HML.out (by omega) HR6.out _ HMM.out).mono ?_
                              rintro r w7 ⟨rfl, hb⟩
                              have HP7 := Lib.hid (HP6.out.ext hb (Nat.le_refl _))
                              have HO7 := Lib.hid (own_ext HO6.out hb (Nat.le_refl _))
                              have HX7 : Hid (Below w.heap.size w w7) := HX6.out.trans (hb.mono HX6.out.size)
                              clear hb z0 z1 z2 y0 y1' y2' HMM HR6 HP6 HO6 HX6 HX
                              obtain ⟨z0, z1, z2, y0, y1', y2', _⟩ := HP7.out
                              go_wp2
                              refine bodyPost_ret (v := .tuple #[.agg #[.int .i64 b, .int .i64 t, .slice A1 kl c1], .bool false, .int .i64 0]) (by simp [results, Try.results31, go_sem, *]) rfl ?_
                              show MerRet _ _ _ _
                              rw [HE.out]
                              refine ⟨_, rfl, ?_, ((HX7.out.setCell (by simp) _).setCell (by simp) _).setCell (by simp) _⟩
                              show World.ownsRow _ _ _ _ _ M.length (entsC M)
                              rw [HML.out]
                              exact own_lower (own_set (own_set (own_set HO7.out (by omega) _) (by omega) _) (by omega) _) (by omega)
                            · have HE : Hid (res = (0, 0, [], false, 1)) := by show _ = _; rw [HJ.out, if_neg hmay]
                              have HMM := Lib.hid (decide_eq_false hmay)
                              clear HJ hmay
                              go_wp2_with fail
                              refine (May_any w6 b t A1 kl c1 M HML.out (by omega) HR6.out _ HMM.out).mono ?_
                              rintro r w7 ⟨rfl, hb⟩
                              have HP7 := Lib.hid (HP6.out.ext hb (Nat.le_refl _))
                              have HX7 : Hid (Below w.heap.size w w7) := HX6.out.trans (hb.mono HX6.out.size)
                              clear hb z0 z1 z2 y0 y1' y2' HMM HR6 HP6 HO6 HX6 HX
                              have HX := HX7
                              obtain ⟨z0, z1, z2, y0, y1', y2', _⟩ := HP7.out
                              go_wp2
                              refine bodyPost_ret (v := .tuple #[.agg #[.int .i64 0, .int .i64 0, .slice none 0 0], .bool false, .int .i64 1]) (by simp [results, Try.results31, go_sem, *]) rfl ?_
                              show MerRet _ _ _ _
                              rw [HE.out]
                              refine ⟨_, rfl, World.ownsRow_nil _ _ _ _, ?_⟩
                              exact ((HX.out.setCell (by simp) _).setCell (by simp) _).setCell (by simp) _
                        ·
                          obtain ⟨kl, hkl⟩ : ∃ kl, kl = kk + l := ⟨_, rfl⟩
                          rw [← hkl] at HJ
                          have HKL := Lib.hid hkl
                          have hkl9 : kl ≤ 200000 := by omega
                          clear hkl
                          have HWT : Hid (Calls Try.prog 66 #[.agg #[.int .i64 b, .int .i64 t, .slice (some a') n c], .slice (some ⟨w4.heap.size, 0, none⟩) 2 2] (w4.alloc (.cells #[.slice (some a') kk c, .slice (some a) l e] 24)).drew fun r w' => ∃ (A1 : Option Addr) (c1 : Nat), r = .returned (.agg #[.int .i64 b, .int .i64 t, .slice A1 kl c1]) ∧ w'.ownsRow (w4.heap.size + 1) 56 3 (.slice A1 kl c1) kl (entsC (L.take kk ++ FF)) ∧ Below w4.heap.size w4 w') := Lib.hid (by
                            have hsum : sumLen [L.take kk, FF] = kl := by rw [HKL.out]; simp [sumLen, HLK.out, HFL.out]
                            refine (with_any _ b t (some a') n c _ 2 2 [L.take kk, FF] rfl (by rw [hsum]; omega) (by omega) (RdsL.drew (rdsL2 HLK.out HFL.out (fun h => by cases h) (fun h => by cases h) (rds_take HR4.out kk) HS.out _))).mono ?_
                            rintro r w5 ⟨v, rfl, hown, hb⟩
                            rw [hsum, show [L.take kk, FF].flatten = L.take kk ++ FF by simp] at hown
                            obtain ⟨A1, c1, rfl, p1, p2, p3, p4, p5⟩ := own_rds hown
                            have hb4 : Below w4.heap.size w4 (w4.alloc (.cells #[.slice (some a') kk c, .slice (some a) l e] 24)).drew := (let h := (Below.refl w4.heap.size w4).alloc (Nat.le_refl _) (.cells #[.slice (some a') kk c, .slice (some a) l e] 24); ⟨h.os, h.tape, h.output, h.size, h.block⟩)
                            refine ⟨A1, c1, rfl, ?_, hb4.trans (hb.mono (by simp))⟩
                            have hs : (w4.alloc (.cells #[.slice (some a') kk c, .slice (some a) l e] 24)).drew.heap.size = w4.heap.size + 1 := by simp [World.drew, World.drewN]
                            rw [hs] at hown
                            exact hown)
                          go_upto_region 15 with (fail)
                          go_region_held3 (fun w' => w'.cell? ⟨w.heap.size, 0, none⟩ = some (.int .i64 b) ∧ w'.cell? ⟨w.heap.size, 1, none⟩ = some (.int .i64 t) ∧ w'.cell? ⟨w.heap.size, 2, none⟩ = some (Value.slice (some a') n c))
                              (first | go_keep | exact ⟨k0, k1, k2⟩)
                              (first | (go_at_call 66; with_reducible refine HWT.out.mono ?_
                                        rintro r w5 ⟨A1, c1, rfl, hown, hb5⟩
                                        have HB5 := Lib.hid hb5
                                        have HO5 := Lib.hid hown
                                        have HL5 := HL4.out.ext hb5 (Nat.le_refl _)
                                        have HZ5 := Lib.hid (HZ4.out.ext hb5 (Nat.le_refl _))
                                        clear hown hb5 k0 k1 k2
                                        obtain ⟨k0, k1, k2, _, _, _, _⟩ := HL5
                                        obtain ⟨z0, z1, z2, y0, y1', y2', _⟩ := HZ5.out))
                          go_upto_region 16 with (fail)
                          obtain ⟨w6, hw6⟩ : ∃ w6, w6 = ((w5.setCell ⟨w.heap.size + 1, 0, none⟩ (.int .i64 b)).setCell ⟨w.heap.size + 1, 1, none⟩ (.int .i64 t)).setCell ⟨w.heap.size + 1, 2, none⟩ (.slice A1 kl c1) := ⟨_, rfl⟩
                          have HP6 : Hid (Lg w6 (w.heap.size + 1) b t (.slice A1 kl c1)) := by rw [hw6]; exact HZ5.out.put b t _
                          have HX6 : Hid (Below w.heap.size w w6) := by rw [hw6]; exact below_put (HX4.out.trans (HB5.out.mono HX4.out.size)) (by omega) _ _ _
                          have HO6 : Hid (w6.ownsRow (w4.heap.size + 1) 56 3 (.slice A1 kl c1) kl (entsC (L.take kk ++ FF))) := by rw [hw6]; exact own_set (own_set (own_set HO5.out (by omega) _) (by omega) _) (by omega) _
                          rw [← hw6]
                          have HML : Hid ((L.take kk ++ FF).length = kl) := by show _ = _; rw [List.length_append, HLK.out, HFL.out, HKL.out]
                          generalize L.take kk ++ FF = M at *
                          have HR6 : Hid (Rds w6 A1 (entsC M)) := by obtain ⟨A9, c9, e9, _, _, _, p4, _⟩ := own_rds HO6.out; cases e9; exact p4
                          clear hw6 HO5 HZ5 HB5 HWT HL4 HZ4 HR4 HX4 HS HKL HLK HFL k0 k1 k2 z0 z1 z2 y0 y1' y2' x0 x1 hx1Q
                          obtain ⟨z0, z1, z2, y0, y1', y2', _⟩ := HP6.out
                          have HX := HX6
                          by_cases h512 : 512 < kl
                          · have h5i : (512 : Int) < (kl : Int) := by omega
                            have HE : Hid (res = (0, 0, [], false, 6)) := by show _ = _; rw [HJ.out, if_pos h512]
                            go_wp2
                            refine bodyPost_ret (v := .tuple #[.agg #[.int .i64 0, .int .i64 0, .slice none 0 0], .bool false, .int .i64 6]) (by simp [results, Try.results31, go_sem, *]) rfl ?_
                            show MerRet _ _ _ _
                            rw [HE.out]
                            refine ⟨_, rfl, World.ownsRow_nil _ _ _ _, ?_⟩
                            exact ((HX.out.setCell (by simp) _).setCell (by simp) _).setCell (by simp) _
                          · have h5i : ¬ (512 : Int) < (kl : Int) := by omega
                            rw [if_neg h512] at HJ
                            by_cases hmay : mayL b t M
                            · have HE : Hid (res = (b, t, M, false, 0)) := by show _ = _; rw [HJ.out, if_pos hmay]
                              have HMM := Lib.hid (decide_eq_true hmay)
                              clear HJ hmay
                              go_wp2_with fail
                              refine (May_any w6 b t A1 kl c1 M HML.out (by omega) HR6.out _ HMM.out).mono ?_
                              rintro r w7 ⟨rfl, hb⟩
                              have HP7 := Lib.hid (HP6.out.ext hb (Nat.le_refl _))
                              have HO7 := Lib.hid (own_ext HO6.out hb (Nat.le_refl _))
                              have HX7 : Hid (Below w.heap.size w w7) := HX6.out.trans (hb.mono HX6.out.size)
                              clear hb z0 z1 z2 y0 y1' y2' HMM HR6 HP6 HO6 HX6 HX
                              obtain ⟨z0, z1, z2, y0, y1', y2', _⟩ := HP7.out
                              go_wp2
                              refine bodyPost_ret (v := .tuple #[.agg #[.int .i64 b, .int .i64 t, .slice A1 kl c1], .bool false, .int .i64 0]) (by simp [results, Try.results31, go_sem, *]) rfl ?_
                              show MerRet _ _ _ _
                              rw [HE.out]
                              refine ⟨_, rfl, ?_, ((HX7.out.setCell (by simp) _).setCell (by simp) _).setCell (by simp) _⟩
                              show World.ownsRow _ _ _ _ _ M.length (entsC M)
                              rw [HML.out]
                              exact own_lower (own_set (own_set (own_set HO7.out (by omega) _) (by omega) _) (by omega) _) (by omega)
                            · have HE : Hid (res = (0, 0, [], false, 1)) := by show _ = _; rw [HJ.out, if_neg hmay]
                              have HMM := Lib.hid (decide_eq_false hmay)
                              clear HJ hmay
                              go_wp2_with fail
                              refine (May_any w6 b t A1 kl c1 M HML.out (by omega) HR6.out _ HMM.out).mono ?_
                              rintro r w7 ⟨rfl, hb⟩
                              have HP7 := Lib.hid (HP6.out.ext hb (Nat.le_refl _))
                              have HX7 : Hid (Below w.heap.size w w7) := HX6.out.trans (hb.mono HX6.out.size)
                              clear hb z0 z1 z2 y0 y1' y2' HMM HR6 HP6 HO6 HX6 HX
                              have HX := HX7
                              obtain ⟨z0, z1, z2, y0, y1', y2', _⟩ := HP7.out
                              go_wp2
                              refine bodyPost_ret (v := .tuple #[.agg #[.int .i64 0, .int .i64 0, .slice none 0 0], .bool false, .int .i64 1]) (by simp [results, Try.results31, go_sem, *]) rfl ?_
                              show MerRet _ _ _ _
                              rw [HE.out]
                              refine ⟨_, rfl, World.ownsRow_nil _ _ _ _, ?_⟩
                              exact ((HX.out.setCell (by simp) _).setCell (by simp) _).setCell (by simp) _
              · have HE : Hid (res = (b, t, L, true, 0)) := by show _ = _; rw [← HRES.out, if_neg hoq]
                clear HRES HQ
                cases o with
                | none =>
                  dsimp only [atR]
                  obtain ⟨k0, k1, k2, f0, f1, f2, _⟩ := HL.out
                  obtain ⟨z0, z1, z2, y0, y1, y2, _⟩ := HZ.out
                  go_wp2_with fail
                  clear k0 k1 k2 f0 f1 f2 z0 z1 z2 y0 y1 y2
                  have hsum : sumLen [L] = n := by simp [sumLen, HN.out]
                  refine (with_any _ b t A n c _ 1 1 [L] rfl (by rw [hsum]; omega) (by omega) (rdsL1 HN.out HA.out HR.out _)).mono ?_
                  rintro e w4 ⟨v, rfl, hown, hb⟩
                  obtain ⟨A1, c1, rfl, p1, p2, p3, p4, p5⟩ := own_rds hown
                  rw [hsum] at hown ⊢
                  rw [show [L].flatten = L by simp] at hown
                  clear p1 p2 p3 p4 p5
                  have hb0 : Below w3.heap.size w3 (w3.alloc (.cells #[.slice A n c] 24)) := (Below.refl _ _).alloc (Nat.le_refl _) _
                  have hz3 : w.heap.size + 1 < (w3.alloc (.cells #[.slice A n c] 24)).heap.size := by simp; omega
                  replace hb := hb0.trans (hb.mono (by simp))
                  replace HX : Hid (Below w.heap.size w w4) := HX.out.trans (hb.mono HX.out.size)
                  replace HL := Lib.hid (HL.out.ext hb (Nat.le_refl _))
                  replace HZ := Lib.hid (HZ.out.ext hb (Nat.le_refl _))
                  replace HR := Lib.hid (HR.out.ext hb (Nat.le_refl _))
                  replace HS := Lib.hid (HS.out.ext hb (Nat.le_refl _))
                  replace hz := Nat.lt_of_lt_of_le hz hb.size
                  have HO := Lib.hid hown
                  clear hown hb hb0 hsum
                  obtain ⟨k0, k1, k2, f0, f1, f2, _⟩ := HL.out
                  obtain ⟨z0, z1, z2, y0, y1, y2, _⟩ := HZ.out
                  go_wp2
                  refine bodyPost_ret (v := .tuple #[.agg #[.int .i64 b, .int .i64 t, .slice A1 n c1], .bool true, .int .i64 0]) (by simp [results, Try.results31, go_sem, *]) rfl ?_
                  show MerRet _ _ _ _
                  rw [HE.out]
                  refine ⟨_, rfl, ?_, ((HX.out.setCell (by simp) _).setCell (by simp) _).setCell (by simp) _⟩
                  show World.ownsRow _ _ _ _ _ L.length (entsC L)
                  rw [HN.out]
                  have h := own_lower (own_set (p := w.heap.size + 1) (o := 2) (own_set (p := w.heap.size + 1) (o := 1) (own_set (p := w.heap.size + 1) (o := 0) HO.out hz3 (.int .i64 b)) hz3 (.int .i64 t)) hz3 (.slice A1 n c1)) (base' := w.heap.size) (by omega)
                  simpa using h
                | some x =>
                  have hxq : (x != q2) = true := by rw [bne_iff_ne]; exact fun e => hoq (by rw [e])
                  dsimp only [atR]
                  clear hoq
                  obtain ⟨k0, k1, k2, f0, f1, f2, _⟩ := HL.out
                  obtain ⟨z0, z1, z2, y0, y1, y2, _⟩ := HZ.out
                  go_wp2_with fail
                  clear k0 k1 k2 f0 f1 f2 z0 z1 z2 y0 y1 y2
                  have hsum : sumLen [L] = n := by simp [sumLen, HN.out]
                  refine (with_any _ b t A n c _ 1 1 [L] rfl (by rw [hsum]; omega) (by omega) (rdsL1 HN.out HA.out HR.out _)).mono ?_
                  rintro e w4 ⟨v, rfl, hown, hb⟩
                  obtain ⟨A1, c1, rfl, p1, p2, p3, p4, p5⟩ := own_rds hown
                  rw [hsum] at hown ⊢
                  rw [show [L].flatten = L by simp] at hown
                  clear p1 p2 p3 p4 p5
                  have hb0 : Below w3.heap.size w3 (w3.alloc (.cells #[.slice A n c] 24)) := (Below.refl _ _).alloc (Nat.le_refl _) _
                  have hz3 : w.heap.size + 1 < (w3.alloc (.cells #[.slice A n c] 24)).heap.size := by simp; omega
                  replace hb := hb0.trans (hb.mono (by simp))
                  replace HX : Hid (Below w.heap.size w w4) := HX.out.trans (hb.mono HX.out.size)
                  replace HL := Lib.hid (HL.out.ext hb (Nat.le_refl _))
                  replace HZ := Lib.hid (HZ.out.ext hb (Nat.le_refl _))
                  replace HR := Lib.hid (HR.out.ext hb (Nat.le_refl _))
                  replace HS := Lib.hid (HS.out.ext hb (Nat.le_refl _))
                  replace hz := Nat.lt_of_lt_of_le hz hb.size
                  have HO := Lib.hid hown
                  clear hown hb hb0 hsum
                  obtain ⟨k0, k1, k2, f0, f1, f2, _⟩ := HL.out
                  obtain ⟨z0, z1, z2, y0, y1, y2, _⟩ := HZ.out
                  go_wp2
                  refine bodyPost_ret (v := .tuple #[.agg #[.int .i64 b, .int .i64 t, .slice A1 n c1], .bool true, .int .i64 0]) (by simp [results, Try.results31, go_sem, *]) rfl ?_
                  show MerRet _ _ _ _
                  rw [HE.out]
                  refine ⟨_, rfl, ?_, ((HX.out.setCell (by simp) _).setCell (by simp) _).setCell (by simp) _⟩
                  show World.ownsRow _ _ _ _ _ L.length (entsC L)
                  rw [HN.out]
                  have h := own_lower (own_set (p := w.heap.size + 1) (o := 2) (own_set (p := w.heap.size + 1) (o := 1) (own_set (p := w.heap.size + 1) (o := 0) HO.out hz3 (.int .i64 b)) hz3 (.int .i64 t)) hz3 (.slice A1 n c1)) (base' := w.heap.size) (by omega)
                  simpa using h
          · have HF := Lib.hid (decide_eq_false hrun)
            have HE : Hid (res = (0, 0, [], false, 1)) := by show _ = _; rw [← HAPP.out]; unfold mergeE; rw [if_neg (fun h => hrun h.2.2.2.2)]
            clear HAPP hok hst hrun
            obtain ⟨k0, k1, k2, f0, f1, f2, _⟩ := HL.out
            obtain ⟨z0, z1, z2, y0, y1, y2, _⟩ := HZ.out
            go_wp2_with (first | (go_at_call 72; refine (term_any _ s _ HT.out).mono ?_; rintro r wq ⟨rfl, rfl⟩))
            clear k0 k1 k2 f0 f1 f2 z0 z1 z2 y0 y1 y2
            refine (Follow_any w1 B m d prev s es HM.out (by omega) (by omega) HS.out _ HF.out).mono ?_
            rintro r w2 ⟨rfl, hb⟩
            replace HX : Hid (Below w.heap.size w w2) := HX.out.trans (hb.mono HX.out.size)
            replace HL := Lib.hid (HL.out.ext hb (Nat.le_refl _))
            replace HZ := Lib.hid (HZ.out.ext hb (Nat.le_refl _))
            replace HR := Lib.hid (HR.out.ext hb (Nat.le_refl _))
            replace HS := Lib.hid (HS.out.ext hb (Nat.le_refl _))
            replace hz := Nat.lt_of_lt_of_le hz hb.size
            clear hb HF
            obtain ⟨k0, k1, k2, f0, f1, f2, _⟩ := HL.out
            obtain ⟨z0, z1, z2, y0, y1, y2, _⟩ := HZ.out
            go_wp2
            refine bodyPost_ret (v := .tuple #[.agg #[.int .i64 0, .int .i64 0, .slice none 0 0], .bool false, .int .i64 1]) (by simp [results, Try.results31, go_sem, *]) rfl ?_
            show MerRet _ _ _ _
            rw [HE.out]
            refine ⟨_, rfl, World.ownsRow_nil _ _ _ _, ?_⟩
            exact ((HX.out.setCell (by simp) _).setCell (by simp) _).setCell (by simp) _
        · have HT := Lib.hid (decide_eq_false hst)
          have HE : Hid (res = (0, 0, [], false, 1)) := by show _ = _; rw [← HAPP.out]; unfold mergeE; rw [if_neg (fun h => hst h.2.2.2.1)]
          clear HAPP hok hst
          obtain ⟨k0, k1, k2, f0, f1, f2, _⟩ := HL.out
          obtain ⟨z0, z1, z2, y0, y1, y2, _⟩ := HZ.out
          go_wp2_with (first | (go_at_call 72; refine (term_any _ s _ HT.out).mono ?_; rintro r wq ⟨rfl, rfl⟩))
          refine bodyPost_ret (v := .tuple #[.agg #[.int .i64 0, .int .i64 0, .slice none 0 0], .bool false, .int .i64 1]) (by simp [results, Try.results31, go_sem, *]) rfl ?_
          show MerRet _ _ _ _
          rw [HE.out]
          refine ⟨_, rfl, World.ownsRow_nil _ _ _ _, ?_⟩
          exact ((HX.out.setCell (by simp) _).setCell (by simp) _).setCell (by simp) _
  · have HM1 := Lib.hid (decide_eq_false hok)
    have HE : Hid (res = (0, 0, [], false, 1)) := by show _ = _; rw [← HAPP.out]; unfold mergeE; rw [if_neg (fun h => hok h.1)]
    refine (May_any w0 b t A n c L HN.out (by omega) HR.out _ HM1.out).mono ?_
    rintro r w1 ⟨rfl, hb⟩
    replace HX : Hid (Below w.heap.size w w1) := HX.out.trans (hb.mono HX.out.size)
    replace HL := Lib.hid (HL.out.ext hb (Nat.le_refl _))
    replace HZ := Lib.hid (HZ.out.ext hb (Nat.le_refl _))
    replace HR := Lib.hid (HR.out.ext hb (Nat.le_refl _))
    replace HS := Lib.hid (HS.out.ext hb (Nat.le_refl _))
    replace hz := Nat.lt_of_lt_of_le hz hb.size
    clear hb HM1 HAPP hok
    obtain ⟨k0, k1, k2, f0, f1, f2, _⟩ := HL.out
    obtain ⟨z0, z1, z2, y0, y1, y2, _⟩ := HZ.out
    go_wp2
    refine bodyPost_ret (v := .tuple #[.agg #[.int .i64 0, .int .i64 0, .slice none 0 0], .bool false, .int .i64 1]) (by simp [results, Try.results31, go_sem, *]) rfl ?_
    show MerRet _ _ _ _
    rw [HE.out]
    refine ⟨_, rfl, World.ownsRow_nil _ _ _ _, ?_⟩
    exact ((HX.out.setCell (by simp) _).setCell (by simp) _).setCell (by simp) _
end Go.Proofs.Ytpdnkhdnenibgaa
