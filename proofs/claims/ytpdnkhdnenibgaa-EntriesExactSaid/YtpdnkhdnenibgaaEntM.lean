/- The walk of entries.Compact. -/
import Derived.Test.YtpdnkhdnenibgaaEntS
import Derived.Test.YtpdnkhdnenibgaaCut
set_option linter.unusedVariables false
set_option linter.unusedSimpArgs false
namespace Lec
open Go Go.RowKit
/-- What Compact answers: a log, an error. -/
def compE (b t : Int) (L : List Ent) (i : Int) : Int × Int × List Ent × Int :=
  if mayL b t L ∧ b < i ∧ i ≤ b + L.length ∧ i ≤ 1099511625728 then (i, ((atE b t L i).getD 0), L.drop (i - b).toNat, 0) else (0, 0, [], 1)
theorem ownBlock_in {w : World} {base : Nat} {e : TypeId} {size : Nat} {A : Option Addr} {m d n : Nat} {xs : List Value} (h : w.ownsRow base e size (.slice A m d) n xs) {g : Nat} (hg : (Value.slice A m d).ownBlock = some g) : base ≤ g ∧ g < w.heap.size := by
  obtain ⟨A1, c1, e1, _, _, _, _, p5⟩ := own_rds h
  cases e1
  cases A with
  | none => simp [Value.ownBlock] at hg
  | some a =>
    obtain ⟨g', rfl, h1, h2⟩ := p5 a rfl
    simp [Value.ownBlock] at hg
    subst hg
    exact ⟨h1, h2⟩
end Lec
namespace Go.Proofs.Ytpdnkhdnenibgaa
open Go.RowKit Lec



set_option maxRecDepth 100000 in
set_option maxHeartbeats 4000000 in
theorem Compact_any (w : World) (b t : Int) (A : Option Addr) (n c : Nat) (L : List Ent) (hn : L.length = n) (hm : n ≤ 100000) (hnc : n ≤ c) (hA : A = none → n = 0 ∧ c = 0) (hr : Rds w A (entsC L)) (i : Int) :
    Calls Try.prog 29 #[.agg #[.int .i64 b, .int .i64 t, .slice A n c], .int .i64 i] w (LogRet w (compE b t L i)) := by
  have HR := Lib.hid hr
  have HN := Lib.hid hn
  have HA := Lib.hid hA
  clear hr hn hA
  generalize happ : compE b t L i = res
  have HAPP := Lib.hid happ
  clear happ
  go_enter Try.func29, Try.ntmps29
  go_wp2_with fail
  obtain ⟨w0, hw0⟩ : ∃ w0, w0 = (w.alloc (.cells #[.int .i64 b, .int .i64 t, .slice A n c] 26)).alloc (.cells #[.int .i64 0, .int .i64 0, .slice none 0 0] 26) := ⟨_, rfl⟩
  rw [← hw0]
  have HX : Hid (Below w.heap.size w w0) := by rw [hw0]; exact ((Below.refl _ _).alloc (Nat.le_refl _) _).alloc (by simp) _
  have HL : Hid (Lg w0 w.heap.size b t (.slice A n c)) := by rw [hw0]; exact (Lg.new w b t _ _).ext (B := w.heap.size + 1) ((Below.refl _ _).alloc (by simp) _) (by simp)
  have HZ : Hid (Lg w0 (w.heap.size + 1) 0 0 (.slice none 0 0)) := by rw [hw0]; have := Lg.new (w.alloc (.cells #[.int .i64 b, .int .i64 t, .slice A n c] 26)) 0 0 (.slice none 0 0) 26; show Lg _ _ _ _ _; simpa using this
  have hz : w.heap.size + 1 < w0.heap.size := by rw [hw0]; simp
  replace HR := Lib.hid (HR.out.ext HX.out (Nat.le_refl _))
  clear hw0
  refine (End_any w0 b t A n c L HN.out (by omega) HR.out).mono ?_
  rintro r w1 ⟨rfl, hb⟩
  replace HX : Hid (Below w.heap.size w w1) := HX.out.trans (hb.mono HX.out.size)
  replace HL := Lib.hid (HL.out.ext hb (Nat.le_refl _))
  replace HZ := Lib.hid (HZ.out.ext hb (Nat.le_refl _))
  replace HR := Lib.hid (HR.out.ext hb (Nat.le_refl _))
  replace hz := Nat.lt_of_lt_of_le hz hb.size
  clear hb
  by_cases hok : mayL b t L
  · have HM1 := Lib.hid (decide_eq_true hok)
    have hend : (endE b t L).1 = b + n := by rw [runsE_end _ _ _ hok.2.2.2.2.2, HN.out]
    have hbb : 0 ≤ b ∧ b ≤ 1099511625728 := ⟨hok.1, hok.2.1⟩
    generalize endE b t L = en at *
    obtain ⟨ei, et⟩ := en
    obtain rfl : ei = b + n := hend
    obtain ⟨k0, k1, k2, f0, f1, f2, _⟩ := HL.out
    obtain ⟨z0, z1, z2, y0, y1, y2, _⟩ := HZ.out
    go_wp2_with fail
    clear k0 k1 k2 f0 f1 f2 z0 z1 z2 y0 y1 y2
    refine (May_any w1 b t A n c L HN.out (by omega) HR.out _ HM1.out).mono ?_
    rintro r w2 ⟨rfl, hb⟩
    replace HX : Hid (Below w.heap.size w w2) := HX.out.trans (hb.mono HX.out.size)
    replace HL := Lib.hid (HL.out.ext hb (Nat.le_refl _))
    replace HZ := Lib.hid (HZ.out.ext hb (Nat.le_refl _))
    replace HR := Lib.hid (HR.out.ext hb (Nat.le_refl _))
    replace hz := Nat.lt_of_lt_of_le hz hb.size
    clear hb HM1
    by_cases hlo : i ≤ b
    · have HE : Hid (res = (0, 0, [], 1)) := by show _ = _; rw [← HAPP.out]; unfold compE; rw [if_neg (by omega)]
      clear HAPP hok
      obtain ⟨k0, k1, k2, f0, f1, f2, _⟩ := HL.out
      obtain ⟨z0, z1, z2, y0, y1, y2, _⟩ := HZ.out
      go_wp2
      refine bodyPost_ret (v := .tuple #[.agg #[.int .i64 0, .int .i64 0, .slice none 0 0], .int .i64 1]) (by simp [results, Try.results29, go_sem, *]) rfl ?_
      show LogRet _ _ _ _
      rw [HE.out]
      refine ⟨_, rfl, World.ownsRow_nil _ _ _ _, ?_⟩
      exact ((HX.out.setCell (by simp) _).setCell (by simp) _).setCell (by simp) _
    · by_cases hhi : b + n < i
      · have HE : Hid (res = (0, 0, [], 1)) := by show _ = _; rw [← HAPP.out]; unfold compE; rw [if_neg (by rw [HN.out]; omega)]
        clear HAPP hok
        obtain ⟨k0, k1, k2, f0, f1, f2, _⟩ := HL.out
        obtain ⟨z0, z1, z2, y0, y1, y2, _⟩ := HZ.out
        go_wp2
        refine bodyPost_ret (v := .tuple #[.agg #[.int .i64 0, .int .i64 0, .slice none 0 0], .int .i64 1]) (by simp [results, Try.results29, go_sem, *]) rfl ?_
        show LogRet _ _ _ _
        rw [HE.out]
        refine ⟨_, rfl, World.ownsRow_nil _ _ _ _, ?_⟩
        exact ((HX.out.setCell (by simp) _).setCell (by simp) _).setCell (by simp) _
      · by_cases hmx : 1099511625728 < i
        · have HE : Hid (res = (0, 0, [], 1)) := by show _ = _; rw [← HAPP.out]; unfold compE; rw [if_neg (by omega)]
          clear HAPP hok
          obtain ⟨k0, k1, k2, f0, f1, f2, _⟩ := HL.out
          obtain ⟨z0, z1, z2, y0, y1, y2, _⟩ := HZ.out
          go_wp2
          refine bodyPost_ret (v := .tuple #[.agg #[.int .i64 0, .int .i64 0, .slice none 0 0], .int .i64 1]) (by simp [results, Try.results29, go_sem, *]) rfl ?_
          show LogRet _ _ _ _
          rw [HE.out]
          refine ⟨_, rfl, World.ownsRow_nil _ _ _ _, ?_⟩
          exact ((HX.out.setCell (by simp) _).setCell (by simp) _).setCell (by simp) _
        · obtain ⟨k, rfl⟩ : ∃ k : Nat, i = b + 1 + k := ⟨(i - b - 1).toNat, by omega⟩
          have hkn : k < n := by omega
          have hkl : k < L.length := by rw [HN.out]; exact hkn
          have hat : atE b t L (b + 1 + k) = some L[k].2.1 := atE_in hkl
          have HE : Hid (res = (b + 1 + k, L[k].2.1, L.drop (k + 1), 0)) := by
            show _ = _; rw [← HAPP.out]; unfold compE; rw [if_pos ⟨hok, by omega, by rw [HN.out]; omega, by omega⟩, hat, show (b + 1 + (k : Int) - b : Int).toNat = k + 1 by omega]; rfl
          have HAT := Lib.hid (At_any w2 b t A n c L HN.out (by omega) HR.out hok (b + 1 + k))
          rw [hat] at HAT
          obtain ⟨a, rfl⟩ : ∃ a, A = some a := by
            cases hA : A with
            | none => have := (HA.out hA).1; omega
            | some a => exact ⟨a, rfl⟩
          generalize L[k].2.1 = lt at *
          dsimp only [atR] at HAT
          clear HAPP hok hat hkl
          obtain ⟨q, hq⟩ : ∃ q, q = k + 1 := ⟨_, rfl⟩
          have hqi : (b + 1 + (k : Int)) = b + (q : Int) := by omega
          rw [hqi] at HE HAT ⊢
          rw [← hq] at HE
          have hq1 : 1 ≤ q := by omega
          have hqn : q ≤ n := by omega
          have hd1 : ¬ b + (q : Int) ≤ b := by omega
          have hd2 : ¬ n < q := by omega
          have hd3 : ¬ 1099511625728 < b + (q : Int) := by omega
          have hd4 : ¬ b + (n : Int) < b + (q : Int) := by omega
          clear hqi hq hkn
          obtain ⟨k0, k1, k2, f0, f1, f2, _⟩ := HL.out
          obtain ⟨z0, z1, z2, y0, y1, y2, _⟩ := HZ.out
          go_wp2_with fail
          clear k0 k1 k2 f0 f1 f2 z0 z1 z2 y0 y1 y2
          refine HAT.out.mono ?_
          rintro r w3 ⟨rfl, hb⟩
          replace HX : Hid (Below w.heap.size w w3) := HX.out.trans (hb.mono HX.out.size)
          replace HL := Lib.hid (HL.out.ext hb (Nat.le_refl _))
          replace HZ := Lib.hid (HZ.out.ext hb (Nat.le_refl _))
          replace HR := Lib.hid (HR.out.ext hb (Nat.le_refl _))
          replace hz := Nat.lt_of_lt_of_le hz hb.size
          clear hb HAT
          have HSU : Hid (b + (q : Int) - b = (q : Int)) := by show _ = _; omega
          have hsub := HSU.out
          have hwr : IntKind.i64.wrap (b + (q : Int) - b) = (q : Int) := by rw [hsub]; exact wrap_id (by omega)
          have hwr2 : IntKind.i64.wrap (q : Int) = (q : Int) := wrap_id (by omega)
          have HDL : Hid ((L.drop q).length = n - q) := by show _ = _; rw [List.length_drop, HN.out]
          have hq0 : (0 : Int) ≤ (q : Int) := by omega
          have hqc : (q : Int) ≤ (c : Int) := by omega
          have hqnn : (q : Int) ≤ (n : Int) := by omega
          clear hd1 hd2 hd3 hd4
          by_cases hcq : c = q
          · obtain rfl : q = c := by omega
            obtain rfl : n = q := by omega
            replace HDL : Hid ((L.drop n).length = 0) := by show _ = _; rw [HDL.out]; omega
            have HRD : Hid (Rds w3 (some a) (entsC (L.drop n))) := Lib.hid (by rw [List.eq_nil_of_length_eq_zero HDL.out]; exact Rds.nil _ _)
            clear hcq
            have HLD : Hid (sumLen [L.drop n] = 0) := by show _ = _; unfold sumLen; simp only [List.map_cons, List.map_nil, List.sum_cons, List.sum_nil]; rw [HDL.out]; rfl
            have HLS : Hid ((L.drop n).length = 0) := HDL
            have HRL : Hid (∀ (wz : World), Below w3.heap.size w3 wz → Rds wz (some a) (entsC (L.drop n))) := Lib.hid (fun wz h => HRD.out.ext h (Nat.le_refl _))
            have HPW : Hid (∀ (wz : World) (g : Nat), Below w3.heap.size w3 wz → wz.cell? ⟨g, 0, none⟩ = some (.slice (some a) 0 0) → Calls Try.prog 66 #[.agg #[.int .i64 b, .int .i64 t, .slice (some a) n n], .slice (some ⟨g, 0, none⟩) 1 1] wz fun e w' => ∃ (A1 : Option Addr) (c1 : Nat), e = .returned (.agg #[.int .i64 b, .int .i64 t, .slice A1 0 c1]) ∧ w'.ownsRow wz.heap.size 56 3 (.slice A1 0 c1) 0 (entsC (L.drop n)) ∧ Below wz.heap.size wz w') :=
              Lib.hid (fun wz g hbz hc => by
                have hrl : RdsL wz (some ⟨g, 0, none⟩) [L.drop n] := fun i hi => by
                  match i, hi with
                  | 0, _ => exact ⟨_, (some a), 0, rfl, by rw [Addr.add_lit]; show wz.cell? _ = some (.slice (some a) (L.drop n).length 0); rw [HDL.out]; exact hc, HRL.out wz hbz, by simp⟩
                refine (with_any wz b t (some a) n n (some ⟨g, 0, none⟩) 1 1 [L.drop n] rfl (by rw [HLD.out]; omega) (by omega) hrl).mono ?_
                rintro e w4 ⟨v, rfl, hown, hb⟩
                rw [HLD.out] at hown
                obtain ⟨A1, c1, rfl, p1, p2, p3, p4, p5⟩ := own_rds hown
                rw [show [L.drop n].flatten = L.drop n by simp] at hown
                exact ⟨A1, c1, rfl, hown, hb⟩)
            have HG1 : Hid ((w3.alloc (.cells #[.slice (some a) 0 0] 24)).drew.cell? ⟨w3.heap.size, 0, none⟩ = some (.slice (some a) 0 0)) := Lib.hid (by show (w3.alloc _).cell? _ = _; rw [cell_of_row _ _ _ _ _ _ (heap_alloc_new _ _)]; rfl)
            have HD1 : Hid (Below w3.heap.size w3 (w3.alloc (.cells #[.slice (some a) 0 0] 24)).drew) := Lib.hid (let h := (Below.refl w3.heap.size w3).alloc (Nat.le_refl _) (.cells #[.slice (some a) 0 0] 24); ⟨h.os, h.tape, h.output, h.size, h.block⟩)
            have HNA : Hid (w.heap.size ≠ w3.heap.size) := Lib.hid (by omega)
            have HNB : Hid (w.heap.size ≠ w3.heap.size + 1) := Lib.hid (by omega)
            have HD3 : Hid (Below w3.heap.size w3 ((w3.alloc (.cells #[.slice (some a) 0 0] 24)).alloc (.cells #[.int .i64 0, .int .i64 0, .slice none 0 0] 26)).drew) := Lib.hid (let h := ((Below.refl w3.heap.size w3).alloc (Nat.le_refl _) (.cells #[.slice (some a) 0 0] 24)).alloc (by simp) (.cells #[.int .i64 0, .int .i64 0, .slice none 0 0] 26); ⟨h.os, h.tape, h.output, h.size, h.block⟩)
            have HD2 : Hid (Below w3.heap.size w3 ((w3.alloc (.cells #[.int .i64 0, .int .i64 0, .slice none 0 0] 26)).alloc (.cells #[.slice (some a) 0 0] 24)).drew) := Lib.hid (let h := ((Below.refl w3.heap.size w3).alloc (Nat.le_refl _) (.cells #[.int .i64 0, .int .i64 0, .slice none 0 0] 26)).alloc (by simp) (.cells #[.slice (some a) 0 0] 24); ⟨h.os, h.tape, h.output, h.size, h.block⟩)
            have HG3 : Hid (((w3.alloc (.cells #[.slice (some a) 0 0] 24)).alloc (.cells #[.int .i64 0, .int .i64 0, .slice none 0 0] 26)).drew.cell? ⟨w3.heap.size, 0, none⟩ = some (.slice (some a) 0 0)) := Lib.hid (by
              have h := cell_ext (a := ⟨w3.heap.size, 0, none⟩) ((Below.refl (w3.alloc (.cells #[.slice (some a) 0 0] 24)).heap.size (w3.alloc (.cells #[.slice (some a) 0 0] 24))).alloc (Nat.le_refl _) (.cells #[.int .i64 0, .int .i64 0, .slice none 0 0] 26)) (Nat.le_refl _) HG1.out
              exact h)
            have HG2 : Hid (((w3.alloc (.cells #[.int .i64 0, .int .i64 0, .slice none 0 0] 26)).alloc (.cells #[.slice (some a) 0 0] 24)).drew.cell? ⟨w3.heap.size + 1, 0, none⟩ = some (.slice (some a) 0 0)) := Lib.hid (by
              have h := heap_alloc_new (w3.alloc (.cells #[.int .i64 0, .int .i64 0, .slice none 0 0] 26)) (.cells #[.slice (some a) 0 0] 24 (0, 0))
              have hs : (w3.alloc (.cells #[.int .i64 0, .int .i64 0, .slice none 0 0] 26)).heap.size = w3.heap.size + 1 := by simp
              rw [hs] at h
              show ((w3.alloc _).alloc _).cell? _ = _
              rw [cell_of_row _ _ _ _ _ _ h]; rfl)
            have HZ3 : Hid (Lg ((w3.alloc (.cells #[.slice (some a) 0 0] 24)).alloc (.cells #[.int .i64 0, .int .i64 0, .slice none 0 0] 26)).drew (w3.heap.size + 1) 0 0 (.slice none 0 0)) := Lib.hid (by
              have h := Lg.new (w3.alloc (.cells #[.slice (some a) 0 0] 24)) 0 0 (.slice none 0 0) 26
              have hs : (w3.alloc (.cells #[.slice (some a) 0 0] 24)).heap.size = w3.heap.size + 1 := by simp
              rw [hs] at h
              exact ⟨h.c0, h.c1, h.c2, h.f0, h.f1, h.f2, h.lt⟩)
            have HZ2 : Hid (Lg ((w3.alloc (.cells #[.int .i64 0, .int .i64 0, .slice none 0 0] 26)).alloc (.cells #[.slice (some a) 0 0] 24)).drew w3.heap.size 0 0 (.slice none 0 0)) := Lib.hid (by
              have h := (Lg.new w3 0 0 (.slice none 0 0) 26).ext ((Below.refl (w3.alloc (.cells #[.int .i64 0, .int .i64 0, .slice none 0 0] 26)).heap.size (w3.alloc (.cells #[.int .i64 0, .int .i64 0, .slice none 0 0] 26))).alloc (Nat.le_refl _) (.cells #[.slice (some a) 0 0] 24)) (Nat.le_refl _)
              exact ⟨h.c0, h.c1, h.c2, h.f0, h.f1, h.f2, h.lt⟩)
            obtain ⟨k0, k1, k2, f0, f1, f2, _⟩ := HL.out
            obtain ⟨z0, z1, z2, y0, y1, y2, _⟩ := HZ.out
            go_upto_region 5 with (fail)
            go_cut [10] (fun s10 wx => ∃ (p : Nat) (A1 : Option Addr) (c1 : Nat), s10 = .pointer (some ⟨p, 0, none⟩) ∧ w3.heap.size ≤ p ∧ Hid (Below w3.heap.size w3 wx) ∧ Hid (Lg wx p b t (.slice A1 0 c1)) ∧ Hid (wx.ownsRow w3.heap.size 56 3 (.slice A1 0 c1) 0 (entsC (L.drop n))) ∧ Hid ((Value.slice A1 0 c1).ownBlock ≠ some p))
            case first =>
              go_region_held3 (fun w' => w'.cell? ⟨w.heap.size, 0, none⟩ = some (.int .i64 b) ∧ w'.cell? ⟨w.heap.size, 1, none⟩ = some (.int .i64 t) ∧ w'.cell? ⟨w.heap.size, 2, none⟩ = some (Value.slice (some a) n n))
                (first | (with_reducible exact ⟨k0, k1, k2⟩) | (with_reducible exact ⟨(cell_put (a := ⟨w.heap.size, 0, none⟩) HNA.out).trans k0, (cell_put (a := ⟨w.heap.size, 1, none⟩) HNA.out).trans k1, (cell_put (a := ⟨w.heap.size, 2, none⟩) HNA.out).trans k2⟩) | (with_reducible exact ⟨(cell_put (a := ⟨w.heap.size, 0, none⟩) HNB.out).trans k0, (cell_put (a := ⟨w.heap.size, 1, none⟩) HNB.out).trans k1, (cell_put (a := ⟨w.heap.size, 2, none⟩) HNB.out).trans k2⟩) | go_keep)
                (first | (go_at_call 66; with_reducible refine (HPW.out (w3.alloc (.cells #[.slice (some a) 0 0] 24)).drew w3.heap.size HD1.out HG1.out).mono ?_
                          rintro e w4 ⟨A1, c1, rfl, hown, hb⟩
                          have HB4 : Hid (Below w3.heap.size w3 w4) := HD1.out.trans (hb.mono HD1.out.size)
                          have HO4 := Lib.hid hown
                          have HS4 := Lib.hid hb.size
                          have HL4 := HL.out.ext HB4.out (Nat.le_refl _)
                          clear hown hb k0 k1 k2
                          obtain ⟨k0, k1, k2, _, _, _, _⟩ := HL4)
                       | (go_at_call 66; with_reducible refine (HPW.out ((w3.alloc (.cells #[.slice (some a) 0 0] 24)).alloc (.cells #[.int .i64 0, .int .i64 0, .slice none 0 0] 26)).drew w3.heap.size HD3.out HG3.out).mono ?_
                          rintro e w4 ⟨A1, c1, rfl, hown, hb⟩
                          have HB4 : Hid (Below w3.heap.size w3 w4) := HD3.out.trans (hb.mono HD3.out.size)
                          have HO4 := Lib.hid hown
                          have HS4 := Lib.hid hb.size
                          have HL4 := HL.out.ext HB4.out (Nat.le_refl _)
                          have HZ4 := Lib.hid (HZ3.out.ext hb (Nat.le_refl _))
                          obtain ⟨z0, z1, z2, y0, y1, y2, _⟩ := HZ4.out
                          clear hown hb k0 k1 k2
                          obtain ⟨k0, k1, k2, _, _, _, _⟩ := HL4)
                       | (go_at_call 66; with_reducible refine (HPW.out ((w3.alloc (.cells #[.int .i64 0, .int .i64 0, .slice none 0 0] 26)).alloc (.cells #[.slice (some a) 0 0] 24)).drew (w3.heap.size + 1) HD2.out HG2.out).mono ?_
                          rintro e w4 ⟨A1, c1, rfl, hown, hb⟩
                          have HB4 : Hid (Below w3.heap.size w3 w4) := HD2.out.trans (hb.mono HD2.out.size)
                          have HO4 := Lib.hid hown
                          have HS4 := Lib.hid hb.size
                          have HL4 := HL.out.ext HB4.out (Nat.le_refl _)
                          have HZ4 := Lib.hid (HZ2.out.ext hb (Nat.le_refl _))
                          obtain ⟨z0, z1, z2, y0, y1, y2, _⟩ := HZ4.out
                          clear hown hb k0 k1 k2
                          obtain ⟨k0, k1, k2, _, _, _, _⟩ := HL4)
                       | (go_at_call 66; trace_state; fail))
              · go_wp2_with fail
                go_meet
                exact ⟨_, A1, c1, rfl, HB4.out.size, HB4.out.alloc HB4.out.size _, Lg.new w4 b t _ _, own_ext (own_lower HO4.out HD1.out.size) ((Below.refl w4.heap.size w4).alloc (Nat.le_refl _) _) (Nat.le_refl _), fun h => by have := (ownBlock_in HO4.out h).2; omega⟩
              · go_wp2_with fail
                go_meet
                have hlt : w3.heap.size + 1 < (((w3.alloc (.cells #[.slice (some a) 0 0] 24)).alloc (.cells #[.int .i64 0, .int .i64 0, .slice none 0 0] 26)).drew).heap.size := by simp [World.drew, World.drewN]
                exact ⟨_, A1, c1, rfl, by omega, below_put HB4.out (by omega) _ _ _, HZ4.out.put b t _, own_lower (own_set (own_set (own_set HO4.out hlt _) hlt _) hlt _) HD3.out.size, fun h => by have := (ownBlock_in HO4.out h).1; omega⟩
              · go_wp2_with fail
                go_meet
                have hlt : w3.heap.size < (((w3.alloc (.cells #[.int .i64 0, .int .i64 0, .slice none 0 0] 26)).alloc (.cells #[.slice (some a) 0 0] 24)).drew).heap.size := by simp [World.drew, World.drewN]; omega
                exact ⟨_, A1, c1, rfl, by omega, below_put HB4.out (by omega) _ _ _, HZ4.out.put b t _, own_lower (own_set (own_set (own_set HO4.out hlt _) hlt _) hlt _) HD2.out.size, fun h => by have := (ownBlock_in HO4.out h).1; omega⟩
            case rest =>
              obtain ⟨p, A1, c1, rfl, hp, HBX, HLP, HOX, HNP⟩ := hcut
              have HX2 : Hid (Below w.heap.size w wc) := HX.out.trans (HBX.out.mono HX.out.size)
              have HZ2' := Lib.hid (HZ.out.ext HBX.out (Nat.le_refl _))
              clear HPW HG1 HD1 HD3 HD2 HG3 HG2 HZ3 HZ2 HRL k0 k1 k2 f0 f1 f2 z0 z1 z2 y0 y1 y2
              obtain ⟨p0, p1, p2, q0, q1, q2, _⟩ := HLP.out
              obtain ⟨z0, z1, z2, y0, y1, y2, _⟩ := HZ2'.out
              have hpz : p ≠ w.heap.size + 1 := by omega
              go_wp2
              refine bodyPost_ret (v := .tuple #[.agg #[.int .i64 (b + (n : Int)), .int .i64 lt, .slice A1 (0) c1], .int .i64 0]) (by simp [results, Try.results29, go_sem, *]) rfl ?_
              show LogRet _ _ _ _
              rw [HE.out]
              refine ⟨_, rfl, ?_, ((((HX2.out.setCell (by simp; omega) _).setCell (by simp; omega) _).setCell (by simp) _).setCell (by simp) _).setCell (by simp) _⟩
              show World.ownsRow _ _ _ _ _ (L.drop n).length (entsC (L.drop n))
              rw [HLS.out]
              have h1 := ownsRow_setCell_other HOX.out (a := ⟨p, 0, none⟩) HNP.out (.int .i64 (b + (n : Int)))
              have h2 := ownsRow_setCell_other h1 (a := ⟨p, 1, none⟩) HNP.out (.int .i64 lt)
              exact own_lower (own_set (own_set (own_set h2 hz _) hz _) hz _) (by omega)
          · have hcq2 : ¬ c - q = 0 := by omega
            have HRD : Hid (Rds w3 (some (a.add (q * 3))) (entsC (L.drop q))) := Lib.hid (rds_drop HR.out rfl)
            have HLD : Hid (sumLen [L.drop q] = (n - q)) := by show _ = _; unfold sumLen; simp only [List.map_cons, List.map_nil, List.sum_cons, List.sum_nil]; rw [HDL.out]; rfl
            have HLS : Hid ((L.drop q).length = (n - q)) := HDL
            have HRL : Hid (∀ (wz : World), Below w3.heap.size w3 wz → Rds wz (some (a.add (q * 3))) (entsC (L.drop q))) := Lib.hid (fun wz h => HRD.out.ext h (Nat.le_refl _))
            have HPW : Hid (∀ (wz : World) (g : Nat), Below w3.heap.size w3 wz → wz.cell? ⟨g, 0, none⟩ = some (.slice (some (a.add (q * 3))) (n - q) (c - q)) → Calls Try.prog 66 #[.agg #[.int .i64 b, .int .i64 t, .slice (some a) n c], .slice (some ⟨g, 0, none⟩) 1 1] wz fun e w' => ∃ (A1 : Option Addr) (c1 : Nat), e = .returned (.agg #[.int .i64 b, .int .i64 t, .slice A1 (n - q) c1]) ∧ w'.ownsRow wz.heap.size 56 3 (.slice A1 (n - q) c1) (n - q) (entsC (L.drop q)) ∧ Below wz.heap.size wz w') :=
              Lib.hid (fun wz g hbz hc => by
                have hrl : RdsL wz (some ⟨g, 0, none⟩) [L.drop q] := fun i hi => by
                  match i, hi with
                  | 0, _ => exact ⟨_, (some (a.add (q * 3))), (c - q), rfl, by rw [Addr.add_lit]; show wz.cell? _ = some (.slice (some (a.add (q * 3))) (L.drop q).length (c - q)); rw [HDL.out]; exact hc, HRL.out wz hbz, by simp⟩
                refine (with_any wz b t (some a) n c (some ⟨g, 0, none⟩) 1 1 [L.drop q] rfl (by rw [HLD.out]; omega) (by omega) hrl).mono ?_
                rintro e w4 ⟨v, rfl, hown, hb⟩
                rw [HLD.out] at hown
                obtain ⟨A1, c1, rfl, p1, p2, p3, p4, p5⟩ := own_rds hown
                rw [show [L.drop q].flatten = L.drop q by simp] at hown
                exact ⟨A1, c1, rfl, hown, hb⟩)
            have HG1 : Hid ((w3.alloc (.cells #[.slice (some (a.add (q * 3))) (n - q) (c - q)] 24)).drew.cell? ⟨w3.heap.size, 0, none⟩ = some (.slice (some (a.add (q * 3))) (n - q) (c - q))) := Lib.hid (by show (w3.alloc _).cell? _ = _; rw [cell_of_row _ _ _ _ _ _ (heap_alloc_new _ _)]; rfl)
            have HD1 : Hid (Below w3.heap.size w3 (w3.alloc (.cells #[.slice (some (a.add (q * 3))) (n - q) (c - q)] 24)).drew) := Lib.hid (let h := (Below.refl w3.heap.size w3).alloc (Nat.le_refl _) (.cells #[.slice (some (a.add (q * 3))) (n - q) (c - q)] 24); ⟨h.os, h.tape, h.output, h.size, h.block⟩)
            have HNA : Hid (w.heap.size ≠ w3.heap.size) := Lib.hid (by omega)
            have HNB : Hid (w.heap.size ≠ w3.heap.size + 1) := Lib.hid (by omega)
            have HD3 : Hid (Below w3.heap.size w3 ((w3.alloc (.cells #[.slice (some (a.add (q * 3))) (n - q) (c - q)] 24)).alloc (.cells #[.int .i64 0, .int .i64 0, .slice none 0 0] 26)).drew) := Lib.hid (let h := ((Below.refl w3.heap.size w3).alloc (Nat.le_refl _) (.cells #[.slice (some (a.add (q * 3))) (n - q) (c - q)] 24)).alloc (by simp) (.cells #[.int .i64 0, .int .i64 0, .slice none 0 0] 26); ⟨h.os, h.tape, h.output, h.size, h.block⟩)
            have HD2 : Hid (Below w3.heap.size w3 ((w3.alloc (.cells #[.int .i64 0, .int .i64 0, .slice none 0 0] 26)).alloc (.cells #[.slice (some (a.add (q * 3))) (n - q) (c - q)] 24)).drew) := Lib.hid (let h := ((Below.refl w3.heap.size w3).alloc (Nat.le_refl _) (.cells #[.int .i64 0, .int .i64 0, .slice none 0 0] 26)).alloc (by simp) (.cells #[.slice (some (a.add (q * 3))) (n - q) (c - q)] 24); ⟨h.os, h.tape, h.output, h.size, h.block⟩)
            have HG3 : Hid (((w3.alloc (.cells #[.slice (some (a.add (q * 3))) (n - q) (c - q)] 24)).alloc (.cells #[.int .i64 0, .int .i64 0, .slice none 0 0] 26)).drew.cell? ⟨w3.heap.size, 0, none⟩ = some (.slice (some (a.add (q * 3))) (n - q) (c - q))) := Lib.hid (by
              have h := cell_ext (a := ⟨w3.heap.size, 0, none⟩) ((Below.refl (w3.alloc (.cells #[.slice (some (a.add (q * 3))) (n - q) (c - q)] 24)).heap.size (w3.alloc (.cells #[.slice (some (a.add (q * 3))) (n - q) (c - q)] 24))).alloc (Nat.le_refl _) (.cells #[.int .i64 0, .int .i64 0, .slice none 0 0] 26)) (Nat.le_refl _) HG1.out
              exact h)
            have HG2 : Hid (((w3.alloc (.cells #[.int .i64 0, .int .i64 0, .slice none 0 0] 26)).alloc (.cells #[.slice (some (a.add (q * 3))) (n - q) (c - q)] 24)).drew.cell? ⟨w3.heap.size + 1, 0, none⟩ = some (.slice (some (a.add (q * 3))) (n - q) (c - q))) := Lib.hid (by
              have h := heap_alloc_new (w3.alloc (.cells #[.int .i64 0, .int .i64 0, .slice none 0 0] 26)) (.cells #[.slice (some (a.add (q * 3))) (n - q) (c - q)] 24 (0, 0))
              have hs : (w3.alloc (.cells #[.int .i64 0, .int .i64 0, .slice none 0 0] 26)).heap.size = w3.heap.size + 1 := by simp
              rw [hs] at h
              show ((w3.alloc _).alloc _).cell? _ = _
              rw [cell_of_row _ _ _ _ _ _ h]; rfl)
            have HZ3 : Hid (Lg ((w3.alloc (.cells #[.slice (some (a.add (q * 3))) (n - q) (c - q)] 24)).alloc (.cells #[.int .i64 0, .int .i64 0, .slice none 0 0] 26)).drew (w3.heap.size + 1) 0 0 (.slice none 0 0)) := Lib.hid (by
              have h := Lg.new (w3.alloc (.cells #[.slice (some (a.add (q * 3))) (n - q) (c - q)] 24)) 0 0 (.slice none 0 0) 26
              have hs : (w3.alloc (.cells #[.slice (some (a.add (q * 3))) (n - q) (c - q)] 24)).heap.size = w3.heap.size + 1 := by simp
              rw [hs] at h
              exact ⟨h.c0, h.c1, h.c2, h.f0, h.f1, h.f2, h.lt⟩)
            have HZ2 : Hid (Lg ((w3.alloc (.cells #[.int .i64 0, .int .i64 0, .slice none 0 0] 26)).alloc (.cells #[.slice (some (a.add (q * 3))) (n - q) (c - q)] 24)).drew w3.heap.size 0 0 (.slice none 0 0)) := Lib.hid (by
              have h := (Lg.new w3 0 0 (.slice none 0 0) 26).ext ((Below.refl (w3.alloc (.cells #[.int .i64 0, .int .i64 0, .slice none 0 0] 26)).heap.size (w3.alloc (.cells #[.int .i64 0, .int .i64 0, .slice none 0 0] 26))).alloc (Nat.le_refl _) (.cells #[.slice (some (a.add (q * 3))) (n - q) (c - q)] 24)) (Nat.le_refl _)
              exact ⟨h.c0, h.c1, h.c2, h.f0, h.f1, h.f2, h.lt⟩)
            obtain ⟨k0, k1, k2, f0, f1, f2, _⟩ := HL.out
            obtain ⟨z0, z1, z2, y0, y1, y2, _⟩ := HZ.out
            go_upto_region 5 with (fail)
            go_cut [10] (fun s10 wx => ∃ (p : Nat) (A1 : Option Addr) (c1 : Nat), s10 = .pointer (some ⟨p, 0, none⟩) ∧ w3.heap.size ≤ p ∧ Hid (Below w3.heap.size w3 wx) ∧ Hid (Lg wx p b t (.slice A1 (n - q) c1)) ∧ Hid (wx.ownsRow w3.heap.size 56 3 (.slice A1 (n - q) c1) (n - q) (entsC (L.drop q))) ∧ Hid ((Value.slice A1 (n - q) c1).ownBlock ≠ some p))
            case first =>
              go_region_held3 (fun w' => w'.cell? ⟨w.heap.size, 0, none⟩ = some (.int .i64 b) ∧ w'.cell? ⟨w.heap.size, 1, none⟩ = some (.int .i64 t) ∧ w'.cell? ⟨w.heap.size, 2, none⟩ = some (Value.slice (some a) n c))
                (first | (with_reducible exact ⟨k0, k1, k2⟩) | (with_reducible exact ⟨(cell_put (a := ⟨w.heap.size, 0, none⟩) HNA.out).trans k0, (cell_put (a := ⟨w.heap.size, 1, none⟩) HNA.out).trans k1, (cell_put (a := ⟨w.heap.size, 2, none⟩) HNA.out).trans k2⟩) | (with_reducible exact ⟨(cell_put (a := ⟨w.heap.size, 0, none⟩) HNB.out).trans k0, (cell_put (a := ⟨w.heap.size, 1, none⟩) HNB.out).trans k1, (cell_put (a := ⟨w.heap.size, 2, none⟩) HNB.out).trans k2⟩) | go_keep)
                (first | (go_at_call 66; with_reducible refine (HPW.out (w3.alloc (.cells #[.slice (some (a.add (q * 3))) (n - q) (c - q)] 24)).drew w3.heap.size HD1.out HG1.out).mono ?_
                          rintro e w4 ⟨A1, c1, rfl, hown, hb⟩
                          have HB4 : Hid (Below w3.heap.size w3 w4) := HD1.out.trans (hb.mono HD1.out.size)
                          have HO4 := Lib.hid hown
                          have HS4 := Lib.hid hb.size
                          have HL4 := HL.out.ext HB4.out (Nat.le_refl _)
                          clear hown hb k0 k1 k2
                          obtain ⟨k0, k1, k2, _, _, _, _⟩ := HL4)
                       | (go_at_call 66; with_reducible refine (HPW.out ((w3.alloc (.cells #[.slice (some (a.add (q * 3))) (n - q) (c - q)] 24)).alloc (.cells #[.int .i64 0, .int .i64 0, .slice none 0 0] 26)).drew w3.heap.size HD3.out HG3.out).mono ?_
                          rintro e w4 ⟨A1, c1, rfl, hown, hb⟩
                          have HB4 : Hid (Below w3.heap.size w3 w4) := HD3.out.trans (hb.mono HD3.out.size)
                          have HO4 := Lib.hid hown
                          have HS4 := Lib.hid hb.size
                          have HL4 := HL.out.ext HB4.out (Nat.le_refl _)
                          have HZ4 := Lib.hid (HZ3.out.ext hb (Nat.le_refl _))
                          obtain ⟨z0, z1, z2, y0, y1, y2, _⟩ := HZ4.out
                          clear hown hb k0 k1 k2
                          obtain ⟨k0, k1, k2, _, _, _, _⟩ := HL4)
                       | (go_at_call 66; with_reducible refine (HPW.out ((w3.alloc (.cells #[.int .i64 0, .int .i64 0, .slice none 0 0] 26)).alloc (.cells #[.slice (some (a.add (q * 3))) (n - q) (c - q)] 24)).drew (w3.heap.size + 1) HD2.out HG2.out).mono ?_
                          rintro e w4 ⟨A1, c1, rfl, hown, hb⟩
                          have HB4 : Hid (Below w3.heap.size w3 w4) := HD2.out.trans (hb.mono HD2.out.size)
                          have HO4 := Lib.hid hown
                          have HS4 := Lib.hid hb.size
                          have HL4 := HL.out.ext HB4.out (Nat.le_refl _)
                          have HZ4 := Lib.hid (HZ2.out.ext hb (Nat.le_refl _))
                          obtain ⟨z0, z1, z2, y0, y1, y2, _⟩ := HZ4.out
                          clear hown hb k0 k1 k2
                          obtain ⟨k0, k1, k2, _, _, _, _⟩ := HL4)
                       | (go_at_call 66; trace_state; fail))
              · go_wp2_with fail
                go_meet
                exact ⟨_, A1, c1, rfl, HB4.out.size, HB4.out.alloc HB4.out.size _, Lg.new w4 b t _ _, own_ext (own_lower HO4.out HD1.out.size) ((Below.refl w4.heap.size w4).alloc (Nat.le_refl _) _) (Nat.le_refl _), fun h => by have := (ownBlock_in HO4.out h).2; omega⟩
              · go_wp2_with fail
                go_meet
                have hlt : w3.heap.size + 1 < (((w3.alloc (.cells #[.slice (some (a.add (q * 3))) (n - q) (c - q)] 24)).alloc (.cells #[.int .i64 0, .int .i64 0, .slice none 0 0] 26)).drew).heap.size := by simp [World.drew, World.drewN]
                exact ⟨_, A1, c1, rfl, by omega, below_put HB4.out (by omega) _ _ _, HZ4.out.put b t _, own_lower (own_set (own_set (own_set HO4.out hlt _) hlt _) hlt _) HD3.out.size, fun h => by have := (ownBlock_in HO4.out h).1; omega⟩
              · go_wp2_with fail
                go_meet
                have hlt : w3.heap.size < (((w3.alloc (.cells #[.int .i64 0, .int .i64 0, .slice none 0 0] 26)).alloc (.cells #[.slice (some (a.add (q * 3))) (n - q) (c - q)] 24)).drew).heap.size := by simp [World.drew, World.drewN]; omega
                exact ⟨_, A1, c1, rfl, by omega, below_put HB4.out (by omega) _ _ _, HZ4.out.put b t _, own_lower (own_set (own_set (own_set HO4.out hlt _) hlt _) hlt _) HD2.out.size, fun h => by have := (ownBlock_in HO4.out h).1; omega⟩
            case rest =>
              obtain ⟨p, A1, c1, rfl, hp, HBX, HLP, HOX, HNP⟩ := hcut
              have HX2 : Hid (Below w.heap.size w wc) := HX.out.trans (HBX.out.mono HX.out.size)
              have HZ2' := Lib.hid (HZ.out.ext HBX.out (Nat.le_refl _))
              clear HPW HG1 HD1 HD3 HD2 HG3 HG2 HZ3 HZ2 HRL k0 k1 k2 f0 f1 f2 z0 z1 z2 y0 y1 y2
              obtain ⟨p0, p1, p2, q0, q1, q2, _⟩ := HLP.out
              obtain ⟨z0, z1, z2, y0, y1, y2, _⟩ := HZ2'.out
              have hpz : p ≠ w.heap.size + 1 := by omega
              go_wp2
              refine bodyPost_ret (v := .tuple #[.agg #[.int .i64 (b + (q : Int)), .int .i64 lt, .slice A1 ((n - q)) c1], .int .i64 0]) (by simp [results, Try.results29, go_sem, *]) rfl ?_
              show LogRet _ _ _ _
              rw [HE.out]
              refine ⟨_, rfl, ?_, ((((HX2.out.setCell (by simp; omega) _).setCell (by simp; omega) _).setCell (by simp) _).setCell (by simp) _).setCell (by simp) _⟩
              show World.ownsRow _ _ _ _ _ (L.drop q).length (entsC (L.drop q))
              rw [HLS.out]
              have h1 := ownsRow_setCell_other HOX.out (a := ⟨p, 0, none⟩) HNP.out (.int .i64 (b + (q : Int)))
              have h2 := ownsRow_setCell_other h1 (a := ⟨p, 1, none⟩) HNP.out (.int .i64 lt)
              exact own_lower (own_set (own_set (own_set h2 hz _) hz _) hz _) (by omega)
  · have HM1 := Lib.hid (decide_eq_false hok)
    have HE : Hid (res = (0, 0, [], 1)) := by show _ = _; rw [← HAPP.out]; unfold compE; rw [if_neg (fun h => hok h.1)]
    generalize endE b t L = en at *
    obtain ⟨ei, et⟩ := en
    obtain ⟨k0, k1, k2, f0, f1, f2, _⟩ := HL.out
    obtain ⟨z0, z1, z2, y0, y1, y2, _⟩ := HZ.out
    go_wp2_with fail
    clear k0 k1 k2 f0 f1 f2 z0 z1 z2 y0 y1 y2
    refine (May_any w1 b t A n c L HN.out (by omega) HR.out _ HM1.out).mono ?_
    rintro r w2 ⟨rfl, hb⟩
    replace HX : Hid (Below w.heap.size w w2) := HX.out.trans (hb.mono HX.out.size)
    replace HL := Lib.hid (HL.out.ext hb (Nat.le_refl _))
    replace HZ := Lib.hid (HZ.out.ext hb (Nat.le_refl _))
    replace HR := Lib.hid (HR.out.ext hb (Nat.le_refl _))
    replace hz := Nat.lt_of_lt_of_le hz hb.size
    clear hb HM1 HAPP hok
    obtain ⟨k0, k1, k2, f0, f1, f2, _⟩ := HL.out
    obtain ⟨z0, z1, z2, y0, y1, y2, _⟩ := HZ.out
    go_wp2
    refine bodyPost_ret (v := .tuple #[.agg #[.int .i64 0, .int .i64 0, .slice none 0 0], .int .i64 1]) (by simp [results, Try.results29, go_sem, *]) rfl ?_
    show LogRet _ _ _ _
    rw [HE.out]
    refine ⟨_, rfl, World.ownsRow_nil _ _ _ _, ?_⟩
    exact ((HX.out.setCell (by simp) _).setCell (by simp) _).setCell (by simp) _
end Go.Proofs.Ytpdnkhdnenibgaa
