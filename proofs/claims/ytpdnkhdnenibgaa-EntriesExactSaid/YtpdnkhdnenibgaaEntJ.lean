/- The walk of entries.Append. -/
import Derived.Test.YtpdnkhdnenibgaaEntI
set_option linter.unusedVariables false
set_option linter.unusedSimpArgs false
namespace Lec
open Go Go.RowKit
/-- What Append answers: a log, an error. -/
def appE (b t : Int) (L es : List Ent) : Int × Int × List Ent × Int :=
  if mayL b t L then if runsE (endE b t L).1 (endE b t L).2 es then if L.length + es.length ≤ 512 then (b, t, L ++ es, 0) else (0, 0, [], 6) else (0, 0, [], 1) else (0, 0, [], 1)
theorem rdsL2 {w : World} {A B : Option Addr} {n c m d : Nat} {xs ys : List Ent} (hn : xs.length = n) (hm : ys.length = m) (hA : A = none → n = 0 ∧ c = 0) (hB : B = none → m = 0 ∧ d = 0) (hr : Rds w A (entsC xs)) (hs : Rds w B (entsC ys)) (T : TypeId) :
    RdsL (w.alloc (.cells #[.slice A n c, .slice B m d] T)) (some ⟨w.heap.size, 0, none⟩) [xs, ys] := by
  have hb : Below w.heap.size w (w.alloc (.cells #[.slice A n c, .slice B m d] T)) := (Below.refl _ _).alloc (Nat.le_refl _) _
  intro i hi
  match i, hi with
  | 0, _ => exact ⟨_, A, c, rfl, by rw [Addr.add_lit, cell_of_row _ _ _ _ _ _ (heap_alloc_new _ _)]; simp [hn], hr.ext hb (Nat.le_refl _), by rw [← hn] at hA; exact hA⟩
  | 1, _ => exact ⟨_, B, d, rfl, by rw [Addr.add_lit, cell_of_row _ _ _ _ _ _ (heap_alloc_new _ _)]; simp [hm], hs.ext hb (Nat.le_refl _), by rw [← hm] at hB; exact hB⟩
theorem rdsL1 {w : World} {A : Option Addr} {n c : Nat} {xs : List Ent} (hn : xs.length = n) (hA : A = none → n = 0 ∧ c = 0) (hr : Rds w A (entsC xs)) (T : TypeId) :
    RdsL (w.alloc (.cells #[.slice A n c] T)) (some ⟨w.heap.size, 0, none⟩) [xs] := by
  have hb : Below w.heap.size w (w.alloc (.cells #[.slice A n c] T)) := (Below.refl _ _).alloc (Nat.le_refl _) _
  intro i hi
  match i, hi with
  | 0, _ => exact ⟨_, A, c, rfl, by rw [Addr.add_lit, cell_of_row _ _ _ _ _ _ (heap_alloc_new _ _)]; simp [hn], hr.ext hb (Nat.le_refl _), by rw [← hn] at hA; exact hA⟩
end Lec
namespace Go.Proofs.Ytpdnkhdnenibgaa
open Go.RowKit Lec

/-- A log, new in memory, and an error. -/
def LogRet (w : World) (r : Int × Int × List Ent × Int) (e : Ending) (w' : World) : Prop :=
  ∃ v, e = .returned (.tuple #[.agg #[.int .i64 r.1, .int .i64 r.2.1, v], .int .i64 r.2.2.2]) ∧ w'.ownsRow w.heap.size 56 3 v r.2.2.1.length (entsC r.2.2.1) ∧ Below w.heap.size w w'

set_option maxRecDepth 100000 in
set_option maxHeartbeats 1000000 in
theorem Append_any (w : World) (b t : Int) (A : Option Addr) (n c : Nat) (L : List Ent) (hn : L.length = n) (hm : n ≤ 100000) (hA : A = none → n = 0 ∧ c = 0) (hr : Rds w A (entsC L))
    (B : Option Addr) (m d : Nat) (es : List Ent) (hmn : es.length = m) (hmm : m ≤ 100000) (hB : B = none → m = 0 ∧ d = 0) (hs : Rds w B (entsC es)) :
    Calls Try.prog 16 #[.agg #[.int .i64 b, .int .i64 t, .slice A n c], .slice B m d] w (LogRet w (appE b t L es)) := by
  have HR := Lib.hid hr
  have HS := Lib.hid hs
  have HN := Lib.hid hn
  have HM := Lib.hid hmn
  have HA := Lib.hid hA
  have HB := Lib.hid hB
  clear hr hs hn hmn hA hB
  generalize happ : appE b t L es = res
  have HAPP := Lib.hid happ
  clear happ
  go_enter Try.func16, Try.ntmps16
  go_wp2_with fail
  obtain ⟨w0, hw0⟩ : ∃ w0, w0 = (w.alloc (.cells #[.int .i64 b, .int .i64 t, .slice A n c] 26)).alloc (.cells #[.int .i64 0, .int .i64 0, .slice none 0 0] 26) := ⟨_, rfl⟩
  rw [← hw0]
  have HX : Hid (Below w.heap.size w w0) := by rw [hw0]; exact ((Below.refl _ _).alloc (Nat.le_refl _) _).alloc (by simp) _
  have HL : Hid (Lg w0 w.heap.size b t (.slice A n c)) := by rw [hw0]; exact (Lg.new w b t _ _).ext (B := w.heap.size + 1) ((Below.refl _ _).alloc (by simp) _) (by simp)
  have HZ : Hid (Lg w0 (w.heap.size + 1) 0 0 (.slice none 0 0)) := by rw [hw0]; have := Lg.new (w.alloc (.cells #[.int .i64 b, .int .i64 t, .slice A n c] 26)) 0 0 (.slice none 0 0) 26; show Lg _ _ _ _ _; simpa using this
  have hz : w.heap.size + 1 < w0.heap.size := by rw [hw0]; simp
  replace HR := Lib.hid (HR.out.ext HX.out (Nat.le_refl _))
  clear hw0
  replace HS := Lib.hid (HS.out.ext HX.out (Nat.le_refl _))
  by_cases hok : mayL b t L
  · have HM1 := Lib.hid (decide_eq_true hok)
    refine (May_any w0 b t A n c L HN.out (by omega) HR.out _ HM1.out).mono ?_
    rintro r w1 ⟨rfl, hb⟩
    replace HX : Hid (Below w.heap.size w w1) := HX.out.trans (hb.mono HX.out.size)
    replace HL := Lib.hid (HL.out.ext hb (Nat.le_refl _))
    replace HZ := Lib.hid (HZ.out.ext hb (Nat.le_refl _))
    replace HR := Lib.hid (HR.out.ext hb (Nat.le_refl _))
    replace hz := Nat.lt_of_lt_of_le hz hb.size
    replace HS := Lib.hid (HS.out.ext hb (Nat.le_refl _))
    clear hb HM1
    obtain ⟨k0, k1, k2, f0, f1, f2, _⟩ := HL.out
    obtain ⟨z0, z1, z2, y0, y1, y2, _⟩ := HZ.out
    go_wp2_with fail
    clear k0 k1 k2 f0 f1 f2 z0 z1 z2 y0 y1 y2
    refine (End_any w1 b t A n c L HN.out (by omega) HR.out).mono ?_
    rintro r w2 ⟨rfl, hb⟩
    replace HX : Hid (Below w.heap.size w w2) := HX.out.trans (hb.mono HX.out.size)
    replace HL := Lib.hid (HL.out.ext hb (Nat.le_refl _))
    replace HZ := Lib.hid (HZ.out.ext hb (Nat.le_refl _))
    replace HR := Lib.hid (HR.out.ext hb (Nat.le_refl _))
    replace hz := Nat.lt_of_lt_of_le hz hb.size
    replace HS := Lib.hid (HS.out.ext hb (Nat.le_refl _))
    clear hb
    have hend : (endE b t L).1 = b + n := by rw [runsE_end _ _ _ hok.2.2.2.2.2, HN.out]
    have hbb : 0 ≤ b ∧ b ≤ 1099511625728 := ⟨hok.1, hok.2.1⟩
    by_cases hrun : runsE (endE b t L).1 (endE b t L).2 es
    · have HF := Lib.hid (decide_eq_true hrun)
      by_cases h512 : n + m ≤ 512
      · have HE : Hid (res = (b, t, L ++ es, 0)) := by
          show _ = _; rw [← HAPP.out]; unfold appE; rw [if_pos hok, if_pos hrun, if_pos (by rw [HN.out, HM.out]; exact h512)]
        have h5i : ¬ 512 < (n : Int) + (m : Int) := by omega
        clear HAPP hrun hok
        generalize endE b t L = en at *
        obtain ⟨ei, et⟩ := en
        obtain rfl : ei = b + n := hend
        obtain ⟨k0, k1, k2, f0, f1, f2, _⟩ := HL.out
        obtain ⟨z0, z1, z2, y0, y1, y2, _⟩ := HZ.out
        go_wp2_with fail
        clear k0 k1 k2 f0 f1 f2 z0 z1 z2 y0 y1 y2
        refine (Follow_any w2 B m d (b + n) et es HM.out (by omega) (by omega) HS.out _ HF.out).mono ?_
        rintro r w3 ⟨rfl, hb⟩
        replace HX : Hid (Below w.heap.size w w3) := HX.out.trans (hb.mono HX.out.size)
        replace HL := Lib.hid (HL.out.ext hb (Nat.le_refl _))
        replace HZ := Lib.hid (HZ.out.ext hb (Nat.le_refl _))
        replace HR := Lib.hid (HR.out.ext hb (Nat.le_refl _))
        replace hz := Nat.lt_of_lt_of_le hz hb.size
        replace HS := Lib.hid (HS.out.ext hb (Nat.le_refl _))
        clear hb HF
        obtain ⟨k0, k1, k2, f0, f1, f2, _⟩ := HL.out
        obtain ⟨z0, z1, z2, y0, y1, y2, _⟩ := HZ.out
        go_wp2_with fail
        clear k0 k1 k2 f0 f1 f2 z0 z1 z2 y0 y1 y2
        have hsum : sumLen [L, es] = n + m := by simp [sumLen, HN.out, HM.out]
        refine (with_any _ b t A n c _ 2 2 [L, es] rfl (by rw [hsum]; omega) (by omega) (rdsL2 HN.out HM.out HA.out HB.out HR.out HS.out _)).mono ?_
        rintro e w4 ⟨v, rfl, hown, hb⟩
        obtain ⟨A1, c1, rfl, p1, p2, p3, p4, p5⟩ := own_rds hown
        rw [hsum] at hown ⊢
        clear p1 p2 p3 p4 p5
        have hb0 : Below w3.heap.size w3 (w3.alloc (.cells #[.slice A n c, .slice B m d] 24)) := (Below.refl _ _).alloc (Nat.le_refl _) _
        replace hb := hb0.trans (hb.mono (by simp))
        replace HX : Hid (Below w.heap.size w w4) := HX.out.trans (hb.mono HX.out.size)
        replace HL := Lib.hid (HL.out.ext hb (Nat.le_refl _))
        replace HZ := Lib.hid (HZ.out.ext hb (Nat.le_refl _))
        replace HR := Lib.hid (HR.out.ext hb (Nat.le_refl _))
        replace hz := Nat.lt_of_lt_of_le hz hb.size
        have HO := Lib.hid hown
        have HLN : Hid ((L ++ es).length = n + m) := by show _ = _; rw [List.length_append, HN.out, HM.out]
        have hz3 : w.heap.size + 1 < (w3.alloc (.cells #[.slice A n c, .slice B m d] 24)).heap.size := by simp; omega
        clear hown hb hb0 hsum
        obtain ⟨k0, k1, k2, f0, f1, f2, _⟩ := HL.out
        obtain ⟨z0, z1, z2, y0, y1, y2, _⟩ := HZ.out
        go_wp2
        refine bodyPost_ret (v := .tuple #[.agg #[.int .i64 b, .int .i64 t, .slice A1 (n + m) c1], .int .i64 0]) (by simp [results, Try.results16, go_sem, *]) rfl ?_
        show LogRet _ _ _ _
        rw [HE.out]
        refine ⟨_, rfl, ?_, ((HX.out.setCell (by simp) _).setCell (by simp) _).setCell (by simp) _⟩
        have h := own_lower (own_set (p := w.heap.size + 1) (o := 2) (own_set (p := w.heap.size + 1) (o := 1) (own_set (p := w.heap.size + 1) (o := 0) HO.out (by omega) (.int .i64 b)) (by omega) (.int .i64 t)) (by omega) (.slice A1 (n + m) c1)) (base' := w.heap.size) (by omega)
        show World.ownsRow _ _ _ _ _ (L ++ es).length (entsC (L ++ es))
        rw [HLN.out]
        simpa using h
      · have HE : Hid (res = (0, 0, [], 6)) := by
          show _ = _; rw [← HAPP.out]; unfold appE; rw [if_pos hok, if_pos hrun, if_neg (by rw [HN.out, HM.out]; exact h512)]
        have h5i : 512 < (n : Int) + (m : Int) := by omega
        clear HAPP hrun hok
        generalize endE b t L = en at *
        obtain ⟨ei, et⟩ := en
        obtain rfl : ei = b + n := hend
        obtain ⟨k0, k1, k2, f0, f1, f2, _⟩ := HL.out
        obtain ⟨z0, z1, z2, y0, y1, y2, _⟩ := HZ.out
        go_wp2_with fail
        clear k0 k1 k2 f0 f1 f2 z0 z1 z2 y0 y1 y2
        refine (Follow_any w2 B m d (b + n) et es HM.out (by omega) (by omega) HS.out _ HF.out).mono ?_
        rintro r w3 ⟨rfl, hb⟩
        replace HX : Hid (Below w.heap.size w w3) := HX.out.trans (hb.mono HX.out.size)
        replace HL := Lib.hid (HL.out.ext hb (Nat.le_refl _))
        replace HZ := Lib.hid (HZ.out.ext hb (Nat.le_refl _))
        replace HR := Lib.hid (HR.out.ext hb (Nat.le_refl _))
        replace hz := Nat.lt_of_lt_of_le hz hb.size
        clear hb HF
        obtain ⟨k0, k1, k2, f0, f1, f2, _⟩ := HL.out
        obtain ⟨z0, z1, z2, y0, y1, y2, _⟩ := HZ.out
        go_wp2
        refine bodyPost_ret (v := .tuple #[.agg #[.int .i64 0, .int .i64 0, .slice none 0 0], .int .i64 6]) (by simp [results, Try.results16, go_sem, *]) rfl ?_
        show LogRet _ _ _ _
        rw [HE.out]
        refine ⟨_, rfl, World.ownsRow_nil _ _ _ _, ?_⟩
        exact ((HX.out.setCell (by simp) _).setCell (by simp) _).setCell (by simp) _
    · have HF := Lib.hid (decide_eq_false hrun)
      have HE : Hid (res = (0, 0, [], 1)) := by
        show _ = _; rw [← HAPP.out]; unfold appE; rw [if_pos hok, if_neg hrun]
      clear HAPP hrun hok
      generalize endE b t L = en at *
      obtain ⟨ei, et⟩ := en
      obtain rfl : ei = b + n := hend
      obtain ⟨k0, k1, k2, f0, f1, f2, _⟩ := HL.out
      obtain ⟨z0, z1, z2, y0, y1, y2, _⟩ := HZ.out
      go_wp2_with fail
      clear k0 k1 k2 f0 f1 f2 z0 z1 z2 y0 y1 y2
      refine (Follow_any w2 B m d (b + n) et es HM.out (by omega) (by omega) HS.out _ HF.out).mono ?_
      rintro r w3 ⟨rfl, hb⟩
      replace HX : Hid (Below w.heap.size w w3) := HX.out.trans (hb.mono HX.out.size)
      replace HL := Lib.hid (HL.out.ext hb (Nat.le_refl _))
      replace HZ := Lib.hid (HZ.out.ext hb (Nat.le_refl _))
      replace HR := Lib.hid (HR.out.ext hb (Nat.le_refl _))
      replace hz := Nat.lt_of_lt_of_le hz hb.size
      clear hb HF
      obtain ⟨k0, k1, k2, f0, f1, f2, _⟩ := HL.out
      obtain ⟨z0, z1, z2, y0, y1, y2, _⟩ := HZ.out
      go_wp2
      refine bodyPost_ret (v := .tuple #[.agg #[.int .i64 0, .int .i64 0, .slice none 0 0], .int .i64 1]) (by simp [results, Try.results16, go_sem, *]) rfl ?_
      show LogRet _ _ _ _
      rw [HE.out]
      refine ⟨_, rfl, World.ownsRow_nil _ _ _ _, ?_⟩
      exact ((HX.out.setCell (by simp) _).setCell (by simp) _).setCell (by simp) _
  · have HM1 := Lib.hid (decide_eq_false hok)
    have HE : Hid (res = (0, 0, [], 1)) := by show _ = _; rw [← HAPP.out]; unfold appE; rw [if_neg hok]
    refine (May_any w0 b t A n c L HN.out (by omega) HR.out _ HM1.out).mono ?_
    rintro r w1 ⟨rfl, hb⟩
    replace HX : Hid (Below w.heap.size w w1) := HX.out.trans (hb.mono HX.out.size)
    replace HL := Lib.hid (HL.out.ext hb (Nat.le_refl _))
    replace HZ := Lib.hid (HZ.out.ext hb (Nat.le_refl _))
    replace HR := Lib.hid (HR.out.ext hb (Nat.le_refl _))
    replace hz := Nat.lt_of_lt_of_le hz hb.size
    clear hb HM1 HAPP hok
    obtain ⟨k0, k1, k2, f0, f1, f2, _⟩ := HL.out
    obtain ⟨z0, z1, z2, y0, y1, y2, _⟩ := HZ.out
    go_wp2
    refine bodyPost_ret (v := .tuple #[.agg #[.int .i64 0, .int .i64 0, .slice none 0 0], .int .i64 1]) (by simp [results, Try.results16, go_sem, *]) rfl ?_
    show LogRet _ _ _ _
    rw [HE.out]
    refine ⟨_, rfl, World.ownsRow_nil _ _ _ _, ?_⟩
    exact ((HX.out.setCell (by simp) _).setCell (by simp) _).setCell (by simp) _
end Go.Proofs.Ytpdnkhdnenibgaa
