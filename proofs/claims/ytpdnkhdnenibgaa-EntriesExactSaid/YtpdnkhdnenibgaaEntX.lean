/- Cut and Slice of any log, at any index. -/
import Derived.Test.YtpdnkhdnenibgaaEntM
set_option linter.unusedVariables false
set_option linter.unusedSimpArgs false
namespace Go.Proofs.Ytpdnkhdnenibgaa
open Go.RowKit Lec


set_option maxRecDepth 100000 in
set_option maxHeartbeats 1000000 in
theorem Cut_all (w : World) (b t : Int) (A : Option Addr) (n c : Nat) (L : List Ent) (hn : L.length = n) (hm : n ≤ 100000) (hnc : n ≤ c) (hA : A = none → n = 0 ∧ c = 0) (hr : Rds w A (entsC L)) (i : Int) :
    Calls Try.prog 23 #[.agg #[.int .i64 b, .int .i64 t, .slice A n c], .int .i64 i] w (LogRet w (cutE b t L i)) := by
  have HR := Lib.hid hr
  have HN := Lib.hid hn
  have HA := Lib.hid hA
  clear hr hn hA
  generalize happ : cutE b t L i = res
  have HAPP := Lib.hid happ
  clear happ
  go_enter Try.func23, Try.ntmps23
  go_wp2_with fail
  obtain ⟨w0, hw0⟩ : ∃ w0, w0 = (w.alloc (.cells #[.int .i64 b, .int .i64 t, .slice A n c] 26)).alloc (.cells #[.int .i64 0, .int .i64 0, .slice none 0 0] 26) := ⟨_, rfl⟩
  rw [← hw0]
  have HX : Hid (Below w.heap.size w w0) := by rw [hw0]; exact ((Below.refl _ _).alloc (Nat.le_refl _) _).alloc (by simp) _
  have HL : Hid (Lg w0 w.heap.size b t (.slice A n c)) := by rw [hw0]; exact (Lg.new w b t _ _).ext (B := w.heap.size + 1) ((Below.refl _ _).alloc (by simp) _) (by simp)
  have HZ : Hid (Lg w0 (w.heap.size + 1) 0 0 (.slice none 0 0)) := by rw [hw0]; have := Lg.new (w.alloc (.cells #[.int .i64 b, .int .i64 t, .slice A n c] 26)) 0 0 (.slice none 0 0) 26; show Lg _ _ _ _ _; simpa using this
  have hz : w.heap.size + 1 < w0.heap.size := by rw [hw0]; simp
  replace HR := Lib.hid (HR.out.ext HX.out (Nat.le_refl _))
  clear hw0
  refine (End_any w0 b t A n c L HN.out (by omega) HR.out).mono ?_
  rintro r w1 ⟨rfl, hb⟩
  replace HX : Hid (Below w.heap.size w w1) := HX.out.trans (hb.mono HX.out.size)
  replace HL := Lib.hid (HL.out.ext hb (Nat.le_refl _))
  replace HZ := Lib.hid (HZ.out.ext hb (Nat.le_refl _))
  replace HR := Lib.hid (HR.out.ext hb (Nat.le_refl _))
  replace hz := Nat.lt_of_lt_of_le hz hb.size
  clear hb
  by_cases hok : mayL b t L
  · have HM1 := Lib.hid (decide_eq_true hok)
    have hend : (endE b t L).1 = b + n := by rw [runsE_end _ _ _ hok.2.2.2.2.2, HN.out]
    have hbb : 0 ≤ b ∧ b ≤ 1099511625728 := ⟨hok.1, hok.2.1⟩
    generalize endE b t L = en at *
    obtain ⟨ei, et⟩ := en
    obtain rfl : ei = b + n := hend
    obtain ⟨k0, k1, k2, f0, f1, f2, _⟩ := HL.out
    obtain ⟨z0, z1, z2, y0, y1, y2, _⟩ := HZ.out
    go_wp2_with fail
    clear k0 k1 k2 f0 f1 f2 z0 z1 z2 y0 y1 y2
    refine (May_any w1 b t A n c L HN.out (by omega) HR.out _ HM1.out).mono ?_
    rintro r w2 ⟨rfl, hb⟩
    replace HX : Hid (Below w.heap.size w w2) := HX.out.trans (hb.mono HX.out.size)
    replace HL := Lib.hid (HL.out.ext hb (Nat.le_refl _))
    replace HZ := Lib.hid (HZ.out.ext hb (Nat.le_refl _))
    replace HR := Lib.hid (HR.out.ext hb (Nat.le_refl _))
    replace hz := Nat.lt_of_lt_of_le hz hb.size
    clear hb HM1
    by_cases hlo : i < b
    · have HE : Hid (res = (0, 0, [], 1)) := by show _ = _; rw [← HAPP.out]; unfold cutE; rw [if_neg (by omega)]
      clear HAPP hok
      obtain ⟨k0, k1, k2, f0, f1, f2, _⟩ := HL.out
      obtain ⟨z0, z1, z2, y0, y1, y2, _⟩ := HZ.out
      go_wp2
      refine bodyPost_ret (v := .tuple #[.agg #[.int .i64 0, .int .i64 0, .slice none 0 0], .int .i64 1]) (by simp [results, Try.results23, go_sem, *]) rfl ?_
      show LogRet _ _ _ _
      rw [HE.out]
      refine ⟨_, rfl, World.ownsRow_nil _ _ _ _, ?_⟩
      exact ((HX.out.setCell (by simp) _).setCell (by simp) _).setCell (by simp) _
    · by_cases hhi : b + n < i
      · have HE : Hid (res = (0, 0, [], 1)) := by show _ = _; rw [← HAPP.out]; unfold cutE; rw [if_neg (by rw [HN.out]; omega)]
        clear HAPP hok
        obtain ⟨k0, k1, k2, f0, f1, f2, _⟩ := HL.out
        obtain ⟨z0, z1, z2, y0, y1, y2, _⟩ := HZ.out
        go_wp2
        refine bodyPost_ret (v := .tuple #[.agg #[.int .i64 0, .int .i64 0, .slice none 0 0], .int .i64 1]) (by simp [results, Try.results23, go_sem, *]) rfl ?_
        show LogRet _ _ _ _
        rw [HE.out]
        refine ⟨_, rfl, World.ownsRow_nil _ _ _ _, ?_⟩
        exact ((HX.out.setCell (by simp) _).setCell (by simp) _).setCell (by simp) _
      · obtain ⟨k, rfl⟩ : ∃ k : Nat, i = b + k := ⟨(i - b).toNat, by omega⟩
        have hkn : k ≤ n := by omega
        have HE : Hid (res = (b, t, L.take k, 0)) := by
          show _ = _; rw [← HAPP.out]; unfold cutE; rw [if_pos ⟨hok, by omega, by rw [HN.out]; omega⟩, show (b + k - b : Int).toNat = k by omega]
        clear HAPP hok
        have hsub : b + (k : Int) - b = (k : Int) := by omega
        have HLK : Hid ((L.take k).length = k) := by show _ = _; rw [List.length_take, HN.out]; omega
        have hlow : ¬ b + (k : Int) < b := by omega
        have hhig : ¬ b + (n : Int) < b + (k : Int) := by omega
        have HSU := Lib.hid hsub
        clear hsub
        obtain ⟨k0, k1, k2, f0, f1, f2, _⟩ := HL.out
        obtain ⟨z0, z1, z2, y0, y1, y2, _⟩ := HZ.out
        go_wp2_with fail
        have hsub := HSU.out
        have hwr : IntKind.i64.wrap (b + (k : Int) - b) = (k : Int) := by rw [hsub]; exact wrap_id (by omega)
        have hwr2 : IntKind.i64.wrap (k : Int) = (k : Int) := wrap_id (by omega)
        have hA0 : c = 0 ∨ ∃ a, A = some a ∧ ¬ c = 0 := by
          cases A with
          | none => exact .inl (HA.out rfl).2
          | some a => by_cases h : c = 0
                      · exact .inl h
                      · exact .inr ⟨a, rfl, h⟩
        rcases hA0 with hc0 | ⟨a, rfl, hcz⟩
        · subst hc0
          obtain rfl : n = 0 := by omega
          obtain rfl : k = 0 := by omega
          have hcz : True := trivial
          have hw0 : IntKind.i64.wrap 0 = 0 := by decide
          have hw1 : IntKind.i64.wrap b = b := wrap_id (by omega)
          have HSUM : Hid (sumLen [L.take 0] = 0) := by show _ = _; unfold sumLen; simp only [List.map_cons, List.map_nil, List.sum_cons, List.sum_nil]; rw [HLK.out]; rfl
          go_region_held3 (fun w' => w'.cell? ⟨w.heap.size, 0, none⟩ = some (.int .i64 b) ∧ w'.cell? ⟨w.heap.size, 1, none⟩ = some (.int .i64 t) ∧ w'.cell? ⟨w.heap.size, 2, none⟩ = some (Value.slice A 0 0))
              (first | go_keep | exact ⟨k0, k1, k2⟩)
              (first | (go_at_call 66; refine (with_any _ b t A 0 0 _ 1 1 [L.take 0] rfl (by rw [HSUM.out]; omega) (by omega) (RdsL.drew (rdsL1 HLK.out (fun _ => ⟨rfl, rfl⟩) (rds_take HR.out 0) _))).mono ?_
                        rintro e w4 ⟨v, rfl, hown, hb⟩
                        obtain ⟨A1, c1, rfl, p1, p2, p3, p4, p5⟩ := own_rds hown
                        rw [HSUM.out] at hown ⊢
                        have hb4 : Below w2.heap.size w2 w4 := Below.trans (b := (w2.alloc (.cells #[Value.slice A 0 0] 24)).drew) (let h := (Below.refl w2.heap.size w2).alloc (Nat.le_refl _) (.cells #[Value.slice A 0 0] 24); ⟨h.os, h.tape, h.output, h.size, h.block⟩) (hb.mono (by simp))
                        clear p1 p2 p3 p4 p5 hb k0 k1 k2 f0 f1 f2 z0 z1 z2 y0 y1 y2
                        have HB4 := Lib.hid hb4
                        have HO4 := Lib.hid hown
                        have HL4 := HL.out.ext hb4 (Nat.le_refl _)
                        have HZ4 := HZ.out.ext hb4 (Nat.le_refl _)
                        obtain ⟨k0, k1, k2, f0, f1, f2, _⟩ := HL4
                        obtain ⟨z0, z1, z2, y0, y1, y2, _⟩ := HZ4
                        clear hb4 hown))
          go_wp2
          refine bodyPost_ret (v := .tuple #[.agg #[.int .i64 b, .int .i64 t, .slice A1 0 c1], .int .i64 0]) (by simp [results, Try.results23, go_sem, *]) rfl ?_
          show LogRet _ _ _ _
          rw [HE.out]
          refine ⟨_, rfl, ?_, ((((HX.out.trans (HB4.out.mono HX.out.size)).setCell (by simp) _).setCell (by simp) _).setCell (by simp) _)⟩
          show World.ownsRow _ _ _ _ _ (L.take 0).length (entsC (L.take 0))
          rw [HLK.out]
          have hfl : [L.take 0].flatten = L.take 0 := by simp
          have HO5 := HO4.out
          rw [hfl] at HO5
          exact own_lower (own_set (own_set (own_set HO5 (by simp; omega) _) (by simp; omega) _) (by simp; omega) _) (by simp; omega)
        · have hk0 : (0 : Int) ≤ (k : Int) := by omega
          have hkc : (k : Int) ≤ (c : Int) := by omega
          have HSUM : Hid (sumLen [L.take k] = k) := by show _ = _; unfold sumLen; simp only [List.map_cons, List.map_nil, List.sum_cons, List.sum_nil]; rw [HLK.out]; rfl
          go_region_held3 (fun w' => w'.cell? ⟨w.heap.size, 0, none⟩ = some (.int .i64 b) ∧ w'.cell? ⟨w.heap.size, 1, none⟩ = some (.int .i64 t) ∧ w'.cell? ⟨w.heap.size, 2, none⟩ = some (Value.slice (some a) n c))
              (first | go_keep | exact ⟨k0, k1, k2⟩)
              (first | (go_at_call 66; refine (with_any _ b t (some a) n c _ 1 1 [L.take k] rfl (by rw [HSUM.out]; omega) (by omega) (RdsL.drew (rdsL1 HLK.out (fun e => by cases e) (rds_take HR.out k) _))).mono ?_
                        rintro e w4 ⟨v, rfl, hown, hb⟩
                        obtain ⟨A1, c1, rfl, p1, p2, p3, p4, p5⟩ := own_rds hown
                        rw [HSUM.out] at hown ⊢
                        have hb4 : Below w2.heap.size w2 w4 := Below.trans (b := (w2.alloc (.cells #[Value.slice (some a) k c] 24)).drew) (let h := (Below.refl w2.heap.size w2).alloc (Nat.le_refl _) (.cells #[Value.slice (some a) k c] 24); ⟨h.os, h.tape, h.output, h.size, h.block⟩) (hb.mono (by simp))
                        clear p1 p2 p3 p4 p5 hb k0 k1 k2 f0 f1 f2 z0 z1 z2 y0 y1 y2
                        have HB4 := Lib.hid hb4
                        have HO4 := Lib.hid hown
                        have HL4 := HL.out.ext hb4 (Nat.le_refl _)
                        have HZ4 := HZ.out.ext hb4 (Nat.le_refl _)
                        obtain ⟨k0, k1, k2, f0, f1, f2, _⟩ := HL4
                        obtain ⟨z0, z1, z2, y0, y1, y2, _⟩ := HZ4
                        clear hb4 hown))
          go_wp2
          refine bodyPost_ret (v := .tuple #[.agg #[.int .i64 b, .int .i64 t, .slice A1 k c1], .int .i64 0]) (by simp [results, Try.results23, go_sem, *]) rfl ?_
          show LogRet _ _ _ _
          rw [HE.out]
          refine ⟨_, rfl, ?_, ((((HX.out.trans (HB4.out.mono HX.out.size)).setCell (by simp) _).setCell (by simp) _).setCell (by simp) _)⟩
          show World.ownsRow _ _ _ _ _ (L.take k).length (entsC (L.take k))
          rw [HLK.out]
          have hfl : [L.take k].flatten = L.take k := by simp
          have HO5 := HO4.out
          rw [hfl] at HO5
          exact own_lower (own_set (own_set (own_set HO5 (by simp; omega) _) (by simp; omega) _) (by simp; omega) _) (by simp; omega)
  · have HM1 := Lib.hid (decide_eq_false hok)
    have HE : Hid (res = (0, 0, [], 1)) := by show _ = _; rw [← HAPP.out]; unfold cutE; rw [if_neg (fun h => hok h.1)]
    generalize endE b t L = en at *
    obtain ⟨ei, et⟩ := en
    obtain ⟨k0, k1, k2, f0, f1, f2, _⟩ := HL.out
    obtain ⟨z0, z1, z2, y0, y1, y2, _⟩ := HZ.out
    go_wp2_with fail
    clear k0 k1 k2 f0 f1 f2 z0 z1 z2 y0 y1 y2
    refine (May_any w1 b t A n c L HN.out (by omega) HR.out _ HM1.out).mono ?_
    rintro r w2 ⟨rfl, hb⟩
    replace HX : Hid (Below w.heap.size w w2) := HX.out.trans (hb.mono HX.out.size)
    replace HL := Lib.hid (HL.out.ext hb (Nat.le_refl _))
    replace HZ := Lib.hid (HZ.out.ext hb (Nat.le_refl _))
    replace HR := Lib.hid (HR.out.ext hb (Nat.le_refl _))
    replace hz := Nat.lt_of_lt_of_le hz hb.size
    clear hb HM1 HAPP hok
    obtain ⟨k0, k1, k2, f0, f1, f2, _⟩ := HL.out
    obtain ⟨z0, z1, z2, y0, y1, y2, _⟩ := HZ.out
    go_wp2
    refine bodyPost_ret (v := .tuple #[.agg #[.int .i64 0, .int .i64 0, .slice none 0 0], .int .i64 1]) (by simp [results, Try.results23, go_sem, *]) rfl ?_
    show LogRet _ _ _ _
    rw [HE.out]
    refine ⟨_, rfl, World.ownsRow_nil _ _ _ _, ?_⟩
    exact ((HX.out.setCell (by simp) _).setCell (by simp) _).setCell (by simp) _

end Go.Proofs.Ytpdnkhdnenibgaa
