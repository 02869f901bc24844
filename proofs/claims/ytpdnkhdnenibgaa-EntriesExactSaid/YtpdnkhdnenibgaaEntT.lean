/- The walks of the reference's Term, of CopyLog, and of the reference's Append. -/
import Derived.Test.YtpdnkhdnenibgaaEntJ
import Derived.Test.YtpdnkhdnenibgaaEntR2
set_option linter.unusedVariables false
set_option linter.unusedSimpArgs false
namespace Lec
open Go Go.RowKit
theorem Lg.grown {w w' : World} {p : Nat} {b t : Int} {v : Value} {row : Option Nat} (h : Lg w p b t v) (hg : w.grownBy w' row) (hne : row ≠ some p) : Lg w' p b t v := by
  have hb : w'.heap[p]? = w.heap[p]? := hg.block p h.lt (Ne.symm hne)
  have hc : ∀ o, w'.cell? ⟨p, o, none⟩ = w.cell? ⟨p, o, none⟩ := fun o => World.cell?_of_block hb
  have hf : ∀ o, w'.frozen? ⟨p, o, none⟩ = w.frozen? ⟨p, o, none⟩ := fun o => World.frozen?_of_block hb
  exact ⟨(hc _).trans h.c0, (hc _).trans h.c1, (hc _).trans h.c2, (hf _).trans h.f0, (hf _).trans h.f1, (hf _).trans h.f2, Nat.lt_of_lt_of_le h.lt hg.size⟩
theorem Lg.set0 {w : World} {p : Nat} {b t : Int} {v : Value} (h : Lg w p b t v) (u : Int) : Lg (w.setCell ⟨p, 0, none⟩ (.int .i64 u)) p u t v :=
  ⟨cell_set_self _ h.c0, (cell_set_off _ (by decide)).trans h.c1, (cell_set_off _ (by decide)).trans h.c2, (frozen_set _).trans h.f0, (frozen_set _).trans h.f1, (frozen_set _).trans h.f2, by simpa using h.lt⟩
theorem Lg.set1 {w : World} {p : Nat} {b t : Int} {v : Value} (h : Lg w p b t v) (u : Int) : Lg (w.setCell ⟨p, 1, none⟩ (.int .i64 u)) p b u v :=
  ⟨(cell_set_off _ (by decide)).trans h.c0, cell_set_self _ h.c1, (cell_set_off _ (by decide)).trans h.c2, (frozen_set _).trans h.f0, (frozen_set _).trans h.f1, (frozen_set _).trans h.f2, by simpa using h.lt⟩
/-- A log is stored. -/
abbrev put3 (w : World) (p : Nat) (b t : Int) (v : Value) : World := ((w.setCell ⟨p, 0, none⟩ (.int .i64 b)).setCell ⟨p, 1, none⟩ (.int .i64 t)).setCell ⟨p, 2, none⟩ v
theorem Lg.put {w : World} {p : Nat} {b t : Int} {v : Value} (h : Lg w p b t v) (b' t' : Int) (v' : Value) : Lg (put3 w p b' t' v') p b' t' v' := ((h.set0 b').set1 t').set2 v'
theorem below_put {w w' : World} {p B : Nat} (h : Below B w w') (hp : B ≤ p) (b t : Int) (v : Value) : Below B w (put3 w' p b t v) := ((h.setCell (by simpa using hp) _).setCell (by simpa using hp) _).setCell (by simpa using hp) _
theorem cell_put {w : World} {p : Nat} {a : Addr} {b t : Int} {v : Value} (h : a.block ≠ p) : (put3 w p b t v).cell? a = w.cell? a := by
  unfold put3; rw [cell_set_far _ h, cell_set_far _ h, cell_set_far _ h]
theorem frozen_put {w : World} {p : Nat} {a : Addr} {b t : Int} {v : Value} : (put3 w p b t v).frozen? a = w.frozen? a := by
  unfold put3; rw [frozen_set, frozen_set, frozen_set]
theorem rds_put {w : World} {p : Nat} {A : Option Addr} {vs : List Value} {b t : Int} {v : Value} (h : Rds w A vs) (hne : ∀ a, A = some a → a.block ≠ p) : Rds (put3 w p b t v) A vs := fun i u hu => by
  obtain ⟨a, e, hc⟩ := h i u hu
  exact ⟨a, e, (cell_put (by rw [add_block]; exact hne a e)).trans hc⟩
theorem size_put (w : World) (p : Nat) (b t : Int) (v : Value) : (put3 w p b t v).heap.size = w.heap.size := by unfold put3; simp
theorem own_ne {w : World} {B : Nat} {e T : TypeId} {size : Nat} {v : Value} {n : Nat} {xs : List Value} {b : Nat} {cs : Array Value} {fr : Nat × Nat} (hown : w.ownsRow B e size v n xs) (hb : w.heap[b]? = some (.cells cs T fr)) (hTe : T ≠ e) : v.ownBlock ≠ some b := by
  rcases hown.2 with ⟨rfl, _⟩ | ⟨g, cap, cur, rfl, _, hg, _⟩
  · simp [Value.ownBlock]
  · intro h
    have hgb : g = b := by simpa [Value.ownBlock] using h
    subst hgb
    rw [hb] at hg
    injection hg with hg
    injection hg with _ h2 _
    exact hTe h2
end Lec
namespace Go.Proofs.Ytpdnkhdnenibgaa
open Go.RowKit Lec



set_option maxRecDepth 100000 in
theorem rTerm_any (w : World) (b t : Int) (A : Option Addr) (n c : Nat) (es : List Ent) (hn : es.length = n) (hm : n ≤ 1000000) (hr : Rds w A (entsC es)) (hok : mayL b t es) (i : Int) :
    Calls Try.prog 27 #[.agg #[.int .i64 b, .int .i64 t, .slice A n c], .int .i64 i] w fun r w' => r = .returned (.tuple #[.int .i64 (atR (atE b t es i)).1, .bool (atR (atE b t es i)).2]) ∧ Below w.heap.size w w' := by
  have HR := Lib.hid hr
  have HN := Lib.hid hn
  have hend : (endE b t es).1 = b + n := by rw [runsE_end _ _ _ hok.2.2.2.2.2, hn]
  have hbb : 0 ≤ b ∧ b ≤ 1099511625728 := ⟨hok.1, hok.2.1⟩
  clear hr hn hok
  go_enter Try.func27, Try.ntmps27
  go_wp2_with fail
  obtain ⟨w0, hw0⟩ : ∃ w0, w0 = w.alloc (.cells #[.int .i64 b, .int .i64 t, .slice A n c] 26) := ⟨_, rfl⟩
  rw [← hw0]
  have HX : Hid (Below w.heap.size w w0) := by rw [hw0]; exact (Below.refl _ _).alloc (Nat.le_refl _) _
  have HL : Hid (Lg w0 w.heap.size b t (.slice A n c)) := by rw [hw0]; exact Lg.new w b t _ _
  have HR0 := Lib.hid (HR.out.ext HX.out (Nat.le_refl _))
  clear hw0
  refine (rLast_any w0 b t A n c es HN.out (by omega) HR0.out).mono ?_
  rintro r w1 ⟨rfl, hb⟩
  rw [hend]
  have HF : Hid (Below w.heap.size w w1) := HX.out.trans (hb.mono HX.out.size)
  have HR1 := Lib.hid (HR0.out.ext hb (Nat.le_refl _))
  obtain ⟨k0, k1, k2, f0, f1, f2, _⟩ := HL.out.ext hb (Nat.le_refl _)
  clear hb HL
  by_cases h2 : i < b
  · have HE : Hid (atE b t es i = none) := atE_out (.inl h2)
    go_wp2
    go_ret2
    exact ⟨by rw [HE.out]; rfl, HF.out⟩
  · by_cases h3 : b + n < i
    · have HE : Hid (atE b t es i = none) := atE_out (.inr (by rw [HN.out]; exact h3))
      go_wp2
      go_ret2
      exact ⟨by rw [HE.out]; rfl, HF.out⟩
    · by_cases h1 : i = b
      · have h1i : (i == b) = true := by rw [beq_iff_eq]; exact h1
        have HE : Hid (atE b t es i = some t) := by rw [h1]; exact atE_base _ _ _
        clear h1
        go_wp2
        go_ret2
        exact ⟨by rw [HE.out]; rfl, HF.out⟩
      · have h1i : (i == b) = false := by rw [beq_eq_false_iff_ne]; exact h1
        obtain ⟨k, rfl⟩ : ∃ k : Nat, i = b + 1 + k := ⟨(i - b - 1).toNat, by omega⟩
        have hk : k < es.length := by rw [HN.out]; omega
        have HE : Hid (atE b t es (b + 1 + k) = some es[k].2.1) := atE_in hk
        obtain ⟨a, rfl, g0, g1, g2⟩ := ents_cells HR1.out k hk
        have hki : (k : Int) < (n : Int) := by omega
        have hkx : (b + 1 + (k : Int)) - b - 1 = (k : Int) := by omega
        have hkt : ((b + 1 + (k : Int)) - b - 1).toNat = k := by omega
        generalize es[k] = x at *
        clear h1
        go_wp2
        go_ret2
        exact ⟨by rw [HE.out]; rfl, HF.out⟩

set_option maxRecDepth 100000 in
theorem CopyLog_any (w : World) (b t : Int) (A : Option Addr) (n c : Nat) (es : List Ent) (hn : es.length = n) (hm : n ≤ 4000000000) (hr : Rds w A (entsC es)) :
    Calls Try.prog 40 #[.agg #[.int .i64 b, .int .i64 t, .slice A n c]] w fun e w' => ∃ v, e = .returned (.agg #[.int .i64 b, .int .i64 t, v]) ∧ w'.ownsRow w.heap.size 56 3 v n (entsC es) ∧ Below w.heap.size w w' := by
  have HR := Lib.hid hr
  have HN := Lib.hid hn
  clear hr hn
  go_enter Try.func40, Try.ntmps40
  go_wp2_with fail
  obtain ⟨w0, hw0⟩ : ∃ w0, w0 = ((w.alloc (.cells #[.int .i64 b, .int .i64 t, .slice A n c] 26)).alloc (.cells #[.int .i64 0, .int .i64 0, .slice none 0 0] 26)).alloc (.cells #[.int .i64 b, .int .i64 t, .slice A n c] 26) := ⟨_, rfl⟩
  rw [← hw0]
  have HX : Hid (Below w.heap.size w w0) := by rw [hw0]; exact (((Below.refl _ _).alloc (Nat.le_refl _) _).alloc (by simp) _).alloc (by simp; omega) _
  have HZ : Hid (Lg w0 (w.heap.size + 1) 0 0 (.slice none 0 0)) := by
    rw [hw0]; have h := Lg.new (w.alloc (.cells #[.int .i64 b, .int .i64 t, .slice A n c] 26)) 0 0 (.slice none 0 0) 26
    have h2 := h.ext (B := w.heap.size + 2) ((Below.refl _ _).alloc (by simp) (.cells #[.int .i64 b, .int .i64 t, .slice A n c] 26)) (by simp)
    show Lg _ _ _ _ _; simpa using h2
  have HM : Hid (Lg w0 (w.heap.size + 1 + 1) b t (.slice A n c)) := by
    rw [hw0]; have h := Lg.new ((w.alloc (.cells #[.int .i64 b, .int .i64 t, .slice A n c] 26)).alloc (.cells #[.int .i64 0, .int .i64 0, .slice none 0 0] 26)) b t (.slice A n c) 26
    show Lg _ _ _ _ _; simpa using h
  have hz : w.heap.size + 1 + 1 < w0.heap.size := by rw [hw0]; simp
  clear hw0
  refine (CopyEntries_any w0 A n c es HN.out hm (HR.out.ext HX.out (Nat.le_refl _))).mono ?_
  rintro e w1 ⟨v, rfl, hown, hb⟩
  obtain ⟨A1, c1, rfl, p1, p2, p3, p4, p5⟩ := own_rds hown
  have HO := Lib.hid hown
  obtain ⟨z0, z1, z2, y0, y1, y2, _⟩ := HZ.out.ext hb (Nat.le_refl _)
  obtain ⟨k0, k1, k2, f0, f1, f2, _⟩ := HM.out.ext hb (Nat.le_refl _)
  replace HX : Hid (Below w.heap.size w w1) := HX.out.trans (hb.mono HX.out.size)
  clear hown hb p1 p2 p3 p4 p5 HZ HM
  go_wp2
  refine bodyPost_ret (v := .agg #[.int .i64 b, .int .i64 t, .slice A1 n c1]) (by simp [results, Try.results40, go_sem, *]) rfl ⟨_, rfl, ?_, ?_⟩
  · exact own_lower (own_set (own_set (own_set (own_set HO.out (by omega) _) (by omega) _) (by omega) _) (by omega) _) (by omega)
  · exact (((HX.out.setCell (by simp; omega) _).setCell (by simp) _).setCell (by simp) _).setCell (by simp) _

/-- What the reference's Append answers, of a log that may be. -/
def rappE (b t : Int) (L es : List Ent) : Int × Int × List Ent × Int :=
  if runsE (endE b t L).1 (endE b t L).2 es then if L.length + es.length ≤ 512 then (b, t, L ++ es, 0) else (0, 0, [], 6) else (0, 0, [], 1)
theorem rappE_eq {b t : Int} {L : List Ent} (h : mayL b t L) (es : List Ent) : appE b t L es = rappE b t L es := by unfold appE rappE; rw [if_pos h]

set_option maxRecDepth 100000 in
set_option maxHeartbeats 1000000 in
theorem rAppend_any (w : World) (b t : Int) (A : Option Addr) (n c : Nat) (L : List Ent) (hn : L.length = n) (hm : n ≤ 100000) (hr : Rds w A (entsC L))
    (B : Option Addr) (m d : Nat) (es : List Ent) (hmn : es.length = m) (hmm : m ≤ 100000) (hB : B = none → m = 0 ∧ d = 0) (hs : Rds w B (entsC es)) (hok : mayL b t L) :
    Calls Try.prog 17 #[.agg #[.int .i64 b, .int .i64 t, .slice A n c], .slice B m d] w (LogRet w (rappE b t L es)) := by
  have HR := Lib.hid hr
  have HS := Lib.hid hs
  have HN := Lib.hid hn
  have HM := Lib.hid hmn
  have HB := Lib.hid hB
  have hend : (endE b t L).1 = b + n := by rw [runsE_end _ _ _ hok.2.2.2.2.2, hn]
  have hbb : 0 ≤ b ∧ b ≤ 1099511625728 := ⟨hok.1, hok.2.1⟩
  clear hr hs hn hmn hB hok
  generalize happ : rappE b t L es = res
  have HAPP := Lib.hid happ
  clear happ
  go_enter Try.func17, Try.ntmps17
  go_wp2_with fail
  obtain ⟨w0, hw0⟩ : ∃ w0, w0 = (w.alloc (.cells #[.int .i64 b, .int .i64 t, .slice A n c] 26)).alloc (.cells #[.int .i64 0, .int .i64 0, .slice none 0 0] 26) := ⟨_, rfl⟩
  rw [← hw0]
  have HX : Hid (Below w.heap.size w w0) := by rw [hw0]; exact ((Below.refl _ _).alloc (Nat.le_refl _) _).alloc (by simp) _
  have HL : Hid (Lg w0 w.heap.size b t (.slice A n c)) := by rw [hw0]; exact (Lg.new w b t _ _).ext (B := w.heap.size + 1) ((Below.refl _ _).alloc (by simp) _) (by simp)
  have HZ : Hid (Lg w0 (w.heap.size + 1) 0 0 (.slice none 0 0)) := by rw [hw0]; have := Lg.new (w.alloc (.cells #[.int .i64 b, .int .i64 t, .slice A n c] 26)) 0 0 (.slice none 0 0) 26; show Lg _ _ _ _ _; simpa using this
  have hz : w.heap.size + 1 < w0.heap.size := by rw [hw0]; simp
  replace HR := Lib.hid (HR.out.ext HX.out (Nat.le_refl _))
  clear hw0
  replace HS := Lib.hid (HS.out.ext HX.out (Nat.le_refl _))
  refine (rLast_any w0 b t A n c L HN.out (by omega) HR.out).mono ?_
  rintro r w1 ⟨rfl, hb⟩
  replace HX : Hid (Below w.heap.size w w1) := HX.out.trans (hb.mono HX.out.size)
  replace HL := Lib.hid (HL.out.ext hb (Nat.le_refl _))
  replace HZ := Lib.hid (HZ.out.ext hb (Nat.le_refl _))
  replace HR := Lib.hid (HR.out.ext hb (Nat.le_refl _))
  replace hz := Nat.lt_of_lt_of_le hz hb.size
  replace HS := Lib.hid (HS.out.ext hb (Nat.le_refl _))
  clear hb
  by_cases hrun : runsE (endE b t L).1 (endE b t L).2 es
  · have HF := Lib.hid (decide_eq_true hrun)
    by_cases h512 : n + m ≤ 512
    · have HE : Hid (res = (b, t, L ++ es, 0)) := by
        show _ = _; rw [← HAPP.out]; unfold rappE; rw [if_pos hrun, if_pos (by rw [HN.out, HM.out]; exact h512)]
      have h5i : ¬ 512 < (n : Int) + (m : Int) := by omega
      clear HAPP hrun
      generalize endE b t L = en at *
      obtain ⟨ei, et⟩ := en
      obtain rfl : ei = b + n := hend
      obtain ⟨k0, k1, k2, f0, f1, f2, _⟩ := HL.out
      obtain ⟨z0, z1, z2, y0, y1, y2, _⟩ := HZ.out
      go_wp2_with fail
      clear k0 k1 k2 f0 f1 f2 z0 z1 z2 y0 y1 y2
      refine (rRuns_any w1 B m d (b + n) et es HM.out (by omega) (by omega) HS.out _ HF.out).mono ?_
      rintro r w2 ⟨rfl, hb⟩
      replace HX : Hid (Below w.heap.size w w2) := HX.out.trans (hb.mono HX.out.size)
      replace HL := Lib.hid (HL.out.ext hb (Nat.le_refl _))
      replace HZ := Lib.hid (HZ.out.ext hb (Nat.le_refl _))
      replace HR := Lib.hid (HR.out.ext hb (Nat.le_refl _))
      replace hz := Nat.lt_of_lt_of_le hz hb.size
      replace HS := Lib.hid (HS.out.ext hb (Nat.le_refl _))
      clear hb HF
      obtain ⟨k0, k1, k2, f0, f1, f2, _⟩ := HL.out
      obtain ⟨z0, z1, z2, y0, y1, y2, _⟩ := HZ.out
      go_wp2_with fail
      clear k0 k1 k2 f0 f1 f2 z0 z1 z2 y0 y1 y2
      refine (CopyLog_any w2 b t A n c L HN.out (by omega) HR.out).mono ?_
      rintro e w3 ⟨v, rfl, hown, hb⟩
      obtain ⟨A1, c1, rfl, p1, p2, p3, p4, p5⟩ := own_rds hown
      clear p1 p2 p3 p4 p5
      replace HX : Hid (Below w.heap.size w w3) := HX.out.trans (hb.mono HX.out.size)
      replace HL := Lib.hid (HL.out.ext hb (Nat.le_refl _))
      replace HZ := Lib.hid (HZ.out.ext hb (Nat.le_refl _))
      replace HR := Lib.hid (HR.out.ext hb (Nat.le_refl _))
      replace hz := Nat.lt_of_lt_of_le hz hb.size
      replace HS := Lib.hid (HS.out.ext hb (Nat.le_refl _))
      have HO := Lib.hid hown
      have hz2 : w.heap.size + 1 < w2.heap.size := by omega
      have h23 := hb.size
      clear hown hb
      have hbm : Below w3.heap.size w3 (w3.alloc (.cells #[.int .i64 b, .int .i64 t, .slice A1 n c1] 26)) := (Below.refl _ _).alloc (Nat.le_refl _) _
      have HO4 := Lib.hid (own_ext HO.out hbm (Nat.le_refl _))
      have HS4 := Lib.hid (HS.out.ext hbm (Nat.le_refl _))
      have HM4 := Lib.hid (Lg.new w3 b t (.slice A1 n c1) 26)
      have HZ4 := Lib.hid (HZ.out.ext hbm (Nat.le_refl _))
      have HX4 : Hid (Below w.heap.size w (w3.alloc (.cells #[.int .i64 b, .int .i64 t, .slice A1 n c1] 26))) := HX.out.trans (hbm.mono HX.out.size)
      have HEL : Hid ((entsC es).length = m * 3) := by show _ = _; rw [entsC_len, HM.out]
      have HOC := Lib.hid (ents_one es)
      have hlt3 : w3.heap.size < (w3.alloc (.cells #[.int .i64 b, .int .i64 t, .slice A1 n c1] 26)).heap.size := by simp
      have HOB : Hid (∀ k, (Value.slice A1 n c1).ownBlock = some k → w2.heap.size ≤ k ∧ k < w3.heap.size) := HO.out.lt
      have hsz32 : w2.heap.size ≤ (w3.alloc (.cells #[.int .i64 b, .int .i64 t, .slice A1 n c1] 26)).heap.size := by simp; omega
      clear hbm
      go_wp2_with (at_builtin; go_loud (refine wp_app rfl _ _ 24 rfl w2.heap.size 56 (.agg #[.int .i64 0, .int .i64 0, .string ⟨#[]⟩]) 3 32 Try.underlying24 info_ent rfl (by decide) (by decide) _ n _ rfl HO4.out B m d (entsC es) rfl HB.out HEL.out HS4.out HOC.out (by omega) hsz32 ?_; intro v' w4 hown' hg'; obtain ⟨A2, c2, rfl, p1, p2, p3, p4, p5⟩ := own_rds hown'; have HM5 := HM4.out.grown hg' (fun e => (by have := HOB.out _ e; omega)); have HZ5 := HZ4.out.grown hg' (fun e => (by have := HOB.out _ e; omega)); have HBK := Lib.hid ((hg'.block w3.heap.size hlt3 (fun e => (by have := HOB.out _ e.symm; omega))).trans (heap_alloc_new w3 _)); have HX5 := Lib.hid (HX4.out.grown hg' HX4.out.size (fun k hk => (by have := (HOB.out k hk).1; omega))); have HO5 := Lib.hid hown'; clear p1 p2 p3 p4 p5 hown' hg'; obtain ⟨k0, k1, k2, f0, f1, f2, _⟩ := HM5; obtain ⟨z0, z1, z2, y0, y1, y2, _⟩ := HZ5))
      have hnm : entsC L ++ entsC es = entsC (L ++ es) := (entsC_app _ _).symm
      rw [hnm] at HO5
      refine bodyPost_ret (v := .tuple #[.agg #[.int .i64 b, .int .i64 t, .slice A2 (n + m) c2], .int .i64 0]) (by simp [results, Try.results17, go_sem, *]) rfl ?_
      show LogRet _ _ _ _
      rw [HE.out]
      have hln : (L ++ es).length = n + m := by rw [List.length_append, HN.out, HM.out]
      refine ⟨_, rfl, ?_, (((HX5.out.setCell (by simp; omega) _).setCell (by simp) _).setCell (by simp) _).setCell (by simp) _⟩
      show World.ownsRow _ _ _ _ _ (L ++ es).length (entsC (L ++ es))
      rw [hln]
      have hne := own_ne HO5.out HBK.out (by decide)
      exact own_lower (own_set (own_set (own_set (ownsRow_setCell_other HO5.out hne _) (by omega) _) (by omega) _) (by omega) _) (by omega)
    · have HE : Hid (res = (0, 0, [], 6)) := by
        show _ = _; rw [← HAPP.out]; unfold rappE; rw [if_pos hrun, if_neg (by rw [HN.out, HM.out]; exact h512)]
      have h5i : 512 < (n : Int) + (m : Int) := by omega
      clear HAPP hrun
      generalize endE b t L = en at *
      obtain ⟨ei, et⟩ := en
      obtain rfl : ei = b + n := hend
      obtain ⟨k0, k1, k2, f0, f1, f2, _⟩ := HL.out
      obtain ⟨z0, z1, z2, y0, y1, y2, _⟩ := HZ.out
      go_wp2_with fail
      clear k0 k1 k2 f0 f1 f2 z0 z1 z2 y0 y1 y2
      refine (rRuns_any w1 B m d (b + n) et es HM.out (by omega) (by omega) HS.out _ HF.out).mono ?_
      rintro r w2 ⟨rfl, hb⟩
      replace HX : Hid (Below w.heap.size w w2) := HX.out.trans (hb.mono HX.out.size)
      replace HL := Lib.hid (HL.out.ext hb (Nat.le_refl _))
      replace HZ := Lib.hid (HZ.out.ext hb (Nat.le_refl _))
      replace HR := Lib.hid (HR.out.ext hb (Nat.le_refl _))
      replace hz := Nat.lt_of_lt_of_le hz hb.size
      clear hb HF
      obtain ⟨k0, k1, k2, f0, f1, f2, _⟩ := HL.out
      obtain ⟨z0, z1, z2, y0, y1, y2, _⟩ := HZ.out
      go_wp2
      refine bodyPost_ret (v := .tuple #[.agg #[.int .i64 0, .int .i64 0, .slice none 0 0], .int .i64 6]) (by simp [results, Try.results17, go_sem, *]) rfl ?_
      show LogRet _ _ _ _
      rw [HE.out]
      refine ⟨_, rfl, World.ownsRow_nil _ _ _ _, ?_⟩
      exact ((HX.out.setCell (by simp) _).setCell (by simp) _).setCell (by simp) _
  · have HF := Lib.hid (decide_eq_false hrun)
    have HE : Hid (res = (0, 0, [], 1)) := by
      show _ = _; rw [← HAPP.out]; unfold rappE; rw [if_neg hrun]
    clear HAPP hrun
    generalize endE b t L = en at *
    obtain ⟨ei, et⟩ := en
    obtain rfl : ei = b + n := hend
    obtain ⟨k0, k1, k2, f0, f1, f2, _⟩ := HL.out
    obtain ⟨z0, z1, z2, y0, y1, y2, _⟩ := HZ.out
    go_wp2_with fail
    clear k0 k1 k2 f0 f1 f2 z0 z1 z2 y0 y1 y2
    refine (rRuns_any w1 B m d (b + n) et es HM.out (by omega) (by omega) HS.out _ HF.out).mono ?_
    rintro r w2 ⟨rfl, hb⟩
    replace HX : Hid (Below w.heap.size w w2) := HX.out.trans (hb.mono HX.out.size)
    replace HL := Lib.hid (HL.out.ext hb (Nat.le_refl _))
    replace HZ := Lib.hid (HZ.out.ext hb (Nat.le_refl _))
    replace HR := Lib.hid (HR.out.ext hb (Nat.le_refl _))
    replace hz := Nat.lt_of_lt_of_le hz hb.size
    clear hb HF
    obtain ⟨k0, k1, k2, f0, f1, f2, _⟩ := HL.out
    obtain ⟨z0, z1, z2, y0, y1, y2, _⟩ := HZ.out
    go_wp2
    refine bodyPost_ret (v := .tuple #[.agg #[.int .i64 0, .int .i64 0, .slice none 0 0], .int .i64 1]) (by simp [results, Try.results17, go_sem, *]) rfl ?_
    show LogRet _ _ _ _
    rw [HE.out]
    refine ⟨_, rfl, World.ownsRow_nil _ _ _ _, ?_⟩
    exact ((HX.out.setCell (by simp) _).setCell (by simp) _).setCell (by simp) _
end Go.Proofs.Ytpdnkhdnenibgaa
