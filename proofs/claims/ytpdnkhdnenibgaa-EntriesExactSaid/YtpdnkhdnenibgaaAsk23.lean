/- What the laws on entries share: heavy, ok. -/
import Derived.Test.YtpdnkhdnenibgaaEntH
import Derived.Test.YtpdnkhdnenibgaaEntR2
set_option linter.unusedVariables false
set_option linter.unusedSimpArgs false
namespace Go.Proofs.Ytpdnkhdnenibgaa
open Go.RowKit Lec

theorem num23 (w : World) (e : Int) : Calls Try.prog 18 #[.int .i64 e] w fun r w' => r = .returned (.int .i64 e) ∧ w = w' := by
  go_enter Try.func18, Try.ntmps18
  go_wp2
  go_ret
  exact ⟨rfl, rfl⟩

def heavy23 (L Es : List Ent) : Bool := decide (6000 < lwOf L.length L) || decide (6000 < lwOf Es.length Es) || decide (600 < L.length) || decide (600 < Es.length)
theorem heavy23_light {L Es : List Ent} (h : heavy23 L Es = false) : L.length ≤ 600 ∧ Es.length ≤ 600 := by
  unfold heavy23 at h
  simp only [Bool.or_eq_false_iff, decide_eq_false_iff_not] at h
  omega

set_option maxRecDepth 100000 in
set_option maxHeartbeats 2000000 in
theorem heavy23_any (w : World) (b t : Int) (A : Option Addr) (n c : Nat) (L : List Ent) (i j : Int) (B : Option Addr) (m d : Nat) (Es : List Ent) (k : Int) (hn : L.length = n) (hm : Es.length = m) (hnm : n ≤ 140737488351232) (hmm : m ≤ 140737488351232)
    (hsl : ∀ s ∈ L, s.2.2.size ≤ 140737488351232) (hse : ∀ s ∈ Es, s.2.2.size ≤ 140737488351232) (hr : Rds w A (entsC L)) (hs : Rds w B (entsC Es)) (u : Bool) (hu : heavy23 L Es = u) :
    Calls Try.prog 30 #[.agg #[.int .i64 b, .int .i64 t, .slice A n c, .int .i64 i, .int .i64 j, .slice B m d, .int .i64 k]] w fun e w' => e = .returned (.bool u) ∧ Below w.heap.size w w' := by
  have HN := Lib.hid hn
  have HM := Lib.hid hm
  have HU := Lib.hid hu
  clear hu
  have hb0 : Below w.heap.size w (w.alloc (.cells #[.int .i64 b, .int .i64 t, .slice A n c, .int .i64 i, .int .i64 j, .slice B m d, .int .i64 k] 28)) := (Below.refl _ _).alloc (Nat.le_refl _) _
  have HR := Lib.hid (hr.ext hb0 (Nat.le_refl _))
  have HS := Lib.hid (hs.ext hb0 (Nat.le_refl _))
  have HSL := Lib.hid hsl
  have HSE := Lib.hid hse
  clear hr hs hsl hse hn hm
  unfold heavy23 at HU
  rw [HN.out, HM.out] at HU
  go_enter Try.func30, Try.ntmps30
  by_cases h1 : 6000 < lwOf n L
  · have h1i : (6000 : Int) < (lwOf n L : Int) := by omega
    have HE : Hid (u = true) := by show _ = _; rw [← HU.out, decide_eq_true h1]; rfl
    clear HU
    go_wp2_with fail
    refine (LogWeight_any _ A n c L HN.out hnm HSL.out HR.out).mono ?_
    rintro e wq ⟨rfl, rfl⟩
    go_wp2
    go_ret
    exact ⟨by rw [HE.out]; rfl, hb0⟩
  · have h1i : ¬ (6000 : Int) < (lwOf n L : Int) := by omega
    by_cases h2 : 6000 < lwOf m Es
    · have h2i : (6000 : Int) < (lwOf m Es : Int) := by omega
      have HE : Hid (u = true) := by show _ = _; rw [← HU.out, decide_eq_true h2]; simp
      clear HU
      go_wp2_with fail
      refine (LogWeight_any _ A n c L HN.out hnm HSL.out HR.out).mono ?_
      rintro e wq ⟨rfl, rfl⟩
      go_wp2_with fail
      refine (LogWeight_any _ B m d Es HM.out hmm HSE.out HS.out).mono ?_
      rintro e wq ⟨rfl, rfl⟩
      go_wp2
      go_ret
      exact ⟨by rw [HE.out]; first | rfl | (show Ending.returned (.bool (decide ((6000 : Int) < (lwOf n L : Int)) || decide ((6000 : Int) < (lwOf m Es : Int)) || decide ((600 : Int) < (n : Int)) || decide ((600 : Int) < (m : Int)))) = _; rw [decide_eq_false (show ¬ (6000 : Int) < (lwOf n L : Int) by omega), decide_eq_false (show ¬ (6000 : Int) < (lwOf m Es : Int) by omega), decide_eq_false (show ¬ (600 : Int) < (n : Int) by omega), decide_eq_false (show ¬ (600 : Int) < (m : Int) by omega)]; rfl), hb0⟩
    · have h2i : ¬ (6000 : Int) < (lwOf m Es : Int) := by omega
      by_cases h3 : 600 < n
      · have h3i : (600 : Int) < (n : Int) := by omega
        have HE : Hid (u = true) := by show _ = _; rw [← HU.out, decide_eq_true h3]; simp
        clear HU
        go_wp2_with fail
        refine (LogWeight_any _ A n c L HN.out hnm HSL.out HR.out).mono ?_
        rintro e wq ⟨rfl, rfl⟩
        go_wp2_with fail
        refine (LogWeight_any _ B m d Es HM.out hmm HSE.out HS.out).mono ?_
        rintro e wq ⟨rfl, rfl⟩
        go_wp2
        go_ret
        exact ⟨by rw [HE.out]; first | rfl | (show Ending.returned (.bool (decide ((6000 : Int) < (lwOf n L : Int)) || decide ((6000 : Int) < (lwOf m Es : Int)) || decide ((600 : Int) < (n : Int)) || decide ((600 : Int) < (m : Int)))) = _; rw [decide_eq_false (show ¬ (6000 : Int) < (lwOf n L : Int) by omega), decide_eq_false (show ¬ (6000 : Int) < (lwOf m Es : Int) by omega), decide_eq_false (show ¬ (600 : Int) < (n : Int) by omega), decide_eq_false (show ¬ (600 : Int) < (m : Int) by omega)]; rfl), hb0⟩
      · have h3i : ¬ (600 : Int) < (n : Int) := by omega
        by_cases h4 : 600 < m
        · have h4i : (600 : Int) < (m : Int) := by omega
          have HE : Hid (u = true) := by show _ = _; rw [← HU.out, decide_eq_true h4]; simp
          clear HU
          go_wp2_with fail
          refine (LogWeight_any _ A n c L HN.out hnm HSL.out HR.out).mono ?_
          rintro e wq ⟨rfl, rfl⟩
          go_wp2_with fail
          refine (LogWeight_any _ B m d Es HM.out hmm HSE.out HS.out).mono ?_
          rintro e wq ⟨rfl, rfl⟩
          go_wp2
          go_ret
          exact ⟨by rw [HE.out]; first | rfl | (show Ending.returned (.bool (decide ((6000 : Int) < (lwOf n L : Int)) || decide ((6000 : Int) < (lwOf m Es : Int)) || decide ((600 : Int) < (n : Int)) || decide ((600 : Int) < (m : Int)))) = _; rw [decide_eq_false (show ¬ (6000 : Int) < (lwOf n L : Int) by omega), decide_eq_false (show ¬ (6000 : Int) < (lwOf m Es : Int) by omega), decide_eq_false (show ¬ (600 : Int) < (n : Int) by omega), decide_eq_false (show ¬ (600 : Int) < (m : Int) by omega)]; rfl), hb0⟩
        · have h4i : ¬ (600 : Int) < (m : Int) := by omega
          have HE : Hid (u = false) := by show _ = _; rw [← HU.out, decide_eq_false h1, decide_eq_false h2, decide_eq_false h3, decide_eq_false h4]; rfl
          clear HU
          go_wp2_with fail
          refine (LogWeight_any _ A n c L HN.out hnm HSL.out HR.out).mono ?_
          rintro e wq ⟨rfl, rfl⟩
          go_wp2_with fail
          refine (LogWeight_any _ B m d Es HM.out hmm HSE.out HS.out).mono ?_
          rintro e wq ⟨rfl, rfl⟩
          go_wp2
          go_ret
          exact ⟨by rw [HE.out]; first | rfl | (show Ending.returned (.bool (decide ((6000 : Int) < (lwOf n L : Int)) || decide ((6000 : Int) < (lwOf m Es : Int)) || decide ((600 : Int) < (n : Int)) || decide ((600 : Int) < (m : Int)))) = _; rw [decide_eq_false (show ¬ (6000 : Int) < (lwOf n L : Int) by omega), decide_eq_false (show ¬ (6000 : Int) < (lwOf m Es : Int) by omega), decide_eq_false (show ¬ (600 : Int) < (n : Int) by omega), decide_eq_false (show ¬ (600 : Int) < (m : Int) by omega)]; rfl), hb0⟩

def ok23 (b t : Int) (L Es : List Ent) : Bool := !heavy23 L Es && decide (L.length < 200) && decide (mayL b t L)

set_option maxRecDepth 100000 in
set_option maxHeartbeats 2000000 in
theorem ok23_any (w : World) (b t : Int) (A : Option Addr) (n c : Nat) (L : List Ent) (i j : Int) (B : Option Addr) (m d : Nat) (Es : List Ent) (k : Int) (hn : L.length = n) (hm : Es.length = m) (hnm : n ≤ 140737488351232) (hmm : m ≤ 140737488351232)
    (hsl : ∀ s ∈ L, s.2.2.size ≤ 140737488351232) (hse : ∀ s ∈ Es, s.2.2.size ≤ 140737488351232) (hr : Rds w A (entsC L)) (hs : Rds w B (entsC Es)) (u : Bool) (hu : ok23 b t L Es = u) :
    Calls Try.prog 15 #[.agg #[.int .i64 b, .int .i64 t, .slice A n c, .int .i64 i, .int .i64 j, .slice B m d, .int .i64 k]] w fun e w' => e = .returned (.bool u) ∧ Below w.heap.size w w' := by
  have hb0 : Below w.heap.size w (w.alloc (.cells #[.int .i64 b, .int .i64 t, .slice A n c, .int .i64 i, .int .i64 j, .slice B m d, .int .i64 k] 28)) := (Below.refl _ _).alloc (Nat.le_refl _) _
  have HR := Lib.hid (hr.ext hb0 (Nat.le_refl _))
  have HS := Lib.hid (hs.ext hb0 (Nat.le_refl _))
  have HSL := Lib.hid hsl
  have HSE := Lib.hid hse
  have HN := Lib.hid hn
  have HM := Lib.hid hm
  have HU := Lib.hid hu
  have hk0 : (w.alloc (.cells #[.int .i64 b, .int .i64 t, .slice A n c, .int .i64 i, .int .i64 j, .slice B m d, .int .i64 k] 28)).cell? ⟨w.heap.size, 0, none⟩ = some (.int .i64 b) := by rw [cell_of_row _ _ _ _ _ _ (heap_alloc_new _ _)]; rfl
  have hk1 : (w.alloc (.cells #[.int .i64 b, .int .i64 t, .slice A n c, .int .i64 i, .int .i64 j, .slice B m d, .int .i64 k] 28)).cell? ⟨w.heap.size, 1, none⟩ = some (.int .i64 t) := by rw [cell_of_row _ _ _ _ _ _ (heap_alloc_new _ _)]; rfl
  have hk2 : (w.alloc (.cells #[.int .i64 b, .int .i64 t, .slice A n c, .int .i64 i, .int .i64 j, .slice B m d, .int .i64 k] 28)).cell? ⟨w.heap.size, 2, none⟩ = some (.slice A n c) := by rw [cell_of_row _ _ _ _ _ _ (heap_alloc_new _ _)]; rfl
  have HX0 := Lib.hid hb0
  have HK0 := Lib.hid hk0
  have HK1 := Lib.hid hk1
  have HK2 := Lib.hid hk2
  clear hr hs hsl hse hn hm hu hb0 hk0 hk1 hk2
  go_enter Try.func15, Try.ntmps15
  go_wp2_with fail
  generalize w.alloc (.cells #[.int .i64 b, .int .i64 t, .slice A n c, .int .i64 i, .int .i64 j, .slice B m d, .int .i64 k] 28) = w0 at *
  generalize hh : heavy23 L Es = h at *
  have HH := Lib.hid hh
  refine (heavy23_any w0 b t A n c L i j B m d Es k HN.out HM.out hnm hmm HSL.out HSE.out HR.out HS.out h HH.out).mono ?_
  rintro e w1 ⟨rfl, hb1⟩
  have HF1 : Hid (Below w.heap.size w w1) := HX0.out.trans (hb1.mono HX0.out.size)
  have hk0 := cell_ext hb1 (Nat.le_refl _) HK0.out
  have hk1 := cell_ext hb1 (Nat.le_refl _) HK1.out
  have hk2 := cell_ext hb1 (Nat.le_refl _) HK2.out
  have HR1 := Lib.hid (HR.out.ext hb1 (Nat.le_refl _))
  clear hb1 hh
  unfold ok23 at HU
  rw [HH.out, HN.out] at HU
  cases h
  · by_cases h3 : n < 200
    · have h3i : (n : Int) < 200 := by omega
      generalize hd : decide (mayL b t L) = dd at *
      have HD := Lib.hid hd
      have HE : Hid (u = dd) := by show _ = _; rw [← HU.out, decide_eq_true h3]; simp
      clear HU hd
      go_wp2_with fail
      refine (rMay_any w1 b t A n c L HN.out (by omega) HR1.out dd HD.out).mono ?_
      rintro e w2 ⟨rfl, hb2⟩
      have HF2 := Lib.hid (HF1.out.trans (hb2.mono HF1.out.size))
      go_wp2
      go_ret
      exact ⟨by rw [HE.out]; rfl, HF2.out⟩
    · have h3i : ¬ (n : Int) < 200 := by omega
      have HE : Hid (u = false) := by show _ = _; rw [← HU.out, decide_eq_false h3]; rfl
      clear HU
      go_wp2
      go_ret
      exact ⟨by rw [HE.out]; rfl, HF1.out⟩
  · have HE : Hid (u = false) := by show _ = _; rw [← HU.out]; rfl
    clear HU
    go_wp2
    go_ret
    exact ⟨by rw [HE.out]; rfl, HF1.out⟩
end Go.Proofs.Ytpdnkhdnenibgaa
