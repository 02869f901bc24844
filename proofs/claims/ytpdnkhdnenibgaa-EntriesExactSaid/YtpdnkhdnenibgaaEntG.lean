/- The walk of EqLog. -/
import Derived.Test.YtpdnkhdnenibgaaEntQ
set_option linter.unusedVariables false
set_option linter.unusedSimpArgs false
namespace Go.Proofs.Ytpdnkhdnenibgaa
open Go.RowKit Lec

set_option maxRecDepth 100000 in
theorem EqLog_any (w : World) (b t : Int) (A : Option Addr) (n c : Nat) (xs : List Ent) (hn : xs.length = n) (hr : Rds w A (entsC xs)) (b' t' : Int) (B : Option Addr) (m d : Nat) (ys : List Ent) (hm : ys.length = m) (hs : Rds w B (entsC ys)) (hlim : n ≤ 9223372036854775807)
    (u : Bool) (hu : decide (b = b' ∧ t = t' ∧ xs = ys) = u) :
    Calls Try.prog 19 #[.agg #[.int .i64 b, .int .i64 t, .slice A n c], .agg #[.int .i64 b', .int .i64 t', .slice B m d]] w fun e w' => e = .returned (.bool u) ∧ Below w.heap.size w w' := by
  have hb0 : Below w.heap.size w ((w.alloc (.cells #[.int .i64 b, .int .i64 t, .slice A n c] 26)).alloc (.cells #[.int .i64 b', .int .i64 t', .slice B m d] 26)) := ((Below.refl _ _).alloc (Nat.le_refl _) _).alloc (by simp) _
  have HR := Lib.hid (hr.ext hb0 (Nat.le_refl _))
  have HS := Lib.hid (hs.ext hb0 (Nat.le_refl _))
  have HU := Lib.hid hu
  clear hr hs hu
  go_enter Try.func19, Try.ntmps19
  by_cases h1 : b = b'
  · subst h1
    by_cases h2 : t = t'
    · subst h2
      generalize hd : decide (xs = ys) = dd
      have HD := Lib.hid hd
      have HE : Hid (u = dd) := by show _ = _; rw [← HU.out, ← hd]; simp
      clear HU hd
      have hbb : (b == b) = true := by simp
      have htt : (t == t) = true := by simp
      go_wp2_with fail
      refine (EqEntries_any _ A n c xs hn HR.out B m d ys hm HS.out hlim).mono ?_
      rintro e w1 ⟨rfl, q, rfl⟩
      rw [HD.out]
      go_wp2
      all_goals
        go_ret
        exact ⟨by rw [HE.out]; rfl, hb0.trans ((drawn_below _ q).mono hb0.size)⟩
    · have htt : (t == t') = false := by rw [beq_eq_false_iff_ne]; exact h2
      have hbb : (b == b) = true := by simp
      have HE : Hid (u = false) := by show _ = _; rw [← HU.out]; exact decide_eq_false (fun h => h2 h.2.1)
      clear HU h2
      go_wp2
      go_ret
      exact ⟨by rw [HE.out]; rfl, hb0⟩
  · have hbb : (b == b') = false := by rw [beq_eq_false_iff_ne]; exact h1
    have HE : Hid (u = false) := by show _ = _; rw [← HU.out]; exact decide_eq_false (fun h => h1 h.1)
    clear HU h1
    go_wp2
    go_ret
    exact ⟨by rw [HE.out]; rfl, hb0⟩
end Go.Proofs.Ytpdnkhdnenibgaa
