/- The argument of the laws on wire: a number, texts, bytes; whether it is played. -/
import Derived.Test.YthibhndeejichaaRead
import Derived.Test.YthibhndeejichaaTextW
set_option linter.unusedVariables false
set_option linter.unusedSimpArgs false
namespace Go.Proofs.Ythibhndeejichaa
open Go.RowKit Lec

abbrev Ask10 : Rep (Int × List ByteArray × List UInt8) := Rep.pair (Rep.int .i64) (Rep.pair (Rep.slice Rep.str 16) (Rep.slice Rep.u8 1))

theorem ask10_of : Ask10.Of Try.prog 40 :=
  Rep.struct_of Try.underlying40 (by kernel_rfl) (FieldsOf.cons rfl (by kernel_rfl) (Rep.int_of Try.underlying3) (FieldsOf.cons rfl (by kernel_rfl) (Rep.slice_of Try.underlying38 (by kernel_rfl) (by kernel_rfl) (Rep.str_of Try.underlying9)) (FieldsOf.one rfl (by kernel_rfl) (Rep.slice_of Try.underlying24 (by kernel_rfl) (by kernel_rfl) (Rep.u8_of Try.underlying5)))))
theorem asks10_of : (Rep.slice Ask10 56).Of Try.prog 36 := Rep.slice_of Try.underlying36 (by kernel_rfl) (by kernel_rfl) ask10_of

theorem ask10_at {w : World} {A : Option Addr} {xs : List (Int × List ByteArray × List UInt8)} (h : Row Ask10 w A xs) (i : Nat) (hi : i < xs.length) :
    ∃ a B b C c, A = some a ∧ w.cell? (a.add (i * 3)) = some (.int .i64 xs[i].1) ∧ (-9223372036854775808 ≤ xs[i].1 ∧ xs[i].1 ≤ 9223372036854775807) ∧
      w.cell? ⟨(a.add (i * 3)).block, (a.add (i * 3)).off + 1, none⟩ = some (.slice B xs[i].2.1.length b) ∧
      w.cell? ⟨(a.add (i * 3)).block, (a.add (i * 3)).off + 2, none⟩ = some (.slice C xs[i].2.2.length c) ∧
      xs[i].2.1.length ≤ b ∧ b ≤ 8796093021952 ∧ (B = none → xs[i].2.1.length = 0 ∧ b = 0) ∧ Rds w B (xs[i].2.1.map Value.string) ∧ (∀ s ∈ xs[i].2.1, s.size ≤ 140737488351232) ∧
      xs[i].2.2.length ≤ c ∧ c ≤ 140737488351232 ∧ (C = none → xs[i].2.2.length = 0 ∧ c = 0) ∧ Rds w C (bytesV xs[i].2.2) := by
  obtain ⟨a, cs, e, hl, hc, c1, c2, rfl, _, ⟨rfl, hw⟩, d1, d2, rfl, _, ⟨B, b, rfl, p1, p2, p3, p4, p5⟩, ⟨C, c, rfl, q1, q2, q3, q4, q5⟩⟩ := h i hi
  refine ⟨a, B, b, C, c, e, by have := hc 0 _ rfl; rwa [show i * Ask10.n + 0 = i * 3 from rfl] at this, ?_, ?_, ?_, p1, ?_, p3, p5.rds, p5.all, q1, by simpa [reachBytes] using q4, q3, q5.rds⟩
  · simp [Lit.wf, IntKind.min, IntKind.max, IntKind.bits, IntKind.signed] at hw; omega
  · have := hc 1 _ rfl
    rwa [show i * Ask10.n + 1 = i * 3 + 1 from rfl, add_fld _ _ _ (by omega)] at this
  · have := hc 2 _ rfl
    rwa [show i * Ask10.n + 2 = i * 3 + 2 from rfl, add_fld _ _ _ (by omega)] at this
  · simp only [reachBytes] at p4; omega

/-- Is a question not played? -/
def heavy10 (L : List ByteArray) (B : List UInt8) : Bool := decide (8000 < twOf L.length L) || decide (8000 < B.length)
theorem heavy10_light {L : List ByteArray} {B : List UInt8} (h : heavy10 L B = false) : L.length + textsLen L ≤ 8000 ∧ B.length ≤ 8000 := by
  unfold heavy10 at h
  simp only [Bool.or_eq_false_iff, decide_eq_false_iff_not] at h
  have := twOf_light L L.length (by omega)
  omega

theorem num10 (w : World) (e : Int) : Calls Try.prog 23 #[.int .i64 e] w fun r w' => r = .returned (.int .i64 e) ∧ w = w' := by
  go_enter Try.func23, Try.ntmps23
  go_wp2
  go_ret
  exact ⟨rfl, rfl⟩

theorem heavy10_any (w : World) (N : Int) (A : Option Addr) (n c : Nat) (L : List ByteArray) (hn : L.length = n) (hm : n ≤ 140737488351232) (hs : ∀ s ∈ L, s.size ≤ 140737488351232) (hr : Rds w A (L.map Value.string))
    (B : Option Addr) (m d : Nat) (bs : List UInt8) (hbn : bs.length = m) :
    Calls Try.prog 21 #[.agg #[.int .i64 N, .slice A n c, .slice B m d]] w fun e w' => e = .returned (.bool (heavy10 L bs)) ∧ Below w.heap.size w w' := by
  have HR : Hid (∀ v, Rds (w.alloc v) A (L.map Value.string)) := fun v => hr.ext ((Below.refl _ _).alloc (Nat.le_refl _) _) (Nat.le_refl _)
  have HN := Lib.hid hn
  have HB := Lib.hid hbn
  have HS := Lib.hid hs
  by_cases h1 : 8000 < twOf n L
  · have h1i : (8000 : Int) < (twOf n L : Int) := by omega
    have HE : Hid (heavy10 L bs = true) := by show _ = _; unfold heavy10; rw [hn, decide_eq_true h1]; rfl
    clear h1 hn hbn hs hr
    go_enter Try.func21, Try.ntmps21
    go_wp2_with (go_at_call 48; refine (TextWeight_any _ A n c L HN.out hm HS.out (HR.out _)).mono ?_; rintro e w' ⟨rfl, rfl⟩)
    go_ret
    exact ⟨by rw [HE.out]; rfl, (Below.refl _ _).alloc (Nat.le_refl _) _⟩
  · have h1i : ¬ (8000 : Int) < (twOf n L : Int) := by omega
    by_cases h2 : 8000 < m
    · have h2i : (8000 : Int) < (m : Int) := by omega
      have HE : Hid (heavy10 L bs = true) := by show _ = _; unfold heavy10; rw [hbn, decide_eq_true h2]; simp
      clear h1 h2 hn hbn hs hr
      go_enter Try.func21, Try.ntmps21
      go_wp2_with (go_at_call 48; refine (TextWeight_any _ A n c L HN.out hm HS.out (HR.out _)).mono ?_; rintro e w' ⟨rfl, rfl⟩)
      go_ret
      exact ⟨by rw [HE.out]; rfl, (Below.refl _ _).alloc (Nat.le_refl _) _⟩
    · have h2i : ¬ (8000 : Int) < (m : Int) := by omega
      have HE : Hid ((decide ((8000 : Int) < (twOf n L : Int)) || decide ((8000 : Int) < (m : Int))) = heavy10 L bs) := by show _ = _; unfold heavy10; rw [hbn, hn, decide_eq_false h1i, decide_eq_false h2i, decide_eq_false h1, decide_eq_false h2]
      clear h1 h2 hn hbn hs hr
      go_enter Try.func21, Try.ntmps21
      go_wp2_with (go_at_call 48; refine (TextWeight_any _ A n c L HN.out hm HS.out (HR.out _)).mono ?_; rintro e w' ⟨rfl, rfl⟩)
      go_ret
      exact ⟨congrArg (fun b => Ending.returned (.bool b)) HE.out, (Below.refl _ _).alloc (Nat.le_refl _) _⟩
end Go.Proofs.Ythibhndeejichaa
