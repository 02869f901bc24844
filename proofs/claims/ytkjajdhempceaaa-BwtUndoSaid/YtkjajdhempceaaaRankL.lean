/- The walk of lecternref3.Rank; how often a symbol stands in a last column. -/
import Derived.Test.YtkjajdhempceaaaBwtB
set_option linter.unusedVariables false
set_option linter.unusedSimpArgs false
namespace Lec.Sa
theorem cnt_perm {n : Nat} {f : Nat → Nat} (hf : ∀ i, i < n → f i < n) (hi : ∀ i j, i < n → j < n → f i = f j → i = j) (p : Nat → Bool) : cnt n (fun i => p (f i)) = cnt n p := by
  have half : ∀ p : Nat → Bool, cnt n (fun i => p (f i)) ≤ cnt n p := fun p => by
    have hn : (((List.range n).filter (fun i => p (f i))).map f).Nodup := by
      rw [List.nodup_iff_pairwise_ne, List.pairwise_map]
      refine List.Pairwise.imp_of_mem ?_ (List.nodup_iff_pairwise_ne.1 (List.nodup_range.filter _))
      intro a b ha hb hab e
      exact hab (hi a b (List.mem_range.1 (List.mem_filter.1 ha).1) (List.mem_range.1 (List.mem_filter.1 hb).1) e)
    have := cnt_room (n := n) (p := p) hn (fun x hx => by
      obtain ⟨i, h, rfl⟩ := List.mem_map.1 hx
      rw [List.mem_filter, List.mem_range] at h
      exact ⟨hf i h.1, h.2⟩)
    rwa [List.length_map] at this
  have h1 := half p
  have h2 := half (fun i => !p i)
  have e1 := cnt_add n (fun i => p (f i)) (fun i => !p (f i)) (fun _ => true) (fun i _ => by cases p (f i) <;> rfl)
  have e2 := cnt_add n p (fun i => !p i) (fun _ => true) (fun i _ => by cases p i <;> rfl)
  rw [cnt_all _ _ (fun _ _ => rfl)] at e1 e2
  omega
/-- A last column has each symbol as often as the list. -/
theorem IsSA.often {s b : List Nat} (h : IsSA s b) (c : Nat) : cnt s.length (fun j => sy (outL s (rowsL s b)) j == c) = cnt s.length (fun j => sy s j == c) := by
  obtain ⟨h1, h2, h3, h4⟩ := h.walk
  generalize outL s (rowsL s b) = L at *
  generalize atK (rowsL s b) (s.length + 1) = t at *
  have ht : t ≤ L.length := by omega
  have hs : ∀ i, i < s.length → sy s i = sy L (dn t (wk L t (L.length - 1 - i))) := fun i hi => by
    have := outW_sy L t i (by omega)
    rw [h4] at this; exact this
  rw [cnt_congr s.length (fun j => sy s j == c) (fun j => sy L (dn t (wk L t (L.length - 1 - j))) == c) (fun i hi => by show (sy s i == c) = _; rw [hs i hi])]
  refine (cnt_perm (f := fun j => dn t (wk L t (L.length - 1 - j))) (fun i hi => ?_) (fun i j hi hj e => ?_) (fun j => sy L j == c)).symm
  · have := dn_lt (h3.1 (L.length - 1 - i) (by omega)) (wk_le ht h3.1 _ (by omega)) ht
    show dn t _ < _
    omega
  · have n1 := h3.1 (L.length - 1 - i) (by omega)
    have n2 := h3.1 (L.length - 1 - j) (by omega)
    have e : dn t (wk L t (L.length - 1 - i)) = dn t (wk L t (L.length - 1 - j)) := e
    have e2 : wk L t (L.length - 1 - i) = wk L t (L.length - 1 - j) := by rw [← up_dn n1, ← up_dn n2, e]
    have := wk_inj ht h3 (by omega) (by omega) e2
    omega
/-- Only one row has the end. -/
theorem IsSA.only {s b : List Nat} (h : IsSA s b) {k : Nat} (hk : k ≤ s.length) (ho : OkW (outL s (rowsL s b)) k) (he : outW (outL s (rowsL s b)) k = s) : k = atK (rowsL s b) (s.length + 1) := by
  obtain ⟨h1, h2, h3, h4⟩ := h.walk
  generalize hL : outL s (rowsL s b) = L at *
  obtain ⟨b2, q1, q2, q3⟩ := ho.make (by omega)
  rw [he] at q1 q2 q3
  obtain rfl := q1.eq h
  rw [← q3, h1]
end Lec.Sa
namespace Go.Proofs.Ytkjajdhempceaaa
open Go.RowKit Lec
theorem Rank_any (w : World) (A : Option Addr) (c : Nat) (s : List Nat) (hm : s.length ≤ 131072) (hr : Rds w A (natsC s)) (v i : Nat) (hi : i ≤ s.length) :
    Calls Try.prog 29 #[.slice A s.length c, .int .i64 (v : Int), .int .i64 (i : Int)] w fun e w' => e = .returned (.int .i64 (Sa.cnt i (fun j => Sa.sy s j == v) : Int)) ∧ w = w' := by
  have HR := Lib.hid hr
  clear hr
  go_enter Try.func29, Try.ntmps29
  go_wp2
  go_loop [7, 8] (fun n j => ∃ k : Nat, j = .int .i64 (k : Int) ∧ k ≤ i ∧ n = .int .i64 (Sa.cnt k (fun j => Sa.sy s j == v) : Int)) (fun _ j => i - (intOf j).toNat)
  case atStart => exact ⟨0, rfl, by omega, rfl⟩
  case round =>
    obtain ⟨k, rfl, hk, rfl⟩ := hrel
    have hcl := Sa.cnt_le k (fun j => Sa.sy s j == v)
    by_cases h8 : k < i
    · have h8i : (k : Int) < (i : Int) := by omega
      have h9i : (k : Int) < (s.length : Int) := by omega
      have k0 : (0 : Int) ≤ (k : Int) := by omega
      obtain ⟨ab, rfl, cb⟩ := HR.out k _ (natsC_at (sy_get (show k < s.length by omega)))
      have HC := Lib.hid (Sa.cnt_succ k (fun j => Sa.sy s j == v))
      by_cases e : Sa.sy s k = v
      · have ei : ((Sa.sy s k : Int) == (v : Int)) = true := by rw [beq_iff_eq]; omega
        have HC2 : Hid (Sa.cnt (k + 1) (fun j => Sa.sy s j == v) = Sa.cnt k (fun j => Sa.sy s j == v) + 1) := Lib.hid (by rw [HC.out]; simp [e])
        clear e
        generalize Sa.cnt k (fun j => Sa.sy s j == v) = y at *
        go_wp2
        go_round
        case rel => exact ⟨k + 1, by go_num, by omega, by rw [HC2.out]; go_num⟩
        case measure => first | (simp [intOf]; done) | (simp [intOf]; omega)
      · have ei : ((Sa.sy s k : Int) == (v : Int)) = false := by rw [beq_eq_false_iff_ne]; omega
        have HC2 : Hid (Sa.cnt (k + 1) (fun j => Sa.sy s j == v) = Sa.cnt k (fun j => Sa.sy s j == v)) := Lib.hid (by rw [HC.out]; simp [e])
        clear e
        generalize Sa.cnt k (fun j => Sa.sy s j == v) = y at *
        go_wp2
        go_round
        case rel => exact ⟨k + 1, by go_num, by omega, by rw [HC2.out]⟩
        case measure => first | (simp [intOf]; done) | (simp [intOf]; omega)
    · obtain rfl : k = i := by omega
      have h8i : ¬ (k : Int) < (k : Int) := by omega
      go_wp2
      go_ret
      exact ⟨rfl, rfl⟩
end Go.Proofs.Ytkjajdhempceaaa
