/- A vector of bits in memory; the walks of its methods. -/
import Derived.Test.YtfiioobdknbacaaOnesW
import Derived.Test.YtfiioobdknbacaaVecL
import Derived.Test.YtfiioobdknbacaaQuiet
set_option linter.unusedVariables false
set_option linter.unusedSimpArgs false
namespace Lec
open Go Go.RowKit
abbrev longsV (xs : List Nat) : List Value := xs.map fun (x : Nat) => Value.int .u64 (x : Int)
abbrev natsV (xs : List Nat) : List Value := xs.map fun (x : Nat) => Value.int .i64 (x : Int)
/-- A vector that is only read. -/
structure Vec (w : World) (p : Nat) (bs : List Bool) : Prop where
  out : ∃ A c B d, w.cell? ⟨p, 0, none⟩ = some (.slice A (nW bs.length) c) ∧ w.cell? ⟨p, 1, none⟩ = some (.int .i64 (bs.length : Int)) ∧ w.cell? ⟨p, 2, none⟩ = some (.slice B (nW bs.length + 1) d) ∧
    Rds w A (longsV (wordsL bs)) ∧ Rds w B (natsV (onesL bs (nW bs.length + 1)))
theorem Vec.ext {w w' : World} {p : Nat} {bs : List Bool} {D : Nat} (h : Vec w p bs) (hb : Below D w w') (hD : w.heap.size ≤ D) : Vec w' p bs := by
  obtain ⟨A, c, B, d, h1, h2, h3, h4, h5⟩ := h.out
  exact ⟨A, c, B, d, cell_ext hb hD h1, cell_ext hb hD h2, cell_ext hb hD h3, h4.ext hb hD, h5.ext hb hD⟩
theorem Vec.drew {w : World} {p : Nat} {bs : List Bool} (h : Vec w p bs) (n : Nat) : Vec (w.drewN n) p bs := ⟨h.out⟩
/-- A vector all of whose blocks lie from lo on. -/
structure VecN (w : World) (p : Nat) (bs : List Bool) (lo : Nat) : Prop where
  out : ∃ A c B d, w.cell? ⟨p, 0, none⟩ = some (.slice A (nW bs.length) c) ∧ w.cell? ⟨p, 1, none⟩ = some (.int .i64 (bs.length : Int)) ∧ w.cell? ⟨p, 2, none⟩ = some (.slice B (nW bs.length + 1) d) ∧
    Rds w A (longsV (wordsL bs)) ∧ Rds w B (natsV (onesL bs (nW bs.length + 1))) ∧ lo ≤ p ∧ (∀ a, A = some a → lo ≤ a.block) ∧ (∀ a, B = some a → lo ≤ a.block)
theorem VecN.vec {w : World} {p lo : Nat} {bs : List Bool} (h : VecN w p bs lo) : Vec w p bs := by
  obtain ⟨A, c, B, d, h1, h2, h3, h4, h5, _⟩ := h.out
  exact ⟨A, c, B, d, h1, h2, h3, h4, h5⟩
theorem rds_grown {w w' : World} {row : Option Nat} {A : Option Addr} {vs : List Value} (h : Rds w A vs) (hg : w.grownBy w' row) (hne : ∀ a, A = some a → some a.block ≠ row) : Rds w' A vs := fun i u hu => by
  obtain ⟨a, e, hc⟩ := h i u hu
  exact ⟨a, e, hg.cell hc (by rw [add_block]; exact hne a e)⟩
theorem VecN.grown {w w' : World} {p lo : Nat} {bs : List Bool} {row : Option Nat} (h : VecN w p bs lo) (hg : w.grownBy w' row) (hr : ∀ k, row = some k → k < lo) : VecN w' p bs lo := by
  obtain ⟨A, c, B, d, h1, h2, h3, h4, h5, h6, h7, h8⟩ := h.out
  have hp : ∀ o, some (⟨p, o, none⟩ : Addr).block ≠ row := fun o e => by have : p < lo := hr _ e.symm; omega
  exact ⟨A, c, B, d, hg.cell h1 (hp 0), hg.cell h2 (hp 1), hg.cell h3 (hp 2), rds_grown h4 hg (fun a ha e => by have := hr _ e.symm; have := h7 a ha; omega), rds_grown h5 hg (fun a ha e => by have := hr _ e.symm; have := h8 a ha; omega), h6, h7, h8⟩
theorem VecN.ext {w w' : World} {p lo : Nat} {bs : List Bool} {D : Nat} (h : VecN w p bs lo) (hb : Below D w w') (hD : w.heap.size ≤ D) : VecN w' p bs lo := by
  obtain ⟨A, c, B, d, h1, h2, h3, h4, h5, h6⟩ := h.out
  exact ⟨A, c, B, d, cell_ext hb hD h1, cell_ext hb hD h2, cell_ext hb hD h3, h4.ext hb hD, h5.ext hb hD, h6⟩
theorem bit_test (x r : Nat) (b : Bool) (hx : x < 18446744073709551616) (h : x / 2 ^ r % 2 = b.toNat) : (bits .and .u64 ((x : Int) / 2 ^ r) 1 == 1) = b := by
  have e : (x : Int) / 2 ^ r = ((x / 2 ^ r : Nat) : Int) := by simp
  have := andw (x / 2 ^ r) 1 (Nat.lt_of_le_of_lt (Nat.div_le_self _ _) hx) (by decide)
  rw [e, show (1 : Int) = ((1 : Nat) : Int) from rfl, this, and_1, h]
  cases b <;> rfl
theorem mask_mod (x r : Nat) (hx : x < 18446744073709551616) (hr : r < 64) : bits .and .u64 (x : Int) (IntKind.u64.wrap (IntKind.u64.wrap (2 ^ r) - 1)) = ((x % 2 ^ r : Nat) : Int) := by
  have hp : 2 ^ r < 18446744073709551616 := Nat.lt_of_lt_of_le (Nat.pow_lt_pow_right (by decide) hr) (by decide)
  have h0 := Nat.two_pow_pos r
  have e1 : IntKind.u64.wrap ((2 : Int) ^ r) = ((2 ^ r : Nat) : Int) := by
    rw [show ((2 : Int) ^ r) = ((2 ^ r : Nat) : Int) by simp]; exact u64w _ hp
  have e2 : (((2 ^ r : Nat) : Int) - 1) = ((2 ^ r - 1 : Nat) : Int) := by omega
  rw [e1, e2, u64w _ (by omega), andw _ _ hx (by omega), Nat.and_two_pow_sub_one_eq_mod]
theorem Calls.q_same {P : Program} {f : FuncId} {args : Array Value} {w : World} {n : Nat} {v : Value} (h : Calls P f args (w.drewN n) fun e w' => e = .returned v ∧ w.drewN n = w') :
    Calls P f args (w.drewN n) fun e w'' => e = .returned v ∧ ∃ m, w'' = w.drewN m := h.mono fun _ _ ⟨he, hm⟩ => ⟨he, n, hm.symm⟩
theorem Calls.q_drawn {P : Program} {f : FuncId} {args : Array Value} {w : World} {n : Nat} {v : Value} (h : Calls P f args (w.drewN n) fun e w' => e = .returned v ∧ ∃ q, (w.drewN n).drewN q = w') :
    Calls P f args (w.drewN n) fun e w'' => e = .returned v ∧ ∃ m, w'' = w.drewN m := h.mono fun _ _ ⟨he, q, hm⟩ => ⟨he, n + q, by rw [← hm, World.drewN_drewN]⟩
theorem pad_64 (l : List Bool) (h : l.length ≤ 64) : (l ++ List.replicate (64 - l.length) false).length = 64 := by simp; omega
theorem wrap_id {n : Int} (h : -9223372036854775808 ≤ n ∧ n ≤ 9223372036854775807) : IntKind.i64.wrap n = n := by
  rw [IntWalk.i64_left]; exact IntWalk.wrap64_in n h
end Lec
namespace Go.Proofs.Ytfiioobdknbacaa
open Go.RowKit Lec

set_option maxRecDepth 100000 in
theorem at_any (w : World) (p : Nat) (bs : List Bool) (hv : Vec w p bs) (hm : bs.length ≤ 1048576) (i : Nat) (hi : i < bs.length) :
    Calls Try.prog 100 #[.pointer (some ⟨p, 0, none⟩), .int .i64 (i : Int)] w fun e w' => e = .returned (.bool bs[i]) ∧ w = w' := by
  obtain ⟨A, c, B, d, h1, h2, h3, h4, h5⟩ := hv.out
  have hq : i / 64 < (wordsL bs).length := by rw [wordsL_len]; unfold nW; omega
  obtain ⟨a, rfl, hc⟩ := h4.map (i / 64) hq
  rw [wordsL_at] at hc
  have hbit := ofB_bit (chunk bs (i / 64)) (i % 64)
  rw [chunk_bit bs i hi] at hbit
  have hlt := chunk_lt bs (i / 64)
  have hqn : i / 64 < nW bs.length := by rwa [wordsL_len] at hq
  generalize bs[i] = b at *
  generalize ofB (chunk bs (i / 64)) = x at *
  generalize hN : nW bs.length = N at *
  clear h2 h3 h4 h5 hq
  have hqi : (i : Int) / 64 = ((i / 64 : Nat) : Int) := by simp
  have hri : (i : Int) % 64 = ((i % 64 : Nat) : Int) := by simp
  have hqn2 : ((i / 64 : Nat) : Int) < (N : Int) := by omega
  have HQ := Lib.hid hqi
  have HR := Lib.hid hri
  have HB := Lib.hid hbit
  clear hqi hri hbit
  go_enter Try.func100, Try.ntmps100
  go_wp2
  go_ret
  refine ⟨?_, rfl⟩
  show Ending.returned (Value.bool _) = _
  rw [bit_test x (i % 64) b hlt HB.out]

set_option maxRecDepth 100000 in
theorem rank_any (w : World) (p : Nat) (bs : List Bool) (hv : Vec w p bs) (hm : bs.length ≤ 1048576) (i : Nat) (hi : i ≤ bs.length) :
    Calls Try.prog 110 #[.pointer (some ⟨p, 0, none⟩), .int .i64 (i : Int)] w fun e w' => e = .returned (.int .i64 (rankB bs i : Int)) ∧ ∃ q, w.drewN q = w' := by
  obtain ⟨A, c, B, d, h1, h2, h3, h4, h5⟩ := hv.out
  have hq : i / 64 < (onesL bs (nW bs.length + 1)).length := by rw [onesL_len]; unfold nW; omega
  obtain ⟨b, rfl, hc⟩ := h5.map (i / 64) hq
  rw [onesL_at] at hc
  have hqi : ((i / 64 : Nat) : Int) < ((nW bs.length + 1 : Nat) : Int) := by unfold nW; omega
  have hsp := rank_split bs (i / 64) (i % 64) (by omega)
  rw [show 64 * (i / 64) + i % 64 = i by omega] at hsp
  have hle := rank_le bs (64 * (i / 64))
  generalize rankB bs (64 * (i / 64)) = r0 at *
  by_cases h0 : i % 64 = 0
  · rw [h0] at hsp
    simp at hsp
    have HS := Lib.hid hsp
    have h0i : ¬ 0 < (i : Int) % 64 := by omega
    clear hsp h0 h4 h5 hq hv
    generalize hN : nW bs.length + 1 = N at *
    clear h2 h1 hN
    go_enter Try.func110, Try.ntmps110
    go_wp2
    go_ret
    exact ⟨by rw [HS.out]; rfl, 0, rfl⟩
  · have hq2 : i / 64 < (wordsL bs).length := by rw [wordsL_len]; unfold nW; omega
    obtain ⟨a, rfl, hc2⟩ := h4.map (i / 64) hq2
    rw [wordsL_at] at hc2
    have hqi2 : ((i / 64 : Nat) : Int) < ((nW bs.length : Nat) : Int) := by unfold nW; omega
    have hlt := chunk_lt bs (i / 64)
    have hmod := ofB_mod (chunk bs (i / 64)) (i % 64)
    generalize ofB (chunk bs (i / 64)) = x at *
    generalize hN : nW bs.length = N at *
    have h0i : 0 < (i : Int) % 64 := by omega
    have hw1 : IntKind.i64.wrap ((i : Int) / 64) = (i : Int) / 64 := wrap_id (by omega)
    have hw2 : IntKind.i64.wrap ((i : Int) % 64) = (i : Int) % 64 := wrap_id (by omega)
    have hz1 : (0 : Int) ≤ (i : Int) / 64 := by omega
    have hz2 : (0 : Int) ≤ (i : Int) % 64 := by omega
    have hz3 : (i : Int) / 64 < (N : Int) := by omega
    have ht1 : ((i : Int) / 64).toNat = i / 64 := by omega
    have htm : (i : Int).tmod 64 = (i : Int) % 64 := Int.tmod_eq_emod_of_nonneg (by omega)
    have ht2 : ((i : Int) % 64).toNat = i % 64 := by omega
    have hmk := mask_mod x (i % 64) hlt (by omega)
    have HL : Hid (((chunk bs (i / 64)).take (i % 64) ++ List.replicate (64 - ((chunk bs (i / 64)).take (i % 64)).length) false).length = 64) := pad_64 _ (by rw [List.length_take]; omega)
    have HV : Hid (ofB ((chunk bs (i / 64)).take (i % 64) ++ List.replicate (64 - ((chunk bs (i / 64)).take (i % 64)).length) false) = x % 2 ^ (i % 64)) := by show _ = _; rw [ofB_pad, ← hmod]
    have HCT : Hid (((chunk bs (i / 64)).take (i % 64) ++ List.replicate (64 - ((chunk bs (i / 64)).take (i % 64)).length) false).count true = ((chunk bs (i / 64)).take (i % 64)).count true) := count_pad _ _
    have hcl : ((chunk bs (i / 64)).take (i % 64)).count true ≤ 64 := Nat.le_trans List.count_le_length (by rw [List.length_take]; omega)
    have HON : Hid (∀ w', Calls Try.prog 98 #[.int .u64 ((x % 2 ^ (i % 64) : Nat) : Int)] w' fun e w'' => e = .returned (.int .i64 ((((chunk bs (i / 64)).take (i % 64)).count true : Nat) : Int)) ∧ w' = w'') := fun w' => by
      have h := ones_any w' _ HL.out _ HV.out
      rwa [HCT.out] at h
    clear HL HV HCT
    generalize ((chunk bs (i / 64)).take (i % 64)).count true = k at *
    generalize x % 2 ^ (i % 64) = y at *
    have hwk : IntKind.i64.wrap ((r0 : Int) + (k : Int)) = (r0 : Int) + (k : Int) := wrap_id (by omega)
    have HS := Lib.hid hsp
    clear hsp h0 h4 h5 hq hv hmod hq2 h2 hN
    go_enter Try.func110, Try.ntmps110
    go_wp2
    go_quiet ((go_at_call 98; first | exact Calls.q_same (HON.out _) | exact Calls.quiet_of (HON.out _)))
    go_wp2
    go_ret
    exact ⟨by rw [HS.out]; rfl, _, rfl⟩
end Go.Proofs.Ytfiioobdknbacaa
