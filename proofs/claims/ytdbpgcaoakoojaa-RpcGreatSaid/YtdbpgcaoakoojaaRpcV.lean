/- A small message: it wakes. -/
import Derived.Test.YtdbpgcaoakoojaaRpcD
import Derived.Test.YtdbpgcaoakoojaaRpcH
set_option linter.unusedVariables false
set_option linter.unusedSimpArgs false
namespace Lec
open Go Go.RowKit
def rpcX : Rpc := ⟨2, 1, 2, 3, 0, 0, 0, 0, true, [], 0, ⟨#[]⟩, false⟩
theorem rpcX_may : mayR rpcX = true := by decide +kernel
theorem rpcX_lay : ∃ b, layR rpcX = some b ∧ b.length ≤ 1000 ∧ decR b = some rpcX := by
  have h := (putB_light (ss := textsR rpcX) (by decide +kernel)).1
  have h1 : textsLen (textsR rpcX) = 11 := by decide +kernel
  have h2 : (textsR rpcX).length = 12 := rfl
  rw [h1, h2] at h
  have hl : layR rpcX = some (putB (textsR rpcX) ++ be4 (csum 0 (putB (textsR rpcX)))) := by unfold layR; rw [if_pos (by omega)]
  exact ⟨_, hl, by rw [List.length_append]; show _ + 4 ≤ _; omega, decR_of_lay hl rpcX_may⟩
end Lec
namespace Go.Proofs.Ytdbpgcaoakoojaa
open Go.RowKit Lec
theorem num25 (w : World) (e : Int) : Calls Try.prog 8 #[.int .i64 e] w fun r w' => r = .returned (.int .i64 e) ∧ w = w' := by
  go_enter Try.func8, Try.ntmps8
  go_wp2
  go_ret
  exact ⟨rfl, rfl⟩
set_option maxRecDepth 100000 in
set_option maxHeartbeats 4000000 in
theorem wakes25 (w : World) : Calls Try.prog 12 #[] w fun e w' => e = .returned (.bool true) ∧ Below w.heap.size w w' := by
  obtain ⟨b1, hb1, hb2, hb3⟩ := rpcX_lay
  have HL1 := Lib.hid hb1
  have HL2 := Lib.hid hb2
  have HL3 := Lib.hid hb3
  clear hb1 hb2 hb3
  go_enter Try.func12, Try.ntmps12
  go_upto_region 2 with (fail)
  obtain ⟨w0, hw0⟩ : ∃ z, z = w.alloc (.cells #[.int .i64 2, .int .i64 1, .int .i64 2, .int .i64 3, .int .i64 0, .int .i64 0, .int .i64 0, .int .i64 0, .bool true, .slice none 0 0, .int .i64 0, .string ⟨#[]⟩, .bool false] 27) := ⟨_, rfl⟩
  obtain ⟨p, hp⟩ : ∃ z, z = w.heap.size := ⟨_, rfl⟩
  have HX0 : Hid (Below p w w0) := Lib.hid (by rw [hw0, hp]; exact (Below.refl _ _).alloc (Nat.le_refl _) _)
  have HB0 : Hid (Blk w0 p 27 [.int .i64 2, .int .i64 1, .int .i64 2, .int .i64 3, .int .i64 0, .int .i64 0, .int .i64 0, .int .i64 0, .bool true, .slice none 0 0, .int .i64 0, .string ⟨#[]⟩, .bool false]) := Lib.hid (by rw [hw0, hp]; exact Blk.new _ _ _)
  rw [← hw0]
  rw [← hp]
  have HPP := Lib.hid hp
  have hs0 : p ≤ w0.heap.size := by rw [hw0, hp, World.size_alloc]; omega
  clear hw0 hp
  have HEN := Lib.hid (rpcEncode_any w0 rpcX none 0 (Rds.nil _ _) rpcX_may (by decide))
  unfold rpcX rpcV at HEN
  dsimp only [List.length_nil] at HEN
  have c0 := HB0.out.cell (o := 0) rfl
  have c1 := HB0.out.cell (o := 1) rfl
  have c2 := HB0.out.cell (o := 2) rfl
  have c3 := HB0.out.cell (o := 3) rfl
  have c4 := HB0.out.cell (o := 4) rfl
  have c5 := HB0.out.cell (o := 5) rfl
  have c6 := HB0.out.cell (o := 6) rfl
  have c7 := HB0.out.cell (o := 7) rfl
  have c8 := HB0.out.cell (o := 8) rfl
  have c9 := HB0.out.cell (o := 9) rfl
  have c10 := HB0.out.cell (o := 10) rfl
  have c11 := HB0.out.cell (o := 11) rfl
  have c12 := HB0.out.cell (o := 12) rfl
  go_wp2_with fail
  refine HEN.out.mono ?_
  rintro e w2 ⟨hb2, ⟨hno, _⟩ | ⟨b, v, hl, rfl, hown⟩⟩
  · have h9 := HL1.out; unfold rpcX at h9; rw [h9] at hno; cases hno
  obtain rfl : b1 = b := by have h9 := HL1.out; unfold rpcX at h9; rw [h9] at hl; exact Option.some.inj hl
  obtain ⟨A2, cp2, rfl, p1, _, _, r2, _⟩ := own_rds hown
  have HX2 : Hid (Below p w w2) := HX0.out.trans (hb2.mono hs0)
  have HB2 := Lib.hid (HB0.out.ext hb2 (Nat.le_refl _))
  have hs2 : p ≤ w2.heap.size := Nat.le_trans hs0 hb2.size
  have HDC := Lib.hid (rpcDecode_any w2 A2 b1.length cp2 b1 rfl p1 (by have := HL2.out; omega) r2)
  clear hb2 hl hown p1 r2 HEN HB0 HX0 c0 c1 c2 c3 c4 c5 c6 c7 c8 c9 c10 c11 c12
  go_wp2_with fail
  refine HDC.out.mono ?_
  rintro e w3 ⟨hb3, ⟨hno, _⟩ | ⟨m, v3, hd, rfl, hown3⟩⟩
  · rw [HL3.out] at hno; cases hno
  obtain rfl : rpcX = m := by rw [HL3.out] at hd; exact Option.some.inj hd
  obtain ⟨A3, cp3, rfl, _, _, _, r3, _⟩ := own_rds hown3
  have HX3 : Hid (Below p w w3) := HX2.out.trans (hb3.mono hs2)
  have HB3 := Lib.hid (HB2.out.ext hb3 (Nat.le_refl _))
  have hs3 : p ≤ w3.heap.size := Nat.le_trans hs2 hb3.size
  clear hb3 hd hown3 HDC HB2 HX2 r3
  unfold rpcV rpcX
  dsimp only [List.length_nil]
  go_upto_region 4 with (fail)
  obtain ⟨w4, hw4⟩ : ∃ z, z = w3.alloc (.cells #[.int .i64 2, .int .i64 1, .int .i64 2, .int .i64 3, .int .i64 0, .int .i64 0, .int .i64 0, .int .i64 0, .bool true, .slice A3 0 cp3, .int .i64 0, .string ⟨#[]⟩, .bool false] 27) := ⟨_, rfl⟩
  have hb4 : Below w3.heap.size w3 w4 := by rw [hw4]; exact (Below.refl _ _).alloc (Nat.le_refl _) _
  have HB4 := Lib.hid (HB3.out.ext hb4 (Nat.le_refl _))
  have HG4 : Hid (Blk w4 w3.heap.size 27 [.int .i64 2, .int .i64 1, .int .i64 2, .int .i64 3, .int .i64 0, .int .i64 0, .int .i64 0, .int .i64 0, .bool true, .slice A3 0 cp3, .int .i64 0, .string ⟨#[]⟩, .bool false]) := Lib.hid (by rw [hw4]; exact Blk.new _ _ _)
  have HX4 : Hid (Below p w w4) := HX3.out.trans (hb4.mono hs3)
  have HEQ := Lib.hid (EqRpc_eq w4 rpcX 0 rfl A3 cp3 (Rds.nil _ _) none 0 (Rds.nil _ _) (by omega))
  unfold rpcX rpcV at HEQ
  dsimp only at HEQ
  have hs4 : p ≤ w4.heap.size := Nat.le_trans hs3 hb4.size
  rw [← hw4]
  generalize w3.heap.size = g at *
  clear hw4 hb4 HB3 HX3
  have c0 := HB4.out.cell (o := 0) rfl
  have c1 := HB4.out.cell (o := 1) rfl
  have c2 := HB4.out.cell (o := 2) rfl
  have c3 := HB4.out.cell (o := 3) rfl
  have c4 := HB4.out.cell (o := 4) rfl
  have c5 := HB4.out.cell (o := 5) rfl
  have c6 := HB4.out.cell (o := 6) rfl
  have c7 := HB4.out.cell (o := 7) rfl
  have c8 := HB4.out.cell (o := 8) rfl
  have c9 := HB4.out.cell (o := 9) rfl
  have c10 := HB4.out.cell (o := 10) rfl
  have c11 := HB4.out.cell (o := 11) rfl
  have c12 := HB4.out.cell (o := 12) rfl
  have f0 := HG4.out.cell (o := 0) rfl
  have f1 := HG4.out.cell (o := 1) rfl
  have f2 := HG4.out.cell (o := 2) rfl
  have f3 := HG4.out.cell (o := 3) rfl
  have f4 := HG4.out.cell (o := 4) rfl
  have f5 := HG4.out.cell (o := 5) rfl
  have f6 := HG4.out.cell (o := 6) rfl
  have f7 := HG4.out.cell (o := 7) rfl
  have f8 := HG4.out.cell (o := 8) rfl
  have f9 := HG4.out.cell (o := 9) rfl
  have f10 := HG4.out.cell (o := 10) rfl
  have f11 := HG4.out.cell (o := 11) rfl
  have f12 := HG4.out.cell (o := 12) rfl
  go_wp2_with (first
    | (go_at_call 8; refine (num25 _ _).mono ?_; rintro e wq ⟨rfl, rfl⟩)
    | (go_at_call 9; refine HEQ.out.mono ?_; rintro e w5 ⟨rfl, hb5⟩))
  go_ret
  have h9 := HX4.out.trans (hb5.mono hs4)
  rw [HPP.out] at h9
  exact ⟨rfl, h9⟩
end Go.Proofs.Ytdbpgcaoakoojaa
