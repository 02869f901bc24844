/- The walk of the law RpcAny. -/
import Derived.Test.YtdbpgcaoakoojaaRpcD
import Derived.Test.YtdbpgcaoakoojaaRpcT
import Derived.Test.YtdbpgcaoakoojaaRead
import Derived.Test.YtdbpgcaoakoojaaHelpCB
import Derived.Test.YtdbpgcaoakoojaaHelpEB
set_option linter.unusedVariables false
set_option linter.unusedSimpArgs false
namespace Lec
open Go Go.RowKit
def rpcX : Rpc := ⟨2, 1, 2, 3, 0, 0, 0, 0, true, [], 0, ⟨#[]⟩, false⟩
theorem rpcX_may : mayR rpcX = true := by decide +kernel
theorem rpcX_lay : ∃ b, layR rpcX = some b ∧ b.length ≤ 1000 ∧ decR b = some rpcX := by
  have h := (putB_light (ss := textsR rpcX) (by decide +kernel)).1
  have h1 : textsLen (textsR rpcX) = 11 := by decide +kernel
  have h2 : (textsR rpcX).length = 12 := rfl
  rw [h1, h2] at h
  have hl : layR rpcX = some (putB (textsR rpcX) ++ be4 (csum 0 (putB (textsR rpcX)))) := by unfold layR; rw [if_pos (by omega)]
  exact ⟨_, hl, by rw [List.length_append]; show _ + 4 ≤ _; omega, decR_of_lay hl rpcX_may⟩
theorem decR_dat {bs : List UInt8} {m : Rpc} (h : decR bs = some m) (hl : bs.length ≤ 1000000) : m.dat.size ≤ 1000000 := by
  unfold decR at h
  split at h
  · cases h
  · split at h
    · cases h
    · rename_i l hg
      split at h
      · injection h with h
        subst h
        refine msgT_dat (K := 1000000) (st := (l, false)) (fun s hs => ?_)
        have h1 := getL_split hg
        have h3 := (lens_le l).2 s hs
        rw [← h1, List.length_take] at h3
        omega
      · cases h
end Lec
namespace Go.Proofs.Ytdbpgcaoakoojaa
open Go.RowKit Lec
abbrev AskC : Rep (List UInt8) := Rep.slice Rep.u8 1
theorem askC_of : AskC.Of Try.prog 23 := Rep.slice_of Try.underlying23 (by kernel_rfl) (by kernel_rfl) (Rep.u8_of Try.underlying5)
theorem asksC_of : (Rep.slice AskC 24).Of Try.prog 22 := Rep.slice_of Try.underlying22 (by kernel_rfl) (by kernel_rfl) askC_of
theorem askC_at {w : World} {A : Option Addr} {xs : List (List UInt8)} (h : Row AskC w A xs) (i : Nat) (hi : i < xs.length) :
    ∃ a B c, A = some a ∧ w.cell? (a.add i) = some (.slice B xs[i].length c) ∧ xs[i].length ≤ c ∧ (B = none → xs[i].length = 0 ∧ c = 0) ∧ Rds w B (bytesV xs[i]) := by
  obtain ⟨a, cs, e, hl, hc, ⟨B, c, rfl, b1, b2, b3, b4, b5⟩⟩ := h i hi
  exact ⟨a, B, c, e, by have := hc 0 _ rfl; rwa [show i * AskC.n + 0 = i by show i * 1 + 0 = i; omega] at this, b1, b3, b5.rds⟩
theorem num25 (w : World) (e : Int) : Calls Try.prog 8 #[.int .i64 e] w fun r w' => r = .returned (.int .i64 e) ∧ w = w' := by
  go_enter Try.func8, Try.ntmps8
  go_wp2
  go_ret
  exact ⟨rfl, rfl⟩
set_option maxRecDepth 100000 in
set_option maxHeartbeats 4000000 in
theorem wakes25 (w : World) : Calls Try.prog 12 #[] w fun e w' => e = .returned (.bool true) ∧ Below w.heap.size w w' := by
  obtain ⟨b1, hb1, hb2, hb3⟩ := rpcX_lay
  have HL1 := Lib.hid hb1
  have HL2 := Lib.hid hb2
  have HL3 := Lib.hid hb3
  clear hb1 hb2 hb3
  go_enter Try.func12, Try.ntmps12
  go_upto_region 2 with (fail)
  obtain ⟨w0, hw0⟩ : ∃ z, z = w.alloc (.cells #[.int .i64 2, .int .i64 1, .int .i64 2, .int .i64 3, .int .i64 0, .int .i64 0, .int .i64 0, .int .i64 0, .bool true, .slice none 0 0, .int .i64 0, .string ⟨#[]⟩, .bool false] 27) := ⟨_, rfl⟩
  obtain ⟨p, hp⟩ : ∃ z, z = w.heap.size := ⟨_, rfl⟩
  have HX0 : Hid (Below p w w0) := Lib.hid (by rw [hw0, hp]; exact (Below.refl _ _).alloc (Nat.le_refl _) _)
  have HB0 : Hid (Blk w0 p 27 [.int .i64 2, .int .i64 1, .int .i64 2, .int .i64 3, .int .i64 0, .int .i64 0, .int .i64 0, .int .i64 0, .bool true, .slice none 0 0, .int .i64 0, .string ⟨#[]⟩, .bool false]) := Lib.hid (by rw [hw0, hp]; exact Blk.new _ _ _)
  rw [← hw0]
  rw [← hp]
  have HPP := Lib.hid hp
  have hs0 : p ≤ w0.heap.size := by rw [hw0, hp, World.size_alloc]; omega
  clear hw0 hp
  have HEN := Lib.hid (rpcEncode_any w0 rpcX none 0 (Rds.nil _ _) rpcX_may (by decide))
  unfold rpcX rpcV at HEN
  dsimp only [List.length_nil] at HEN
  have c0 := HB0.out.cell (o := 0) rfl
  have c1 := HB0.out.cell (o := 1) rfl
  have c2 := HB0.out.cell (o := 2) rfl
  have c3 := HB0.out.cell (o := 3) rfl
  have c4 := HB0.out.cell (o := 4) rfl
  have c5 := HB0.out.cell (o := 5) rfl
  have c6 := HB0.out.cell (o := 6) rfl
  have c7 := HB0.out.cell (o := 7) rfl
  have c8 := HB0.out.cell (o := 8) rfl
  have c9 := HB0.out.cell (o := 9) rfl
  have c10 := HB0.out.cell (o := 10) rfl
  have c11 := HB0.out.cell (o := 11) rfl
  have c12 := HB0.out.cell (o := 12) rfl
  go_wp2_with fail
  refine HEN.out.mono ?_
  rintro e w2 ⟨hb2, ⟨hno, _⟩ | ⟨b, v, hl, rfl, hown⟩⟩
  · have h9 := HL1.out; unfold rpcX at h9; rw [h9] at hno; cases hno
  obtain rfl : b1 = b := by have h9 := HL1.out; unfold rpcX at h9; rw [h9] at hl; exact Option.some.inj hl
  obtain ⟨A2, cp2, rfl, p1, _, _, r2, _⟩ := own_rds hown
  have HX2 : Hid (Below p w w2) := HX0.out.trans (hb2.mono hs0)
  have HB2 := Lib.hid (HB0.out.ext hb2 (Nat.le_refl _))
  have hs2 : p ≤ w2.heap.size := Nat.le_trans hs0 hb2.size
  have HDC := Lib.hid (rpcDecode_any w2 A2 b1.length cp2 b1 rfl p1 (by have := HL2.out; omega) r2)
  clear hb2 hl hown p1 r2 HEN HB0 HX0 c0 c1 c2 c3 c4 c5 c6 c7 c8 c9 c10 c11 c12
  go_wp2_with fail
  refine HDC.out.mono ?_
  rintro e w3 ⟨hb3, ⟨hno, _⟩ | ⟨m, v3, hd, rfl, hown3⟩⟩
  · rw [HL3.out] at hno; cases hno
  obtain rfl : rpcX = m := by rw [HL3.out] at hd; exact Option.some.inj hd
  obtain ⟨A3, cp3, rfl, _, _, _, r3, _⟩ := own_rds hown3
  have HX3 : Hid (Below p w w3) := HX2.out.trans (hb3.mono hs2)
  have HB3 := Lib.hid (HB2.out.ext hb3 (Nat.le_refl _))
  have hs3 : p ≤ w3.heap.size := Nat.le_trans hs2 hb3.size
  clear hb3 hd hown3 HDC HB2 HX2 r3
  unfold rpcV rpcX
  dsimp only [List.length_nil]
  go_upto_region 4 with (fail)
  obtain ⟨w4, hw4⟩ : ∃ z, z = w3.alloc (.cells #[.int .i64 2, .int .i64 1, .int .i64 2, .int .i64 3, .int .i64 0, .int .i64 0, .int .i64 0, .int .i64 0, .bool true, .slice A3 0 cp3, .int .i64 0, .string ⟨#[]⟩, .bool false] 27) := ⟨_, rfl⟩
  have hb4 : Below w3.heap.size w3 w4 := by rw [hw4]; exact (Below.refl _ _).alloc (Nat.le_refl _) _
  have HB4 := Lib.hid (HB3.out.ext hb4 (Nat.le_refl _))
  have HG4 : Hid (Blk w4 w3.heap.size 27 [.int .i64 2, .int .i64 1, .int .i64 2, .int .i64 3, .int .i64 0, .int .i64 0, .int .i64 0, .int .i64 0, .bool true, .slice A3 0 cp3, .int .i64 0, .string ⟨#[]⟩, .bool false]) := Lib.hid (by rw [hw4]; exact Blk.new _ _ _)
  have HX4 : Hid (Below p w w4) := HX3.out.trans (hb4.mono hs3)
  have HEQ := Lib.hid (EqRpc_eq w4 rpcX 0 rfl A3 cp3 (Rds.nil _ _) none 0 (Rds.nil _ _) (by omega))
  unfold rpcX rpcV at HEQ
  dsimp only at HEQ
  have hs4 : p ≤ w4.heap.size := Nat.le_trans hs3 hb4.size
  rw [← hw4]
  generalize w3.heap.size = g at *
  clear hw4 hb4 HB3 HX3
  have c0 := HB4.out.cell (o := 0) rfl
  have c1 := HB4.out.cell (o := 1) rfl
  have c2 := HB4.out.cell (o := 2) rfl
  have c3 := HB4.out.cell (o := 3) rfl
  have c4 := HB4.out.cell (o := 4) rfl
  have c5 := HB4.out.cell (o := 5) rfl
  have c6 := HB4.out.cell (o := 6) rfl
  have c7 := HB4.out.cell (o := 7) rfl
  have c8 := HB4.out.cell (o := 8) rfl
  have c9 := HB4.out.cell (o := 9) rfl
  have c10 := HB4.out.cell (o := 10) rfl
  have c11 := HB4.out.cell (o := 11) rfl
  have c12 := HB4.out.cell (o := 12) rfl
  have f0 := HG4.out.cell (o := 0) rfl
  have f1 := HG4.out.cell (o := 1) rfl
  have f2 := HG4.out.cell (o := 2) rfl
  have f3 := HG4.out.cell (o := 3) rfl
  have f4 := HG4.out.cell (o := 4) rfl
  have f5 := HG4.out.cell (o := 5) rfl
  have f6 := HG4.out.cell (o := 6) rfl
  have f7 := HG4.out.cell (o := 7) rfl
  have f8 := HG4.out.cell (o := 8) rfl
  have f9 := HG4.out.cell (o := 9) rfl
  have f10 := HG4.out.cell (o := 10) rfl
  have f11 := HG4.out.cell (o := 11) rfl
  have f12 := HG4.out.cell (o := 12) rfl
  go_wp2_with (first
    | (go_at_call 8; refine (num25 _ _).mono ?_; rintro e wq ⟨rfl, rfl⟩)
    | (go_at_call 9; refine HEQ.out.mono ?_; rintro e w5 ⟨rfl, hb5⟩))
  go_ret
  have h9 := HX4.out.trans (hb5.mono hs4)
  rw [HPP.out] at h9
  exact ⟨rfl, h9⟩
set_option maxRecDepth 100000 in
set_option maxHeartbeats 4000000 in
theorem RpcAny_walk (W : World) (A : Option Addr) (c : Nat) (xs : List (List UInt8)) (hrow : Row AskC W A xs) (hlc : xs.length ≤ c) (hcm : c ≤ maxLen) (hnone : A = none → xs.length = 0 ∧ c = 0) (hby : c * 24 ≤ reachBytes) :
    Calls Try.prog 3 #[.slice A xs.length c] W fun e w' => e = .returned (.bool true) ∧ Below W.heap.size W w' := by
  have HR := Lib.hid hrow
  have hlen : xs.length ≤ 9223372036854775807 := by unfold maxLen at hcm; omega
  clear hrow hnone hby hcm hlc
  go_enter Try.func3, Try.ntmps3
  go_wp2
  go_loopw [3] (fun i wr => ∃ k : Nat, k ≤ xs.length ∧ i = .int .i64 (k : Int) ∧ Hid (Below W.heap.size W wr)) (fun i _ => xs.length - (intOf i).toNat)
  case atStart => exact ⟨0, by omega, rfl, Below.refl _ _⟩
  case round =>
    obtain ⟨k, hk, rfl, HX⟩ := hrel
    obtain ⟨w0, rfl⟩ : ∃ x, x = wr := ⟨wr, rfl⟩
    by_cases h1 : k < xs.length ∧ k < 20
    · obtain ⟨h1, h2⟩ := h1
      have h1i : (k : Int) < (xs.length : Int) := by omega
      have h2i : (k : Int) < 20 := by omega
      obtain ⟨a, B, cb, rfl, hc0, hb1, hb3, hb4⟩ := askC_at (HR.out.ext HX.out (Nat.le_refl _)) k h1
      generalize xs[k] = bs at *
      obtain ⟨l, hl⟩ : ∃ l, l = bs.length := ⟨_, rfl⟩
      rw [← hl] at hc0 hb1 hb3
      have HL := Lib.hid hl.symm
      clear hl
      by_cases h4 : 4000 < l
      · have h4i : (4000 : Int) < (l : Int) := by omega
        go_wp2
        go_ret
        exact ⟨rfl, HX.out⟩
      · have h4i : ¬ (4000 : Int) < (l : Int) := by omega
        have HC0 := Lib.hid hc0
        have HB4 := Lib.hid hb4
        have HCP := Lib.hid (CopyBytes_any w0 B l cb bs HL.out (by omega) hb4)
        clear hb4
        go_wp2_with fail
        refine HCP.out.mono ?_
        rintro e w2 ⟨v, rfl, hown, hbe2⟩
        obtain ⟨A2, c2, rfl, p1, p2, p3, p4, p5⟩ := own_rds hown
        have HC0Q : Hid (∀ wz, Below w2.heap.size w2 wz → wz.cell? (a.add k) = some (.slice B l cb)) := Lib.hid (fun wz h => cell_ext h (Nat.le_refl _) (cell_ext hbe2 (Nat.le_refl _) HC0.out))
        have HB4Q : Hid (∀ wz, Below w2.heap.size w2 wz → Rds wz B (bytesV bs)) := Lib.hid (fun wz h => (HB4.out.ext hbe2 (Nat.le_refl _)).ext h (Nat.le_refl _))
        have HINQ : Hid (∀ wz, Below w2.heap.size w2 wz → Rds wz A2 (bytesV bs)) := Lib.hid (fun wz h => Rds.ext p4 h (Nat.le_refl _))
        have HX2 : Hid (Below W.heap.size W w2) := HX.out.trans (hbe2.mono HX.out.size)
        have HPA := Lib.hid (rpcDecode_any w2 A2 l c2 bs HL.out p1 (by omega) p4)
        have HEQQ : Hid (∀ wz, Below w2.heap.size w2 wz → Calls Try.prog 7 #[.slice A2 l c2, .slice B l cb] wz fun e w' => e = .returned (.bool true) ∧ ∃ q, wz.drewN q = w') := Lib.hid fun wz h => by
          have h2 := EqBytes_any wz A2 l c2 bs HL.out (HINQ.out wz h) B l cb bs HL.out (HB4Q.out wz h) (by omega)
          rwa [decide_eq_true rfl] at h2
        clear hbe2 hown p1 p2 p3 p4 p5 hc0 HC0 HB4 HX
        go_wp2_with fail
        refine HPA.out.mono ?_
        rintro e w3 ⟨hb3', ⟨hno, rfl⟩ | ⟨m, vm, hd, rfl, hownm⟩⟩
        · clear hno HPA
          have HB3 := Lib.hid hb3'
          unfold rpcV noR
          dsimp only
          go_upto_region 8 with (fail)
          obtain ⟨w4, hw4⟩ : ∃ z, z = w3.alloc (.cells #[.int .i64 0, .int .i64 0, .int .i64 0, .int .i64 0, .int .i64 0, .int .i64 0, .int .i64 0, .int .i64 0, .bool false, .slice none 0 0, .int .i64 0, .string ⟨#[]⟩, .bool false] 27) := ⟨_, rfl⟩
          have hb4 : Below w3.heap.size w3 w4 := by rw [hw4]; exact (Below.refl _ _).alloc (Nat.le_refl _) _
          have HG4 : Hid (Blk w4 w3.heap.size 27 [.int .i64 0, .int .i64 0, .int .i64 0, .int .i64 0, .int .i64 0, .int .i64 0, .int .i64 0, .int .i64 0, .bool false, .slice none 0 0, .int .i64 0, .string ⟨#[]⟩, .bool false]) := Lib.hid (by rw [hw4]; exact Blk.new _ _ _)
          have HB4 : Hid (Below w2.heap.size w2 w4) := Lib.hid (HB3.out.trans (hb4.mono HB3.out.size))
          have HE3 := Lib.hid (HEQQ.out w4 HB4.out)
          have hc0 := HC0Q.out w4 HB4.out
          have HEQ : Hid (∀ wz, Calls Try.prog 9 #[.agg #[.int .i64 0, .int .i64 0, .int .i64 0, .int .i64 0, .int .i64 0, .int .i64 0, .int .i64 0, .int .i64 0, .bool false, .slice none 0 0, .int .i64 0, .string ⟨#[]⟩, .bool false], .agg #[.int .i64 0, .int .i64 0, .int .i64 0, .int .i64 0, .int .i64 0, .int .i64 0, .int .i64 0, .int .i64 0, .bool false, .slice none 0 0, .int .i64 0, .string ⟨#[]⟩, .bool false]] wz fun e w' => e = .returned (.bool true) ∧ Below wz.heap.size wz w') := Lib.hid (fun wz => EqRpc_eq wz noR 0 rfl none 0 (Rds.nil _ _) none 0 (Rds.nil _ _) (by omega))
          rw [← hw4]
          generalize w3.heap.size = g at *
          clear hw4 hb4 hb3'
          have f0 := HG4.out.cell (o := 0) rfl
          have f1 := HG4.out.cell (o := 1) rfl
          have f2 := HG4.out.cell (o := 2) rfl
          have f3 := HG4.out.cell (o := 3) rfl
          have f4 := HG4.out.cell (o := 4) rfl
          have f5 := HG4.out.cell (o := 5) rfl
          have f6 := HG4.out.cell (o := 6) rfl
          have f7 := HG4.out.cell (o := 7) rfl
          have f8 := HG4.out.cell (o := 8) rfl
          have f9 := HG4.out.cell (o := 9) rfl
          have f10 := HG4.out.cell (o := 10) rfl
          have f11 := HG4.out.cell (o := 11) rfl
          have f12 := HG4.out.cell (o := 12) rfl
          go_wp2_with (first
            | (go_at_call 8; refine (num25 _ _).mono ?_; rintro e wq ⟨rfl, rfl⟩)
            | (go_at_call 7; refine HE3.out.mono ?_; rintro e wq ⟨rfl, q, rfl⟩)
            | (go_at_call 9; refine (HEQ.out _).mono ?_; rintro e w5 ⟨rfl, hb5⟩))
          have HBq : Hid (Below w2.heap.size w2 (w4.drewN q)) := Lib.hid (HB4.out.trans ((drawn_below w4 q).mono HB4.out.size))
          go_roundw
          case rel => exact ⟨k + 1, by omega, by go_num, HX2.out.trans ((HBq.out.trans (hb5.mono HBq.out.size)).mono HX2.out.size)⟩
          case measure => first | (simp [intOf]; done) | (simp [intOf]; omega)
        · obtain ⟨hly, hmy⟩ := decR_lay hd
          have HLY := Lib.hid hly
          have HMY := Lib.hid hmy
          have HSM := Lib.hid (decR_dat hd (by rw [HL.out]; omega))
          have HB3 := Lib.hid hb3'
          obtain ⟨AV, cV, rfl, _, _, _, rV, _⟩ := own_rds hownm
          have HRV := Lib.hid rV
          clear hb3' HPA hd hly hmy hownm rV
          unfold rpcV
          go_upto_region 8 with (fail)
          obtain ⟨w4, hw4⟩ : ∃ z, z = w3.alloc (.cells #[.int .i64 m.knd, .int .i64 m.frm, .int .i64 m.tto, .int .i64 m.trm, .int .i64 m.idx, .int .i64 m.lgt, .int .i64 m.com, .int .i64 m.rnd, .bool m.ok, .slice AV m.ents.length cV, .int .i64 m.att, .string m.dat, .bool m.don] 27) := ⟨_, rfl⟩
          have hb4 : Below w3.heap.size w3 w4 := by rw [hw4]; exact (Below.refl _ _).alloc (Nat.le_refl _) _
          have HG4 : Hid (Blk w4 w3.heap.size 27 [.int .i64 m.knd, .int .i64 m.frm, .int .i64 m.tto, .int .i64 m.trm, .int .i64 m.idx, .int .i64 m.lgt, .int .i64 m.com, .int .i64 m.rnd, .bool m.ok, .slice AV m.ents.length cV, .int .i64 m.att, .string m.dat, .bool m.don]) := Lib.hid (by rw [hw4]; exact Blk.new _ _ _)
          have HB4 : Hid (Below w2.heap.size w2 w4) := Lib.hid (HB3.out.trans (hb4.mono HB3.out.size))
          have HR4 := Lib.hid (HRV.out.ext hb4 (Nat.le_refl _))
          have HE3 := Lib.hid (HEQQ.out w4 HB4.out)
          have hc0 := HC0Q.out w4 HB4.out
          rw [← hw4]
          generalize w3.heap.size = g at *
          clear hw4 hb4 HB3 HRV
          have f0 := HG4.out.cell (o := 0) rfl
          have f1 := HG4.out.cell (o := 1) rfl
          have f2 := HG4.out.cell (o := 2) rfl
          have f3 := HG4.out.cell (o := 3) rfl
          have f4 := HG4.out.cell (o := 4) rfl
          have f5 := HG4.out.cell (o := 5) rfl
          have f6 := HG4.out.cell (o := 6) rfl
          have f7 := HG4.out.cell (o := 7) rfl
          have f8 := HG4.out.cell (o := 8) rfl
          have f9 := HG4.out.cell (o := 9) rfl
          have f10 := HG4.out.cell (o := 10) rfl
          have f11 := HG4.out.cell (o := 11) rfl
          have f12 := HG4.out.cell (o := 12) rfl
          go_upto_region 10 with (first
            | (go_at_call 8; refine (num25 _ _).mono ?_; rintro e wq ⟨rfl, rfl⟩)
            | (go_at_call 7; refine HE3.out.mono ?_; rintro e wq ⟨rfl, q, rfl⟩))
          obtain ⟨w5, hw5⟩ : ∃ z, z = w4.drewN q := ⟨_, rfl⟩
          have HG5 : Hid (Blk w5 g 27 [.int .i64 m.knd, .int .i64 m.frm, .int .i64 m.tto, .int .i64 m.trm, .int .i64 m.idx, .int .i64 m.lgt, .int .i64 m.com, .int .i64 m.rnd, .bool m.ok, .slice AV m.ents.length cV, .int .i64 m.att, .string m.dat, .bool m.don]) := Lib.hid (by rw [hw5]; exact HG4.out.drew q)
          have HR5 : Hid (Rds w5 AV (entsC m.ents)) := Lib.hid (by rw [hw5]; exact HR4.out.ext (drawn_below w4 q) (Nat.le_refl _))
          have HB5 : Hid (Below w2.heap.size w2 w5) := Lib.hid (by rw [hw5]; exact HB4.out.trans ((drawn_below w4 q).mono HB4.out.size))
          have HEN := Lib.hid (rpcEncode_any w5 m AV cV HR5.out HMY.out (by have := HSM.out; omega))
          unfold rpcV at HEN
          rw [← hw5]
          clear hw5 HG4 HR4 HB4 HE3 hc0 f0 f1 f2 f3 f4 f5 f6 f7 f8 f9 f10 f11 f12
          have f0 := HG5.out.cell (o := 0) rfl
          have f1 := HG5.out.cell (o := 1) rfl
          have f2 := HG5.out.cell (o := 2) rfl
          have f3 := HG5.out.cell (o := 3) rfl
          have f4 := HG5.out.cell (o := 4) rfl
          have f5 := HG5.out.cell (o := 5) rfl
          have f6 := HG5.out.cell (o := 6) rfl
          have f7 := HG5.out.cell (o := 7) rfl
          have f8 := HG5.out.cell (o := 8) rfl
          have f9 := HG5.out.cell (o := 9) rfl
          have f10 := HG5.out.cell (o := 10) rfl
          have f11 := HG5.out.cell (o := 11) rfl
          have f12 := HG5.out.cell (o := 12) rfl
          go_wp2_with (first
            | (go_at_call 8; refine (num25 _ _).mono ?_; rintro e wq ⟨rfl, rfl⟩))
          refine HEN.out.mono ?_
          rintro e w7 ⟨hb7, ⟨hno, _⟩ | ⟨b7, v7, hl7, rfl, hown7⟩⟩
          · rw [HLY.out] at hno; cases hno
          obtain rfl : bs = b7 := by rw [HLY.out] at hl7; exact Option.some.inj hl7
          obtain ⟨A7, c7, rfl, _, _, _, r7, _⟩ := own_rds hown7
          have HB7 : Hid (Below w2.heap.size w2 w7) := Lib.hid (HB5.out.trans (hb7.mono HB5.out.size))
          have HG7 := Lib.hid (HG5.out.ext hb7 (Nat.le_refl _))
          have HR7 := Lib.hid (HR5.out.ext hb7 (Nat.le_refl _))
          have HE7 : Hid (Calls Try.prog 7 #[.slice A7 bs.length c7, .slice B l cb] w7 fun e w' => e = .returned (.bool true) ∧ ∃ q, w7.drewN q = w') := Lib.hid (by
            have h2 := EqBytes_any w7 A7 bs.length c7 bs rfl r7 B l cb bs HL.out (HB4Q.out w7 HB7.out) (by rw [HL.out]; omega)
            rwa [decide_eq_true rfl] at h2)
          have HMR : Hid (∀ q, Calls Try.prog 11 #[.agg #[.int .i64 m.knd, .int .i64 m.frm, .int .i64 m.tto, .int .i64 m.trm, .int .i64 m.idx, .int .i64 m.lgt, .int .i64 m.com, .int .i64 m.rnd, .bool m.ok, .slice AV m.ents.length cV, .int .i64 m.att, .string m.dat, .bool m.don]] (w7.drewN q) fun e w' => e = .returned (.bool true) ∧ Below (w7.drewN q).heap.size (w7.drewN q) w') := Lib.hid (fun q => MayRpc_yes (w7.drewN q) m AV cV (HR7.out.ext (drawn_below w7 q) (Nat.le_refl _)) HMY.out)
          have hc0 := HC0Q.out w7 HB7.out
          clear hb7 hl7 hown7 r7 HG5 HR5 HEN f0 f1 f2 f3 f4 f5 f6 f7 f8 f9 f10 f11 f12
          have f0 := HG7.out.cell (o := 0) rfl
          have f1 := HG7.out.cell (o := 1) rfl
          have f2 := HG7.out.cell (o := 2) rfl
          have f3 := HG7.out.cell (o := 3) rfl
          have f4 := HG7.out.cell (o := 4) rfl
          have f5 := HG7.out.cell (o := 5) rfl
          have f6 := HG7.out.cell (o := 6) rfl
          have f7 := HG7.out.cell (o := 7) rfl
          have f8 := HG7.out.cell (o := 8) rfl
          have f9 := HG7.out.cell (o := 9) rfl
          have f10 := HG7.out.cell (o := 10) rfl
          have f11 := HG7.out.cell (o := 11) rfl
          have f12 := HG7.out.cell (o := 12) rfl
          go_wp2_with (first
            | (go_at_call 8; refine (num25 _ _).mono ?_; rintro e wq ⟨rfl, rfl⟩)
            | (go_at_call 7; (with_reducible refine HE7.out.mono ?_); rintro e wq ⟨rfl, q7, rfl⟩)
            | (go_at_call 11; (with_reducible refine (HMR.out _).mono ?_); rintro e w8 ⟨rfl, hb8⟩))
          have HBq : Hid (Below w2.heap.size w2 (w7.drewN q7)) := Lib.hid (HB7.out.trans ((drawn_below w7 q7).mono HB7.out.size))
          go_roundw
          case rel => exact ⟨k + 1, by omega, by go_num, HX2.out.trans ((HBq.out.trans (hb8.mono HBq.out.size)).mono HX2.out.size)⟩
          case measure => first | (simp [intOf]; done) | (simp [intOf]; omega)
    · by_cases h2 : k < xs.length
      · have h1i : (k : Int) < (xs.length : Int) := by omega
        have h2i : ¬ (k : Int) < 20 := by omega
        go_wp2_with (go_at_call 12; refine (wakes25 _).mono ?_; rintro e w1 ⟨rfl, hb⟩)
        go_ret
        exact ⟨rfl, HX.out.trans (hb.mono HX.out.size)⟩
      · have h1i : ¬ (k : Int) < (xs.length : Int) := by omega
        go_wp2_with (go_at_call 12; refine (wakes25 _).mono ?_; rintro e w1 ⟨rfl, hb⟩)
        go_ret
        exact ⟨rfl, HX.out.trans (hb.mono HX.out.size)⟩
end Go.Proofs.Ytdbpgcaoakoojaa
