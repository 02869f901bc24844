/- The walk of rpc's own, kind 3. -/
import Derived.Test.YtdbpgcaoakoojaaRpcO
import Derived.Test.YtdbpgcaoakoojaaRpcF
set_option linter.unusedVariables false
set_option linter.unusedSimpArgs false
namespace Go.Proofs.Ytdbpgcaoakoojaa
open Go.RowKit Lec
theorem cellDrew3 (w : World) (a : Addr) : w.drew.cell? a = w.cell? a := rfl
set_option maxRecDepth 100000 in
set_option maxHeartbeats 4000000 in
theorem own3_any (w : World) (m : Rpc) (hk : m.knd = 3) (A : Option Addr) (c : Nat) (hr : Rds w A (entsC m.ents)) (hm : m.ents.length ≤ 4000000000) (hi : 0 ≤ m.idx ∧ m.idx < 9223372036854775808) :
    Calls Try.prog 29 #[rpcV m (.slice A m.ents.length c)] w fun e w' => e = .returned (.tuple #[rpcV (ownR m) (ownV m (.slice A m.ents.length c)), .bool (ownB m)]) ∧ Below w.heap.size w w' := by
  have HK := Lib.hid hk
  clear hk
  obtain ⟨r, hrr⟩ : ∃ r, r = ownR m := ⟨_, rfl⟩
  obtain ⟨u, hu⟩ : ∃ u, u = ownB m := ⟨_, rfl⟩
  obtain ⟨v9, hv⟩ : ∃ v, v = ownV m (.slice A m.ents.length c) := ⟨_, rfl⟩
  rw [← hrr, ← hu, ← hv]
  have HRR := Lib.hid hrr
  have HU := Lib.hid hu
  have HV := Lib.hid hv
  have HR := Lib.hid hr
  clear hrr hu hv hr
  obtain ⟨a0, a1, a2, a3, a4, a5, a6, a7, ok, es, a8, dt, dn⟩ := m
  unfold rpcV
  dsimp only at *
  obtain ⟨n, hn⟩ : ∃ z, es.length = z := ⟨_, rfl⟩
  have HN := Lib.hid hn
  rw [hn] at HV hm
  rw [hn]
  clear hn
  go_enter Try.func29, Try.ntmps29
  go_upto_region 1 with (fail)
  obtain ⟨h, hh⟩ : ∃ z, w.heap.size = z := ⟨_, rfl⟩
  obtain ⟨w0, hw0⟩ : ∃ z, z = (w.alloc (.cells #[.int .i64 a0, .int .i64 a1, .int .i64 a2, .int .i64 a3, .int .i64 a4, .int .i64 a5, .int .i64 a6, .int .i64 a7, .bool ok, .slice A n c, .int .i64 a8, .string dt, .bool dn] 27)).alloc (.cells #[.int .i64 0, .int .i64 0, .int .i64 0, .int .i64 0, .int .i64 0, .int .i64 0, .int .i64 0, .int .i64 0, .bool false, .slice none 0 0, .int .i64 0, .string ⟨#[]⟩, .bool false] 27) := ⟨_, rfl⟩
  rw [← hw0]
  have HX0 : Hid (Below w.heap.size w w0) := Lib.hid (by rw [hw0]; exact ((Below.refl _ _).alloc (Nat.le_refl _) _).alloc (by simp) _)
  have HB0 : Hid (Blk w0 w.heap.size 27 [.int .i64 a0, .int .i64 a1, .int .i64 a2, .int .i64 a3, .int .i64 a4, .int .i64 a5, .int .i64 a6, .int .i64 a7, .bool ok, .slice A n c, .int .i64 a8, .string dt, .bool dn]) := Lib.hid (by rw [hw0]; exact (Blk.new w _ _).ext ((Below.refl _ _).alloc (Nat.le_refl _) _) (Nat.le_refl _))
  have HZ0 : Hid (Blk w0 (w.heap.size + 1) 27 [.int .i64 0, .int .i64 0, .int .i64 0, .int .i64 0, .int .i64 0, .int .i64 0, .int .i64 0, .int .i64 0, .bool false, .slice none 0 0, .int .i64 0, .string ⟨#[]⟩, .bool false]) := Lib.hid (by
    rw [hw0]
    have := Blk.new (w.alloc (.cells #[.int .i64 a0, .int .i64 a1, .int .i64 a2, .int .i64 a3, .int .i64 a4, .int .i64 a5, .int .i64 a6, .int .i64 a7, .bool ok, .slice A n c, .int .i64 a8, .string dt, .bool dn] 27)) #[.int .i64 0, .int .i64 0, .int .i64 0, .int .i64 0, .int .i64 0, .int .i64 0, .int .i64 0, .int .i64 0, .bool false, .slice none 0 0, .int .i64 0, .string ⟨#[]⟩, .bool false] 27
    rwa [World.size_alloc] at this)
  have hs0 : w0.heap.size = w.heap.size + 2 := by rw [hw0, World.size_alloc, World.size_alloc]
  clear hw0
  rw [hh] at HX0 HB0 HZ0 hs0
  rw [hh]
  have c0 := HB0.out.cell (o := 0) rfl
  have c1 := HB0.out.cell (o := 1) rfl
  have c2 := HB0.out.cell (o := 2) rfl
  have c3 := HB0.out.cell (o := 3) rfl
  have z0 := HZ0.out.cell (o := 0) rfl
  have y0 := HZ0.out.froz 0
  have z1 := HZ0.out.cell (o := 1) rfl
  have y1 := HZ0.out.froz 1
  have z2 := HZ0.out.cell (o := 2) rfl
  have y2 := HZ0.out.froz 2
  have z3 := HZ0.out.cell (o := 3) rfl
  have y3 := HZ0.out.froz 3
  have z4 := HZ0.out.cell (o := 4) rfl
  have y4 := HZ0.out.froz 4
  have z5 := HZ0.out.cell (o := 5) rfl
  have y5 := HZ0.out.froz 5
  have z6 := HZ0.out.cell (o := 6) rfl
  have y6 := HZ0.out.froz 6
  have z7 := HZ0.out.cell (o := 7) rfl
  have y7 := HZ0.out.froz 7
  have z8 := HZ0.out.cell (o := 8) rfl
  have y8 := HZ0.out.froz 8
  have z9 := HZ0.out.cell (o := 9) rfl
  have y9 := HZ0.out.froz 9
  have z10 := HZ0.out.cell (o := 10) rfl
  have y10 := HZ0.out.froz 10
  have z11 := HZ0.out.cell (o := 11) rfl
  have y11 := HZ0.out.froz 11
  have z12 := HZ0.out.cell (o := 12) rfl
  have y12 := HZ0.out.froz 12
  go_upto_region 2 with (fail)
  obtain ⟨w1, hw1⟩ : ∃ z, z = put13 w0 (h + 1) (.int .i64 a0) (.int .i64 a1) (.int .i64 a2) (.int .i64 a3) (.int .i64 0) (.int .i64 0) (.int .i64 0) (.int .i64 0) (.bool false) (.slice none 0 0) (.int .i64 0) (.string ⟨#[]⟩) (.bool false) := ⟨_, rfl⟩
  have HX1 : Hid (Below h w w1) := Lib.hid (by rw [hw1]; exact HX0.out.grown (put13_chg w0 (h + 1) _ _ _ _ _ _ _ _ _ _ _ _ _).1 (by omega) (fun k hk => by cases hk; omega))
  have HB1 : Hid (Blk w1 h 27 [.int .i64 a0, .int .i64 a1, .int .i64 a2, .int .i64 a3, .int .i64 a4, .int .i64 a5, .int .i64 a6, .int .i64 a7, .bool ok, .slice A n c, .int .i64 a8, .string dt, .bool dn]) := Lib.hid (by rw [hw1]; exact (put13_chg w0 (h + 1) _ _ _ _ _ _ _ _ _ _ _ _ _).blk HB0.out (by omega))
  have HZ1 : Hid (Blk w1 (h + 1) 27 _) := Lib.hid (by rw [hw1]; exact put13_blk _ _ _ _ _ _ _ _ _ _ _ _ _ HZ0.out)
  have hs1 : w1.heap.size = h + 2 := by rw [hw1, (put13_chg w0 (h + 1) _ _ _ _ _ _ _ _ _ _ _ _ _).2]; exact hs0
  unfold put13 at hw1
  rw [← hw1]
  clear hw1 HX0 HB0 HZ0 hs0 c0 c1 c2 c3 z0 y0 z1 y1 z2 y2 z3 y3 z4 y4 z5 y5 z6 y6 z7 y7 z8 y8 z9 y9 z10 y10 z11 y11 z12 y12
  have c0 := HB1.out.cell (o := 0) rfl
  have c1 := HB1.out.cell (o := 1) rfl
  have c2 := HB1.out.cell (o := 2) rfl
  have c3 := HB1.out.cell (o := 3) rfl
  have c4 := HB1.out.cell (o := 4) rfl
  have c5 := HB1.out.cell (o := 5) rfl
  have c6 := HB1.out.cell (o := 6) rfl
  have c7 := HB1.out.cell (o := 7) rfl
  have c8 := HB1.out.cell (o := 8) rfl
  have c9 := HB1.out.cell (o := 9) rfl
  have c10 := HB1.out.cell (o := 10) rfl
  have c11 := HB1.out.cell (o := 11) rfl
  have c12 := HB1.out.cell (o := 12) rfl
  have hne : h ≠ h + 1 := by omega
  obtain rfl := HK.out
  have z4 := HZ1.out.cell (o := 4) rfl
  have y4 := HZ1.out.froz 4
  have z5 := HZ1.out.cell (o := 5) rfl
  have y5 := HZ1.out.froz 5
  have z6 := HZ1.out.cell (o := 6) rfl
  have y6 := HZ1.out.froz 6
  have z7 := HZ1.out.cell (o := 7) rfl
  have y7 := HZ1.out.froz 7
  have z9 := HZ1.out.cell (o := 9) rfl
  have y9 := HZ1.out.froz 9
  go_upto_region 10 with (fail)
  have E0 : World.cell? w1 ⟨h, 4, none⟩ = some (.int .i64 a4) ∧ World.cell? w1 ⟨h, 5, none⟩ = some (.int .i64 a5) ∧ World.cell? w1 ⟨h, 6, none⟩ = some (.int .i64 a6) ∧ World.cell? w1 ⟨h, 7, none⟩ = some (.int .i64 a7) ∧ World.cell? w1 ⟨h, 9, none⟩ = some (.slice A n c) := ⟨c4, c5, c6, c7, c9⟩
  have E1 : World.cell? (w1.setCell ⟨h + 1, 4, none⟩ (.int .i64 a4)) ⟨h, 4, none⟩ = some (.int .i64 a4) ∧ World.cell? (w1.setCell ⟨h + 1, 4, none⟩ (.int .i64 a4)) ⟨h, 5, none⟩ = some (.int .i64 a5) ∧ World.cell? (w1.setCell ⟨h + 1, 4, none⟩ (.int .i64 a4)) ⟨h, 6, none⟩ = some (.int .i64 a6) ∧ World.cell? (w1.setCell ⟨h + 1, 4, none⟩ (.int .i64 a4)) ⟨h, 7, none⟩ = some (.int .i64 a7) ∧ World.cell? (w1.setCell ⟨h + 1, 4, none⟩ (.int .i64 a4)) ⟨h, 9, none⟩ = some (.slice A n c) := ⟨(cell_set_far _ hne).trans E0.1, (cell_set_far _ hne).trans E0.2.1, (cell_set_far _ hne).trans E0.2.2.1, (cell_set_far _ hne).trans E0.2.2.2.1, (cell_set_far _ hne).trans E0.2.2.2.2⟩
  have D1 : World.cell? (w1.setCell ⟨h + 1, 4, none⟩ (.int .i64 a4)).drew ⟨h, 4, none⟩ = some (.int .i64 a4) ∧ World.cell? (w1.setCell ⟨h + 1, 4, none⟩ (.int .i64 a4)).drew ⟨h, 5, none⟩ = some (.int .i64 a5) ∧ World.cell? (w1.setCell ⟨h + 1, 4, none⟩ (.int .i64 a4)).drew ⟨h, 6, none⟩ = some (.int .i64 a6) ∧ World.cell? (w1.setCell ⟨h + 1, 4, none⟩ (.int .i64 a4)).drew ⟨h, 7, none⟩ = some (.int .i64 a7) ∧ World.cell? (w1.setCell ⟨h + 1, 4, none⟩ (.int .i64 a4)).drew ⟨h, 9, none⟩ = some (.slice A n c) := ⟨(cellDrew3 _ _).trans E1.1, (cellDrew3 _ _).trans E1.2.1, (cellDrew3 _ _).trans E1.2.2.1, (cellDrew3 _ _).trans E1.2.2.2.1, (cellDrew3 _ _).trans E1.2.2.2.2⟩
  have E2 : World.cell? ((w1.setCell ⟨h + 1, 4, none⟩ (.int .i64 a4)).setCell ⟨h + 1, 5, none⟩ (.int .i64 a5)) ⟨h, 4, none⟩ = some (.int .i64 a4) ∧ World.cell? ((w1.setCell ⟨h + 1, 4, none⟩ (.int .i64 a4)).setCell ⟨h + 1, 5, none⟩ (.int .i64 a5)) ⟨h, 5, none⟩ = some (.int .i64 a5) ∧ World.cell? ((w1.setCell ⟨h + 1, 4, none⟩ (.int .i64 a4)).setCell ⟨h + 1, 5, none⟩ (.int .i64 a5)) ⟨h, 6, none⟩ = some (.int .i64 a6) ∧ World.cell? ((w1.setCell ⟨h + 1, 4, none⟩ (.int .i64 a4)).setCell ⟨h + 1, 5, none⟩ (.int .i64 a5)) ⟨h, 7, none⟩ = some (.int .i64 a7) ∧ World.cell? ((w1.setCell ⟨h + 1, 4, none⟩ (.int .i64 a4)).setCell ⟨h + 1, 5, none⟩ (.int .i64 a5)) ⟨h, 9, none⟩ = some (.slice A n c) := ⟨(cell_set_far _ hne).trans E1.1, (cell_set_far _ hne).trans E1.2.1, (cell_set_far _ hne).trans E1.2.2.1, (cell_set_far _ hne).trans E1.2.2.2.1, (cell_set_far _ hne).trans E1.2.2.2.2⟩
  have D2 : World.cell? ((w1.setCell ⟨h + 1, 4, none⟩ (.int .i64 a4)).setCell ⟨h + 1, 5, none⟩ (.int .i64 a5)).drew ⟨h, 4, none⟩ = some (.int .i64 a4) ∧ World.cell? ((w1.setCell ⟨h + 1, 4, none⟩ (.int .i64 a4)).setCell ⟨h + 1, 5, none⟩ (.int .i64 a5)).drew ⟨h, 5, none⟩ = some (.int .i64 a5) ∧ World.cell? ((w1.setCell ⟨h + 1, 4, none⟩ (.int .i64 a4)).setCell ⟨h + 1, 5, none⟩ (.int .i64 a5)).drew ⟨h, 6, none⟩ = some (.int .i64 a6) ∧ World.cell? ((w1.setCell ⟨h + 1, 4, none⟩ (.int .i64 a4)).setCell ⟨h + 1, 5, none⟩ (.int .i64 a5)).drew ⟨h, 7, none⟩ = some (.int .i64 a7) ∧ World.cell? ((w1.setCell ⟨h + 1, 4, none⟩ (.int .i64 a4)).setCell ⟨h + 1, 5, none⟩ (.int .i64 a5)).drew ⟨h, 9, none⟩ = some (.slice A n c) := ⟨(cellDrew3 _ _).trans E2.1, (cellDrew3 _ _).trans E2.2.1, (cellDrew3 _ _).trans E2.2.2.1, (cellDrew3 _ _).trans E2.2.2.2.1, (cellDrew3 _ _).trans E2.2.2.2.2⟩
  have E3 : World.cell? (((w1.setCell ⟨h + 1, 4, none⟩ (.int .i64 a4)).setCell ⟨h + 1, 5, none⟩ (.int .i64 a5)).setCell ⟨h + 1, 6, none⟩ (.int .i64 a6)) ⟨h, 4, none⟩ = some (.int .i64 a4) ∧ World.cell? (((w1.setCell ⟨h + 1, 4, none⟩ (.int .i64 a4)).setCell ⟨h + 1, 5, none⟩ (.int .i64 a5)).setCell ⟨h + 1, 6, none⟩ (.int .i64 a6)) ⟨h, 5, none⟩ = some (.int .i64 a5) ∧ World.cell? (((w1.setCell ⟨h + 1, 4, none⟩ (.int .i64 a4)).setCell ⟨h + 1, 5, none⟩ (.int .i64 a5)).setCell ⟨h + 1, 6, none⟩ (.int .i64 a6)) ⟨h, 6, none⟩ = some (.int .i64 a6) ∧ World.cell? (((w1.setCell ⟨h + 1, 4, none⟩ (.int .i64 a4)).setCell ⟨h + 1, 5, none⟩ (.int .i64 a5)).setCell ⟨h + 1, 6, none⟩ (.int .i64 a6)) ⟨h, 7, none⟩ = some (.int .i64 a7) ∧ World.cell? (((w1.setCell ⟨h + 1, 4, none⟩ (.int .i64 a4)).setCell ⟨h + 1, 5, none⟩ (.int .i64 a5)).setCell ⟨h + 1, 6, none⟩ (.int .i64 a6)) ⟨h, 9, none⟩ = some (.slice A n c) := ⟨(cell_set_far _ hne).trans E2.1, (cell_set_far _ hne).trans E2.2.1, (cell_set_far _ hne).trans E2.2.2.1, (cell_set_far _ hne).trans E2.2.2.2.1, (cell_set_far _ hne).trans E2.2.2.2.2⟩
  have D3 : World.cell? (((w1.setCell ⟨h + 1, 4, none⟩ (.int .i64 a4)).setCell ⟨h + 1, 5, none⟩ (.int .i64 a5)).setCell ⟨h + 1, 6, none⟩ (.int .i64 a6)).drew ⟨h, 4, none⟩ = some (.int .i64 a4) ∧ World.cell? (((w1.setCell ⟨h + 1, 4, none⟩ (.int .i64 a4)).setCell ⟨h + 1, 5, none⟩ (.int .i64 a5)).setCell ⟨h + 1, 6, none⟩ (.int .i64 a6)).drew ⟨h, 5, none⟩ = some (.int .i64 a5) ∧ World.cell? (((w1.setCell ⟨h + 1, 4, none⟩ (.int .i64 a4)).setCell ⟨h + 1, 5, none⟩ (.int .i64 a5)).setCell ⟨h + 1, 6, none⟩ (.int .i64 a6)).drew ⟨h, 6, none⟩ = some (.int .i64 a6) ∧ World.cell? (((w1.setCell ⟨h + 1, 4, none⟩ (.int .i64 a4)).setCell ⟨h + 1, 5, none⟩ (.int .i64 a5)).setCell ⟨h + 1, 6, none⟩ (.int .i64 a6)).drew ⟨h, 7, none⟩ = some (.int .i64 a7) ∧ World.cell? (((w1.setCell ⟨h + 1, 4, none⟩ (.int .i64 a4)).setCell ⟨h + 1, 5, none⟩ (.int .i64 a5)).setCell ⟨h + 1, 6, none⟩ (.int .i64 a6)).drew ⟨h, 9, none⟩ = some (.slice A n c) := ⟨(cellDrew3 _ _).trans E3.1, (cellDrew3 _ _).trans E3.2.1, (cellDrew3 _ _).trans E3.2.2.1, (cellDrew3 _ _).trans E3.2.2.2.1, (cellDrew3 _ _).trans E3.2.2.2.2⟩
  have E4 : World.cell? ((((w1.setCell ⟨h + 1, 4, none⟩ (.int .i64 a4)).setCell ⟨h + 1, 5, none⟩ (.int .i64 a5)).setCell ⟨h + 1, 6, none⟩ (.int .i64 a6)).setCell ⟨h + 1, 7, none⟩ (.int .i64 a7)) ⟨h, 4, none⟩ = some (.int .i64 a4) ∧ World.cell? ((((w1.setCell ⟨h + 1, 4, none⟩ (.int .i64 a4)).setCell ⟨h + 1, 5, none⟩ (.int .i64 a5)).setCell ⟨h + 1, 6, none⟩ (.int .i64 a6)).setCell ⟨h + 1, 7, none⟩ (.int .i64 a7)) ⟨h, 5, none⟩ = some (.int .i64 a5) ∧ World.cell? ((((w1.setCell ⟨h + 1, 4, none⟩ (.int .i64 a4)).setCell ⟨h + 1, 5, none⟩ (.int .i64 a5)).setCell ⟨h + 1, 6, none⟩ (.int .i64 a6)).setCell ⟨h + 1, 7, none⟩ (.int .i64 a7)) ⟨h, 6, none⟩ = some (.int .i64 a6) ∧ World.cell? ((((w1.setCell ⟨h + 1, 4, none⟩ (.int .i64 a4)).setCell ⟨h + 1, 5, none⟩ (.int .i64 a5)).setCell ⟨h + 1, 6, none⟩ (.int .i64 a6)).setCell ⟨h + 1, 7, none⟩ (.int .i64 a7)) ⟨h, 7, none⟩ = some (.int .i64 a7) ∧ World.cell? ((((w1.setCell ⟨h + 1, 4, none⟩ (.int .i64 a4)).setCell ⟨h + 1, 5, none⟩ (.int .i64 a5)).setCell ⟨h + 1, 6, none⟩ (.int .i64 a6)).setCell ⟨h + 1, 7, none⟩ (.int .i64 a7)) ⟨h, 9, none⟩ = some (.slice A n c) := ⟨(cell_set_far _ hne).trans E3.1, (cell_set_far _ hne).trans E3.2.1, (cell_set_far _ hne).trans E3.2.2.1, (cell_set_far _ hne).trans E3.2.2.2.1, (cell_set_far _ hne).trans E3.2.2.2.2⟩
  have D4 : World.cell? ((((w1.setCell ⟨h + 1, 4, none⟩ (.int .i64 a4)).setCell ⟨h + 1, 5, none⟩ (.int .i64 a5)).setCell ⟨h + 1, 6, none⟩ (.int .i64 a6)).setCell ⟨h + 1, 7, none⟩ (.int .i64 a7)).drew ⟨h, 4, none⟩ = some (.int .i64 a4) ∧ World.cell? ((((w1.setCell ⟨h + 1, 4, none⟩ (.int .i64 a4)).setCell ⟨h + 1, 5, none⟩ (.int .i64 a5)).setCell ⟨h + 1, 6, none⟩ (.int .i64 a6)).setCell ⟨h + 1, 7, none⟩ (.int .i64 a7)).drew ⟨h, 5, none⟩ = some (.int .i64 a5) ∧ World.cell? ((((w1.setCell ⟨h + 1, 4, none⟩ (.int .i64 a4)).setCell ⟨h + 1, 5, none⟩ (.int .i64 a5)).setCell ⟨h + 1, 6, none⟩ (.int .i64 a6)).setCell ⟨h + 1, 7, none⟩ (.int .i64 a7)).drew ⟨h, 6, none⟩ = some (.int .i64 a6) ∧ World.cell? ((((w1.setCell ⟨h + 1, 4, none⟩ (.int .i64 a4)).setCell ⟨h + 1, 5, none⟩ (.int .i64 a5)).setCell ⟨h + 1, 6, none⟩ (.int .i64 a6)).setCell ⟨h + 1, 7, none⟩ (.int .i64 a7)).drew ⟨h, 7, none⟩ = some (.int .i64 a7) ∧ World.cell? ((((w1.setCell ⟨h + 1, 4, none⟩ (.int .i64 a4)).setCell ⟨h + 1, 5, none⟩ (.int .i64 a5)).setCell ⟨h + 1, 6, none⟩ (.int .i64 a6)).setCell ⟨h + 1, 7, none⟩ (.int .i64 a7)).drew ⟨h, 9, none⟩ = some (.slice A n c) := ⟨(cellDrew3 _ _).trans E4.1, (cellDrew3 _ _).trans E4.2.1, (cellDrew3 _ _).trans E4.2.2.1, (cellDrew3 _ _).trans E4.2.2.2.1, (cellDrew3 _ _).trans E4.2.2.2.2⟩
  have E5 : World.cell? (((((w1.setCell ⟨h + 1, 4, none⟩ (.int .i64 a4)).setCell ⟨h + 1, 5, none⟩ (.int .i64 a5)).setCell ⟨h + 1, 6, none⟩ (.int .i64 a6)).setCell ⟨h + 1, 7, none⟩ (.int .i64 a7)).setCell ⟨h + 1, 9, none⟩ (.slice A n c)) ⟨h, 4, none⟩ = some (.int .i64 a4) ∧ World.cell? (((((w1.setCell ⟨h + 1, 4, none⟩ (.int .i64 a4)).setCell ⟨h + 1, 5, none⟩ (.int .i64 a5)).setCell ⟨h + 1, 6, none⟩ (.int .i64 a6)).setCell ⟨h + 1, 7, none⟩ (.int .i64 a7)).setCell ⟨h + 1, 9, none⟩ (.slice A n c)) ⟨h, 5, none⟩ = some (.int .i64 a5) ∧ World.cell? (((((w1.setCell ⟨h + 1, 4, none⟩ (.int .i64 a4)).setCell ⟨h + 1, 5, none⟩ (.int .i64 a5)).setCell ⟨h + 1, 6, none⟩ (.int .i64 a6)).setCell ⟨h + 1, 7, none⟩ (.int .i64 a7)).setCell ⟨h + 1, 9, none⟩ (.slice A n c)) ⟨h, 6, none⟩ = some (.int .i64 a6) ∧ World.cell? (((((w1.setCell ⟨h + 1, 4, none⟩ (.int .i64 a4)).setCell ⟨h + 1, 5, none⟩ (.int .i64 a5)).setCell ⟨h + 1, 6, none⟩ (.int .i64 a6)).setCell ⟨h + 1, 7, none⟩ (.int .i64 a7)).setCell ⟨h + 1, 9, none⟩ (.slice A n c)) ⟨h, 7, none⟩ = some (.int .i64 a7) ∧ World.cell? (((((w1.setCell ⟨h + 1, 4, none⟩ (.int .i64 a4)).setCell ⟨h + 1, 5, none⟩ (.int .i64 a5)).setCell ⟨h + 1, 6, none⟩ (.int .i64 a6)).setCell ⟨h + 1, 7, none⟩ (.int .i64 a7)).setCell ⟨h + 1, 9, none⟩ (.slice A n c)) ⟨h, 9, none⟩ = some (.slice A n c) := ⟨(cell_set_far _ hne).trans E4.1, (cell_set_far _ hne).trans E4.2.1, (cell_set_far _ hne).trans E4.2.2.1, (cell_set_far _ hne).trans E4.2.2.2.1, (cell_set_far _ hne).trans E4.2.2.2.2⟩
  have D5 : World.cell? (((((w1.setCell ⟨h + 1, 4, none⟩ (.int .i64 a4)).setCell ⟨h + 1, 5, none⟩ (.int .i64 a5)).setCell ⟨h + 1, 6, none⟩ (.int .i64 a6)).setCell ⟨h + 1, 7, none⟩ (.int .i64 a7)).setCell ⟨h + 1, 9, none⟩ (.slice A n c)).drew ⟨h, 4, none⟩ = some (.int .i64 a4) ∧ World.cell? (((((w1.setCell ⟨h + 1, 4, none⟩ (.int .i64 a4)).setCell ⟨h + 1, 5, none⟩ (.int .i64 a5)).setCell ⟨h + 1, 6, none⟩ (.int .i64 a6)).setCell ⟨h + 1, 7, none⟩ (.int .i64 a7)).setCell ⟨h + 1, 9, none⟩ (.slice A n c)).drew ⟨h, 5, none⟩ = some (.int .i64 a5) ∧ World.cell? (((((w1.setCell ⟨h + 1, 4, none⟩ (.int .i64 a4)).setCell ⟨h + 1, 5, none⟩ (.int .i64 a5)).setCell ⟨h + 1, 6, none⟩ (.int .i64 a6)).setCell ⟨h + 1, 7, none⟩ (.int .i64 a7)).setCell ⟨h + 1, 9, none⟩ (.slice A n c)).drew ⟨h, 6, none⟩ = some (.int .i64 a6) ∧ World.cell? (((((w1.setCell ⟨h + 1, 4, none⟩ (.int .i64 a4)).setCell ⟨h + 1, 5, none⟩ (.int .i64 a5)).setCell ⟨h + 1, 6, none⟩ (.int .i64 a6)).setCell ⟨h + 1, 7, none⟩ (.int .i64 a7)).setCell ⟨h + 1, 9, none⟩ (.slice A n c)).drew ⟨h, 7, none⟩ = some (.int .i64 a7) ∧ World.cell? (((((w1.setCell ⟨h + 1, 4, none⟩ (.int .i64 a4)).setCell ⟨h + 1, 5, none⟩ (.int .i64 a5)).setCell ⟨h + 1, 6, none⟩ (.int .i64 a6)).setCell ⟨h + 1, 7, none⟩ (.int .i64 a7)).setCell ⟨h + 1, 9, none⟩ (.slice A n c)).drew ⟨h, 9, none⟩ = some (.slice A n c) := ⟨(cellDrew3 _ _).trans E5.1, (cellDrew3 _ _).trans E5.2.1, (cellDrew3 _ _).trans E5.2.2.1, (cellDrew3 _ _).trans E5.2.2.2.1, (cellDrew3 _ _).trans E5.2.2.2.2⟩
  clear E0 E1 E2 E3 E4 E5
  go_region_held3 (fun w' => World.cell? w' ⟨h, 4, none⟩ = some (.int .i64 a4) ∧ World.cell? w' ⟨h, 5, none⟩ = some (.int .i64 a5) ∧ World.cell? w' ⟨h, 6, none⟩ = some (.int .i64 a6) ∧ World.cell? w' ⟨h, 7, none⟩ = some (.int .i64 a7) ∧ World.cell? w' ⟨h, 9, none⟩ = some (.slice A n c)) (first | (with_reducible exact ⟨c4, c5, c6, c7, c9⟩) | (with_reducible exact D1) | (with_reducible exact D2) | (with_reducible exact D3) | (with_reducible exact D4) | (with_reducible exact D5) | exact ⟨c4, c5, c6, c7, c9⟩) (fail)
  clear D1 D2 D3 D4
  obtain ⟨wx, hwx⟩ : ∃ z, z = (((((w1.setCell ⟨h + 1, 4, none⟩ (.int .i64 a4)).setCell ⟨h + 1, 5, none⟩ (.int .i64 a5)).setCell ⟨h + 1, 6, none⟩ (.int .i64 a6)).setCell ⟨h + 1, 7, none⟩ (.int .i64 a7)).setCell ⟨h + 1, 9, none⟩ (.slice A n c)).drew := ⟨_, rfl⟩
  have HXX : Hid (Below h w wx) := Lib.hid (by rw [hwx]; exact HX1.out.grown (((((((Chg.refl (h + 1) w1).trans (Chg.set (h + 1) _ 4 (.int .i64 a4))).trans (Chg.set (h + 1) _ 5 (.int .i64 a5))).trans (Chg.set (h + 1) _ 6 (.int .i64 a6))).trans (Chg.set (h + 1) _ 7 (.int .i64 a7))).trans (Chg.set (h + 1) _ 9 (.slice A n c))).trans (Chg.drew (h + 1) _)).1 (by omega) (fun k hk => by cases hk; omega))
  have HZX : Hid (Blk wx (h + 1) 27 _) := Lib.hid (by rw [hwx]; exact (((((HZ1.out.set 4 _).set 5 _).set 6 _).set 7 _).set 9 _))
  have b4 : wx.cell? ⟨h, 4, none⟩ = some (.int .i64 a4) := by rw [hwx]; exact D5.1
  have b5 : wx.cell? ⟨h, 5, none⟩ = some (.int .i64 a5) := by rw [hwx]; exact D5.2.1
  have b9 : wx.cell? ⟨h, 9, none⟩ = some (.slice A n c) := by rw [hwx]; exact D5.2.2.2.2
  rw [← hwx]
  clear hwx D5 z4 y4 z5 y5 z6 y6 z7 y7 z9 y9
  have HFO := Lib.hid (Follow_all wx A n c a4 a5 es HN.out hm hi (HR.out.ext HXX.out (by omega)))
  by_cases p1 : n ≤ 16
  · have p1i : (n : Int) ≤ 16 := by omega
    have HU9 : Hid (u = decide (runsE a4 a5 es)) := Lib.hid (by
      rw [HU.out]
      show decide (es.length ≤ 16 ∧ runsE a4 a5 es) = _
      rw [HN.out]
      exact decide_eq_decide.2 ⟨fun h => h.2, fun h => ⟨p1, h⟩⟩)
    rw [← HU9.out] at HFO
    clear HU HU9
    go_upto_region 19 with (go_at_call 40; refine HFO.out.mono ?_; rintro e wq ⟨rfl, hb9⟩)
    have HXQ : Hid (Below h w wq) := Lib.hid (HXX.out.trans (hb9.mono (by have := HXX.out.size; omega)))
    have HZQ : Hid (Blk wq (h + 1) 27 _) := Lib.hid (HZX.out.ext hb9 (Nat.le_refl _))
    have hu9 : u = u := rfl
    clear hb9 HFO HXX HZX b4 b5 b9
    obtain ⟨w9, hw9⟩ : ∃ w9, w9 = wq := ⟨_, rfl⟩
    have HX9 : Hid (Below h w w9) := Lib.hid (by rw [hw9]; exact HXQ.out)
    obtain rfl : v9 = .slice A n c := by rw [HV.out]; rfl
    have HZ9 : Hid (Blk w9 (h + 1) 27 (rpcC r (.slice A n c))) := Lib.hid (by rw [hw9, HRR.out]; skip; exact HZQ.out)
    rw [← hw9]
    clear hw9 HX1 HB1 HZ1 c0 c1 c2 c3 c4 c5 c6 c7 c8 c9 c10 c11 c12 HV HRR
    have z0 := HZ9.out.cell (o := 0) rfl
    have y0 := HZ9.out.froz 0
    have z1 := HZ9.out.cell (o := 1) rfl
    have y1 := HZ9.out.froz 1
    have z2 := HZ9.out.cell (o := 2) rfl
    have y2 := HZ9.out.froz 2
    have z3 := HZ9.out.cell (o := 3) rfl
    have y3 := HZ9.out.froz 3
    have z4 := HZ9.out.cell (o := 4) rfl
    have y4 := HZ9.out.froz 4
    have z5 := HZ9.out.cell (o := 5) rfl
    have y5 := HZ9.out.froz 5
    have z6 := HZ9.out.cell (o := 6) rfl
    have y6 := HZ9.out.froz 6
    have z7 := HZ9.out.cell (o := 7) rfl
    have y7 := HZ9.out.froz 7
    have z8 := HZ9.out.cell (o := 8) rfl
    have y8 := HZ9.out.froz 8
    have z9 := HZ9.out.cell (o := 9) rfl
    have y9 := HZ9.out.froz 9
    have z10 := HZ9.out.cell (o := 10) rfl
    have y10 := HZ9.out.froz 10
    have z11 := HZ9.out.cell (o := 11) rfl
    have y11 := HZ9.out.froz 11
    have z12 := HZ9.out.cell (o := 12) rfl
    have y12 := HZ9.out.froz 12
    have HE9 := Lib.hid (put13_blk (.int .i64 r.knd) (.int .i64 r.frm) (.int .i64 r.tto) (.int .i64 r.trm) (.int .i64 r.idx) (.int .i64 r.lgt) (.int .i64 r.com) (.int .i64 r.rnd) (.bool r.ok) (.slice A n c) (.int .i64 r.att) (.string r.dat) (.bool r.don) HZ9.out)
    have e0 := HE9.out.cell (o := 0) rfl
    have e1 := HE9.out.cell (o := 1) rfl
    have e2 := HE9.out.cell (o := 2) rfl
    have e3 := HE9.out.cell (o := 3) rfl
    have e4 := HE9.out.cell (o := 4) rfl
    have e5 := HE9.out.cell (o := 5) rfl
    have e6 := HE9.out.cell (o := 6) rfl
    have e7 := HE9.out.cell (o := 7) rfl
    have e8 := HE9.out.cell (o := 8) rfl
    have e9 := HE9.out.cell (o := 9) rfl
    have e10 := HE9.out.cell (o := 10) rfl
    have e11 := HE9.out.cell (o := 11) rfl
    have e12 := HE9.out.cell (o := 12) rfl
    unfold put13 at e0 e1 e2 e3 e4 e5 e6 e7 e8 e9 e10 e11 e12
    have HF9 : Hid (∀ w8, w8 = put13 w9 (h + 1) (.int .i64 r.knd) (.int .i64 r.frm) (.int .i64 r.tto) (.int .i64 r.trm) (.int .i64 r.idx) (.int .i64 r.lgt) (.int .i64 r.com) (.int .i64 r.rnd) (.bool r.ok) (.slice A n c) (.int .i64 r.att) (.string r.dat) (.bool r.don) → Below h w w8) := Lib.hid (fun w8 e8 => by rw [e8]; exact HX9.out.grown (put13_chg w9 (h + 1) (.int .i64 r.knd) (.int .i64 r.frm) (.int .i64 r.tto) (.int .i64 r.trm) (.int .i64 r.idx) (.int .i64 r.lgt) (.int .i64 r.com) (.int .i64 r.rnd) (.bool r.ok) (.slice A n c) (.int .i64 r.att) (.string r.dat) (.bool r.don)).1 (by have := HX9.out.size; omega) (fun k hk => by cases hk; omega))
    unfold put13 at HF9
    clear HX9 HZ9 HE9
    go_wp2_with fail
    show bodyPost Try.prog Try.f29 _ _ _ _
    refine bodyPost_ret (v := .tuple #[rpcV r (.slice A n c), .bool u]) (by simp [results, rpcV, Try.results29, go_sem, *]) rfl ?_
    first | exact ⟨rfl, HF9.out _ rfl⟩ | exact ⟨by rw [hu9]; rfl, by rw [hh]; exact HF9.out _ rfl⟩
  · have p1i : ¬ (n : Int) ≤ 16 := by omega
    have hu9 : u = false := by rw [HU.out]; exact decide_eq_false (fun h => p1 (by rw [← HN.out]; exact h.1))
    clear HU HFO
    go_upto_region 19 with (fail)
    clear b4 b5 b9
    obtain ⟨w9, hw9⟩ : ∃ w9, w9 = wx := ⟨_, rfl⟩
    have HX9 : Hid (Below h w w9) := Lib.hid (by rw [hw9]; exact HXX.out)
    obtain rfl : v9 = .slice A n c := by rw [HV.out]; rfl
    have HZ9 : Hid (Blk w9 (h + 1) 27 (rpcC r (.slice A n c))) := Lib.hid (by rw [hw9, HRR.out]; skip; exact HZX.out)
    rw [← hw9]
    clear hw9 HX1 HB1 HZ1 c0 c1 c2 c3 c4 c5 c6 c7 c8 c9 c10 c11 c12 HV HRR
    have z0 := HZ9.out.cell (o := 0) rfl
    have y0 := HZ9.out.froz 0
    have z1 := HZ9.out.cell (o := 1) rfl
    have y1 := HZ9.out.froz 1
    have z2 := HZ9.out.cell (o := 2) rfl
    have y2 := HZ9.out.froz 2
    have z3 := HZ9.out.cell (o := 3) rfl
    have y3 := HZ9.out.froz 3
    have z4 := HZ9.out.cell (o := 4) rfl
    have y4 := HZ9.out.froz 4
    have z5 := HZ9.out.cell (o := 5) rfl
    have y5 := HZ9.out.froz 5
    have z6 := HZ9.out.cell (o := 6) rfl
    have y6 := HZ9.out.froz 6
    have z7 := HZ9.out.cell (o := 7) rfl
    have y7 := HZ9.out.froz 7
    have z8 := HZ9.out.cell (o := 8) rfl
    have y8 := HZ9.out.froz 8
    have z9 := HZ9.out.cell (o := 9) rfl
    have y9 := HZ9.out.froz 9
    have z10 := HZ9.out.cell (o := 10) rfl
    have y10 := HZ9.out.froz 10
    have z11 := HZ9.out.cell (o := 11) rfl
    have y11 := HZ9.out.froz 11
    have z12 := HZ9.out.cell (o := 12) rfl
    have y12 := HZ9.out.froz 12
    have HE9 := Lib.hid (put13_blk (.int .i64 r.knd) (.int .i64 r.frm) (.int .i64 r.tto) (.int .i64 r.trm) (.int .i64 r.idx) (.int .i64 r.lgt) (.int .i64 r.com) (.int .i64 r.rnd) (.bool r.ok) (.slice A n c) (.int .i64 r.att) (.string r.dat) (.bool r.don) HZ9.out)
    have e0 := HE9.out.cell (o := 0) rfl
    have e1 := HE9.out.cell (o := 1) rfl
    have e2 := HE9.out.cell (o := 2) rfl
    have e3 := HE9.out.cell (o := 3) rfl
    have e4 := HE9.out.cell (o := 4) rfl
    have e5 := HE9.out.cell (o := 5) rfl
    have e6 := HE9.out.cell (o := 6) rfl
    have e7 := HE9.out.cell (o := 7) rfl
    have e8 := HE9.out.cell (o := 8) rfl
    have e9 := HE9.out.cell (o := 9) rfl
    have e10 := HE9.out.cell (o := 10) rfl
    have e11 := HE9.out.cell (o := 11) rfl
    have e12 := HE9.out.cell (o := 12) rfl
    unfold put13 at e0 e1 e2 e3 e4 e5 e6 e7 e8 e9 e10 e11 e12
    have HF9 : Hid (∀ w8, w8 = put13 w9 (h + 1) (.int .i64 r.knd) (.int .i64 r.frm) (.int .i64 r.tto) (.int .i64 r.trm) (.int .i64 r.idx) (.int .i64 r.lgt) (.int .i64 r.com) (.int .i64 r.rnd) (.bool r.ok) (.slice A n c) (.int .i64 r.att) (.string r.dat) (.bool r.don) → Below h w w8) := Lib.hid (fun w8 e8 => by rw [e8]; exact HX9.out.grown (put13_chg w9 (h + 1) (.int .i64 r.knd) (.int .i64 r.frm) (.int .i64 r.tto) (.int .i64 r.trm) (.int .i64 r.idx) (.int .i64 r.lgt) (.int .i64 r.com) (.int .i64 r.rnd) (.bool r.ok) (.slice A n c) (.int .i64 r.att) (.string r.dat) (.bool r.don)).1 (by have := HX9.out.size; omega) (fun k hk => by cases hk; omega))
    unfold put13 at HF9
    clear HX9 HZ9 HE9
    go_wp2_with fail
    show bodyPost Try.prog Try.f29 _ _ _ _
    refine bodyPost_ret (v := .tuple #[rpcV r (.slice A n c), .bool false]) (by simp [results, rpcV, Try.results29, go_sem, *]) rfl ?_
    first | exact ⟨rfl, HF9.out _ rfl⟩ | exact ⟨by rw [hu9]; rfl, by rw [hh]; exact HF9.out _ rfl⟩
end Go.Proofs.Ytdbpgcaoakoojaa
