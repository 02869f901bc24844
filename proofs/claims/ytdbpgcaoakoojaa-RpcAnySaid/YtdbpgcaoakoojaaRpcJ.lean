/- The walk of the reference's MayRpc, kind 3. -/
import Derived.Test.YtdbpgcaoakoojaaRpcI
set_option linter.unusedVariables false
set_option linter.unusedSimpArgs false
namespace Go.Proofs.Ytdbpgcaoakoojaa
open Go.RowKit Lec
set_option maxRecDepth 100000 in
set_option maxHeartbeats 8000000 in
theorem MayRpc3_yes (w : World) (a1 a2 a3 a4 a5 a6 a7 : Int) (es : List Ent) (n : Nat) (hn : es.length = n) (A : Option Addr) (c : Nat) (hr : Rds w A (entsC es))
    (h1 : 1 ≤ a1 ∧ a1 ≤ 7) (h2 : 1 ≤ a2 ∧ a2 ≤ 7) (h3 : 0 ≤ a3 ∧ a3 < 1099511627776) (h4n : 0 ≤ a4 ∧ a4 < 1099511627776) (h5n : 0 ≤ a5 ∧ a5 < 1099511627776) (h6n : 0 ≤ a6 ∧ a6 < 1099511627776) (h7n : 0 ≤ a7 ∧ a7 < 1099511627776) (hx : n ≤ 16 ∧ runsE a4 a5 es) :
    Calls Try.prog 11 #[rpcV ⟨3, a1, a2, a3, a4, a5, a6, a7, false, es, 0, ⟨#[]⟩, false⟩ (.slice A n c)] w fun e w' => e = .returned (.bool true) ∧ Below w.heap.size w w' := by
  have HR := Lib.hid hr
  have HN := Lib.hid hn
  have HXR := Lib.hid hx.2
  have hx16 := hx.1
  have hx16i : ¬ (16 : Int) < (n : Int) := by omega
  clear hr hn hx
  unfold rpcV
  dsimp only
  go_enter Try.func11, Try.ntmps11
  go_upto_region 2 with (fail)
  obtain ⟨h, hh⟩ : ∃ z, w.heap.size = z := ⟨_, rfl⟩
  obtain ⟨w1, hw1⟩ : ∃ z, z = (w.alloc (.cells #[.int .i64 3, .int .i64 a1, .int .i64 a2, .int .i64 a3, .int .i64 a4, .int .i64 a5, .int .i64 a6, .int .i64 a7, .bool false, .slice A n c, .int .i64 0, .string ⟨#[]⟩, .bool false] 27)).alloc (.cells #[.int .i64 3, .int .i64 a1, .int .i64 a2, .int .i64 a3, .int .i64 0, .int .i64 0, .int .i64 0, .int .i64 0, .bool false, .slice none 0 0, .int .i64 0, .string ⟨#[]⟩, .bool false] 27) := ⟨_, rfl⟩
  have HX1 : Hid (Below w.heap.size w w1) := Lib.hid (by rw [hw1]; exact ((Below.refl _ _).alloc (Nat.le_refl _) _).alloc (by simp) _)
  have HB1 : Hid (Blk w1 w.heap.size 27 [.int .i64 3, .int .i64 a1, .int .i64 a2, .int .i64 a3, .int .i64 a4, .int .i64 a5, .int .i64 a6, .int .i64 a7, .bool false, .slice A n c, .int .i64 0, .string ⟨#[]⟩, .bool false]) := Lib.hid (by rw [hw1]; exact (Blk.new w _ _).ext ((Below.refl _ _).alloc (Nat.le_refl _) _) (Nat.le_refl _))
  have HZ1 : Hid (Blk w1 (w.heap.size + 1) 27 [.int .i64 3, .int .i64 a1, .int .i64 a2, .int .i64 a3, .int .i64 0, .int .i64 0, .int .i64 0, .int .i64 0, .bool false, .slice none 0 0, .int .i64 0, .string ⟨#[]⟩, .bool false]) := Lib.hid (by rw [hw1]; have g := Blk.new (w.alloc (.cells #[.int .i64 3, .int .i64 a1, .int .i64 a2, .int .i64 a3, .int .i64 a4, .int .i64 a5, .int .i64 a6, .int .i64 a7, .bool false, .slice A n c, .int .i64 0, .string ⟨#[]⟩, .bool false] 27)) #[.int .i64 3, .int .i64 a1, .int .i64 a2, .int .i64 a3, .int .i64 0, .int .i64 0, .int .i64 0, .int .i64 0, .bool false, .slice none 0 0, .int .i64 0, .string ⟨#[]⟩, .bool false] 27; rwa [World.size_alloc] at g)
  have hs1 : w1.heap.size = w.heap.size + 2 := by rw [hw1, World.size_alloc, World.size_alloc]
  rw [← hw1]
  clear hw1
  rw [hh] at HX1 HB1 HZ1 hs1
  rw [hh]
  have hne : h ≠ h + 1 := by omega
  have c0 := HB1.out.cell (o := 0) rfl
  have c1 := HB1.out.cell (o := 1) rfl
  have c2 := HB1.out.cell (o := 2) rfl
  have c3 := HB1.out.cell (o := 3) rfl
  have c4 := HB1.out.cell (o := 4) rfl
  have c5 := HB1.out.cell (o := 5) rfl
  have c6 := HB1.out.cell (o := 6) rfl
  have c7 := HB1.out.cell (o := 7) rfl
  have c8 := HB1.out.cell (o := 8) rfl
  have c9 := HB1.out.cell (o := 9) rfl
  have c10 := HB1.out.cell (o := 10) rfl
  have c11 := HB1.out.cell (o := 11) rfl
  have c12 := HB1.out.cell (o := 12) rfl
  go_upto_region 11 with (first | (go_at_call 21; refine (rNode_yes _ _ (by omega)).mono ?_; rintro e wq ⟨rfl, rfl⟩) | (go_at_call 22; refine (rNum_yes _ _ (by omega)).mono ?_; rintro e wq ⟨rfl, rfl⟩))
  have z4 := HZ1.out.cell (o := 4) rfl
  have z5 := HZ1.out.cell (o := 5) rfl
  have z6 := HZ1.out.cell (o := 6) rfl
  have z7 := HZ1.out.cell (o := 7) rfl
  have z9 := HZ1.out.cell (o := 9) rfl
  have y4 := HZ1.out.froz 4
  have y5 := HZ1.out.froz 5
  have y6 := HZ1.out.froz 6
  have y7 := HZ1.out.froz 7
  have y9 := HZ1.out.froz 9
  have E0 : World.cell? w1 ⟨h, 4, none⟩ = some (.int .i64 a4) ∧ World.cell? w1 ⟨h, 5, none⟩ = some (.int .i64 a5) ∧ World.cell? w1 ⟨h, 6, none⟩ = some (.int .i64 a6) ∧ World.cell? w1 ⟨h, 7, none⟩ = some (.int .i64 a7) ∧ World.cell? w1 ⟨h, 9, none⟩ = some (.slice A n c) := ⟨c4, c5, c6, c7, c9⟩
  have E1 : World.cell? (w1.setCell ⟨h + 1, 4, none⟩ (.int .i64 a4)) ⟨h, 4, none⟩ = some (.int .i64 a4) ∧ World.cell? (w1.setCell ⟨h + 1, 4, none⟩ (.int .i64 a4)) ⟨h, 5, none⟩ = some (.int .i64 a5) ∧ World.cell? (w1.setCell ⟨h + 1, 4, none⟩ (.int .i64 a4)) ⟨h, 6, none⟩ = some (.int .i64 a6) ∧ World.cell? (w1.setCell ⟨h + 1, 4, none⟩ (.int .i64 a4)) ⟨h, 7, none⟩ = some (.int .i64 a7) ∧ World.cell? (w1.setCell ⟨h + 1, 4, none⟩ (.int .i64 a4)) ⟨h, 9, none⟩ = some (.slice A n c) := ⟨(cell_set_far _ hne).trans E0.1, (cell_set_far _ hne).trans E0.2.1, (cell_set_far _ hne).trans E0.2.2.1, (cell_set_far _ hne).trans E0.2.2.2.1, (cell_set_far _ hne).trans E0.2.2.2.2⟩
  have D1 : World.cell? (w1.setCell ⟨h + 1, 4, none⟩ (.int .i64 a4)).drew ⟨h, 4, none⟩ = some (.int .i64 a4) ∧ World.cell? (w1.setCell ⟨h + 1, 4, none⟩ (.int .i64 a4)).drew ⟨h, 5, none⟩ = some (.int .i64 a5) ∧ World.cell? (w1.setCell ⟨h + 1, 4, none⟩ (.int .i64 a4)).drew ⟨h, 6, none⟩ = some (.int .i64 a6) ∧ World.cell? (w1.setCell ⟨h + 1, 4, none⟩ (.int .i64 a4)).drew ⟨h, 7, none⟩ = some (.int .i64 a7) ∧ World.cell? (w1.setCell ⟨h + 1, 4, none⟩ (.int .i64 a4)).drew ⟨h, 9, none⟩ = some (.slice A n c) := ⟨(cellDrewI _ _).trans E1.1, (cellDrewI _ _).trans E1.2.1, (cellDrewI _ _).trans E1.2.2.1, (cellDrewI _ _).trans E1.2.2.2.1, (cellDrewI _ _).trans E1.2.2.2.2⟩
  have E2 : World.cell? ((w1.setCell ⟨h + 1, 4, none⟩ (.int .i64 a4)).setCell ⟨h + 1, 5, none⟩ (.int .i64 a5)) ⟨h, 4, none⟩ = some (.int .i64 a4) ∧ World.cell? ((w1.setCell ⟨h + 1, 4, none⟩ (.int .i64 a4)).setCell ⟨h + 1, 5, none⟩ (.int .i64 a5)) ⟨h, 5, none⟩ = some (.int .i64 a5) ∧ World.cell? ((w1.setCell ⟨h + 1, 4, none⟩ (.int .i64 a4)).setCell ⟨h + 1, 5, none⟩ (.int .i64 a5)) ⟨h, 6, none⟩ = some (.int .i64 a6) ∧ World.cell? ((w1.setCell ⟨h + 1, 4, none⟩ (.int .i64 a4)).setCell ⟨h + 1, 5, none⟩ (.int .i64 a5)) ⟨h, 7, none⟩ = some (.int .i64 a7) ∧ World.cell? ((w1.setCell ⟨h + 1, 4, none⟩ (.int .i64 a4)).setCell ⟨h + 1, 5, none⟩ (.int .i64 a5)) ⟨h, 9, none⟩ = some (.slice A n c) := ⟨(cell_set_far _ hne).trans E1.1, (cell_set_far _ hne).trans E1.2.1, (cell_set_far _ hne).trans E1.2.2.1, (cell_set_far _ hne).trans E1.2.2.2.1, (cell_set_far _ hne).trans E1.2.2.2.2⟩
  have D2 : World.cell? ((w1.setCell ⟨h + 1, 4, none⟩ (.int .i64 a4)).setCell ⟨h + 1, 5, none⟩ (.int .i64 a5)).drew ⟨h, 4, none⟩ = some (.int .i64 a4) ∧ World.cell? ((w1.setCell ⟨h + 1, 4, none⟩ (.int .i64 a4)).setCell ⟨h + 1, 5, none⟩ (.int .i64 a5)).drew ⟨h, 5, none⟩ = some (.int .i64 a5) ∧ World.cell? ((w1.setCell ⟨h + 1, 4, none⟩ (.int .i64 a4)).setCell ⟨h + 1, 5, none⟩ (.int .i64 a5)).drew ⟨h, 6, none⟩ = some (.int .i64 a6) ∧ World.cell? ((w1.setCell ⟨h + 1, 4, none⟩ (.int .i64 a4)).setCell ⟨h + 1, 5, none⟩ (.int .i64 a5)).drew ⟨h, 7, none⟩ = some (.int .i64 a7) ∧ World.cell? ((w1.setCell ⟨h + 1, 4, none⟩ (.int .i64 a4)).setCell ⟨h + 1, 5, none⟩ (.int .i64 a5)).drew ⟨h, 9, none⟩ = some (.slice A n c) := ⟨(cellDrewI _ _).trans E2.1, (cellDrewI _ _).trans E2.2.1, (cellDrewI _ _).trans E2.2.2.1, (cellDrewI _ _).trans E2.2.2.2.1, (cellDrewI _ _).trans E2.2.2.2.2⟩
  have E3 : World.cell? (((w1.setCell ⟨h + 1, 4, none⟩ (.int .i64 a4)).setCell ⟨h + 1, 5, none⟩ (.int .i64 a5)).setCell ⟨h + 1, 6, none⟩ (.int .i64 a6)) ⟨h, 4, none⟩ = some (.int .i64 a4) ∧ World.cell? (((w1.setCell ⟨h + 1, 4, none⟩ (.int .i64 a4)).setCell ⟨h + 1, 5, none⟩ (.int .i64 a5)).setCell ⟨h + 1, 6, none⟩ (.int .i64 a6)) ⟨h, 5, none⟩ = some (.int .i64 a5) ∧ World.cell? (((w1.setCell ⟨h + 1, 4, none⟩ (.int .i64 a4)).setCell ⟨h + 1, 5, none⟩ (.int .i64 a5)).setCell ⟨h + 1, 6, none⟩ (.int .i64 a6)) ⟨h, 6, none⟩ = some (.int .i64 a6) ∧ World.cell? (((w1.setCell ⟨h + 1, 4, none⟩ (.int .i64 a4)).setCell ⟨h + 1, 5, none⟩ (.int .i64 a5)).setCell ⟨h + 1, 6, none⟩ (.int .i64 a6)) ⟨h, 7, none⟩ = some (.int .i64 a7) ∧ World.cell? (((w1.setCell ⟨h + 1, 4, none⟩ (.int .i64 a4)).setCell ⟨h + 1, 5, none⟩ (.int .i64 a5)).setCell ⟨h + 1, 6, none⟩ (.int .i64 a6)) ⟨h, 9, none⟩ = some (.slice A n c) := ⟨(cell_set_far _ hne).trans E2.1, (cell_set_far _ hne).trans E2.2.1, (cell_set_far _ hne).trans E2.2.2.1, (cell_set_far _ hne).trans E2.2.2.2.1, (cell_set_far _ hne).trans E2.2.2.2.2⟩
  have D3 : World.cell? (((w1.setCell ⟨h + 1, 4, none⟩ (.int .i64 a4)).setCell ⟨h + 1, 5, none⟩ (.int .i64 a5)).setCell ⟨h + 1, 6, none⟩ (.int .i64 a6)).drew ⟨h, 4, none⟩ = some (.int .i64 a4) ∧ World.cell? (((w1.setCell ⟨h + 1, 4, none⟩ (.int .i64 a4)).setCell ⟨h + 1, 5, none⟩ (.int .i64 a5)).setCell ⟨h + 1, 6, none⟩ (.int .i64 a6)).drew ⟨h, 5, none⟩ = some (.int .i64 a5) ∧ World.cell? (((w1.setCell ⟨h + 1, 4, none⟩ (.int .i64 a4)).setCell ⟨h + 1, 5, none⟩ (.int .i64 a5)).setCell ⟨h + 1, 6, none⟩ (.int .i64 a6)).drew ⟨h, 6, none⟩ = some (.int .i64 a6) ∧ World.cell? (((w1.setCell ⟨h + 1, 4, none⟩ (.int .i64 a4)).setCell ⟨h + 1, 5, none⟩ (.int .i64 a5)).setCell ⟨h + 1, 6, none⟩ (.int .i64 a6)).drew ⟨h, 7, none⟩ = some (.int .i64 a7) ∧ World.cell? (((w1.setCell ⟨h + 1, 4, none⟩ (.int .i64 a4)).setCell ⟨h + 1, 5, none⟩ (.int .i64 a5)).setCell ⟨h + 1, 6, none⟩ (.int .i64 a6)).drew ⟨h, 9, none⟩ = some (.slice A n c) := ⟨(cellDrewI _ _).trans E3.1, (cellDrewI _ _).trans E3.2.1, (cellDrewI _ _).trans E3.2.2.1, (cellDrewI _ _).trans E3.2.2.2.1, (cellDrewI _ _).trans E3.2.2.2.2⟩
  have E4 : World.cell? ((((w1.setCell ⟨h + 1, 4, none⟩ (.int .i64 a4)).setCell ⟨h + 1, 5, none⟩ (.int .i64 a5)).setCell ⟨h + 1, 6, none⟩ (.int .i64 a6)).setCell ⟨h + 1, 7, none⟩ (.int .i64 a7)) ⟨h, 4, none⟩ = some (.int .i64 a4) ∧ World.cell? ((((w1.setCell ⟨h + 1, 4, none⟩ (.int .i64 a4)).setCell ⟨h + 1, 5, none⟩ (.int .i64 a5)).setCell ⟨h + 1, 6, none⟩ (.int .i64 a6)).setCell ⟨h + 1, 7, none⟩ (.int .i64 a7)) ⟨h, 5, none⟩ = some (.int .i64 a5) ∧ World.cell? ((((w1.setCell ⟨h + 1, 4, none⟩ (.int .i64 a4)).setCell ⟨h + 1, 5, none⟩ (.int .i64 a5)).setCell ⟨h + 1, 6, none⟩ (.int .i64 a6)).setCell ⟨h + 1, 7, none⟩ (.int .i64 a7)) ⟨h, 6, none⟩ = some (.int .i64 a6) ∧ World.cell? ((((w1.setCell ⟨h + 1, 4, none⟩ (.int .i64 a4)).setCell ⟨h + 1, 5, none⟩ (.int .i64 a5)).setCell ⟨h + 1, 6, none⟩ (.int .i64 a6)).setCell ⟨h + 1, 7, none⟩ (.int .i64 a7)) ⟨h, 7, none⟩ = some (.int .i64 a7) ∧ World.cell? ((((w1.setCell ⟨h + 1, 4, none⟩ (.int .i64 a4)).setCell ⟨h + 1, 5, none⟩ (.int .i64 a5)).setCell ⟨h + 1, 6, none⟩ (.int .i64 a6)).setCell ⟨h + 1, 7, none⟩ (.int .i64 a7)) ⟨h, 9, none⟩ = some (.slice A n c) := ⟨(cell_set_far _ hne).trans E3.1, (cell_set_far _ hne).trans E3.2.1, (cell_set_far _ hne).trans E3.2.2.1, (cell_set_far _ hne).trans E3.2.2.2.1, (cell_set_far _ hne).trans E3.2.2.2.2⟩
  have D4 : World.cell? ((((w1.setCell ⟨h + 1, 4, none⟩ (.int .i64 a4)).setCell ⟨h + 1, 5, none⟩ (.int .i64 a5)).setCell ⟨h + 1, 6, none⟩ (.int .i64 a6)).setCell ⟨h + 1, 7, none⟩ (.int .i64 a7)).drew ⟨h, 4, none⟩ = some (.int .i64 a4) ∧ World.cell? ((((w1.setCell ⟨h + 1, 4, none⟩ (.int .i64 a4)).setCell ⟨h + 1, 5, none⟩ (.int .i64 a5)).setCell ⟨h + 1, 6, none⟩ (.int .i64 a6)).setCell ⟨h + 1, 7, none⟩ (.int .i64 a7)).drew ⟨h, 5, none⟩ = some (.int .i64 a5) ∧ World.cell? ((((w1.setCell ⟨h + 1, 4, none⟩ (.int .i64 a4)).setCell ⟨h + 1, 5, none⟩ (.int .i64 a5)).setCell ⟨h + 1, 6, none⟩ (.int .i64 a6)).setCell ⟨h + 1, 7, none⟩ (.int .i64 a7)).drew ⟨h, 6, none⟩ = some (.int .i64 a6) ∧ World.cell? ((((w1.setCell ⟨h + 1, 4, none⟩ (.int .i64 a4)).setCell ⟨h + 1, 5, none⟩ (.int .i64 a5)).setCell ⟨h + 1, 6, none⟩ (.int .i64 a6)).setCell ⟨h + 1, 7, none⟩ (.int .i64 a7)).drew ⟨h, 7, none⟩ = some (.int .i64 a7) ∧ World.cell? ((((w1.setCell ⟨h + 1, 4, none⟩ (.int .i64 a4)).setCell ⟨h + 1, 5, none⟩ (.int .i64 a5)).setCell ⟨h + 1, 6, none⟩ (.int .i64 a6)).setCell ⟨h + 1, 7, none⟩ (.int .i64 a7)).drew ⟨h, 9, none⟩ = some (.slice A n c) := ⟨(cellDrewI _ _).trans E4.1, (cellDrewI _ _).trans E4.2.1, (cellDrewI _ _).trans E4.2.2.1, (cellDrewI _ _).trans E4.2.2.2.1, (cellDrewI _ _).trans E4.2.2.2.2⟩
  have E5 : World.cell? (((((w1.setCell ⟨h + 1, 4, none⟩ (.int .i64 a4)).setCell ⟨h + 1, 5, none⟩ (.int .i64 a5)).setCell ⟨h + 1, 6, none⟩ (.int .i64 a6)).setCell ⟨h + 1, 7, none⟩ (.int .i64 a7)).setCell ⟨h + 1, 9, none⟩ (.slice A n c)) ⟨h, 4, none⟩ = some (.int .i64 a4) ∧ World.cell? (((((w1.setCell ⟨h + 1, 4, none⟩ (.int .i64 a4)).setCell ⟨h + 1, 5, none⟩ (.int .i64 a5)).setCell ⟨h + 1, 6, none⟩ (.int .i64 a6)).setCell ⟨h + 1, 7, none⟩ (.int .i64 a7)).setCell ⟨h + 1, 9, none⟩ (.slice A n c)) ⟨h, 5, none⟩ = some (.int .i64 a5) ∧ World.cell? (((((w1.setCell ⟨h + 1, 4, none⟩ (.int .i64 a4)).setCell ⟨h + 1, 5, none⟩ (.int .i64 a5)).setCell ⟨h + 1, 6, none⟩ (.int .i64 a6)).setCell ⟨h + 1, 7, none⟩ (.int .i64 a7)).setCell ⟨h + 1, 9, none⟩ (.slice A n c)) ⟨h, 6, none⟩ = some (.int .i64 a6) ∧ World.cell? (((((w1.setCell ⟨h + 1, 4, none⟩ (.int .i64 a4)).setCell ⟨h + 1, 5, none⟩ (.int .i64 a5)).setCell ⟨h + 1, 6, none⟩ (.int .i64 a6)).setCell ⟨h + 1, 7, none⟩ (.int .i64 a7)).setCell ⟨h + 1, 9, none⟩ (.slice A n c)) ⟨h, 7, none⟩ = some (.int .i64 a7) ∧ World.cell? (((((w1.setCell ⟨h + 1, 4, none⟩ (.int .i64 a4)).setCell ⟨h + 1, 5, none⟩ (.int .i64 a5)).setCell ⟨h + 1, 6, none⟩ (.int .i64 a6)).setCell ⟨h + 1, 7, none⟩ (.int .i64 a7)).setCell ⟨h + 1, 9, none⟩ (.slice A n c)) ⟨h, 9, none⟩ = some (.slice A n c) := ⟨(cell_set_far _ hne).trans E4.1, (cell_set_far _ hne).trans E4.2.1, (cell_set_far _ hne).trans E4.2.2.1, (cell_set_far _ hne).trans E4.2.2.2.1, (cell_set_far _ hne).trans E4.2.2.2.2⟩
  have D5 : World.cell? (((((w1.setCell ⟨h + 1, 4, none⟩ (.int .i64 a4)).setCell ⟨h + 1, 5, none⟩ (.int .i64 a5)).setCell ⟨h + 1, 6, none⟩ (.int .i64 a6)).setCell ⟨h + 1, 7, none⟩ (.int .i64 a7)).setCell ⟨h + 1, 9, none⟩ (.slice A n c)).drew ⟨h, 4, none⟩ = some (.int .i64 a4) ∧ World.cell? (((((w1.setCell ⟨h + 1, 4, none⟩ (.int .i64 a4)).setCell ⟨h + 1, 5, none⟩ (.int .i64 a5)).setCell ⟨h + 1, 6, none⟩ (.int .i64 a6)).setCell ⟨h + 1, 7, none⟩ (.int .i64 a7)).setCell ⟨h + 1, 9, none⟩ (.slice A n c)).drew ⟨h, 5, none⟩ = some (.int .i64 a5) ∧ World.cell? (((((w1.setCell ⟨h + 1, 4, none⟩ (.int .i64 a4)).setCell ⟨h + 1, 5, none⟩ (.int .i64 a5)).setCell ⟨h + 1, 6, none⟩ (.int .i64 a6)).setCell ⟨h + 1, 7, none⟩ (.int .i64 a7)).setCell ⟨h + 1, 9, none⟩ (.slice A n c)).drew ⟨h, 6, none⟩ = some (.int .i64 a6) ∧ World.cell? (((((w1.setCell ⟨h + 1, 4, none⟩ (.int .i64 a4)).setCell ⟨h + 1, 5, none⟩ (.int .i64 a5)).setCell ⟨h + 1, 6, none⟩ (.int .i64 a6)).setCell ⟨h + 1, 7, none⟩ (.int .i64 a7)).setCell ⟨h + 1, 9, none⟩ (.slice A n c)).drew ⟨h, 7, none⟩ = some (.int .i64 a7) ∧ World.cell? (((((w1.setCell ⟨h + 1, 4, none⟩ (.int .i64 a4)).setCell ⟨h + 1, 5, none⟩ (.int .i64 a5)).setCell ⟨h + 1, 6, none⟩ (.int .i64 a6)).setCell ⟨h + 1, 7, none⟩ (.int .i64 a7)).setCell ⟨h + 1, 9, none⟩ (.slice A n c)).drew ⟨h, 9, none⟩ = some (.slice A n c) := ⟨(cellDrewI _ _).trans E5.1, (cellDrewI _ _).trans E5.2.1, (cellDrewI _ _).trans E5.2.2.1, (cellDrewI _ _).trans E5.2.2.2.1, (cellDrewI _ _).trans E5.2.2.2.2⟩
  clear E0 E1 E2 E3 E4 E5
  go_region_held3 (fun w' => World.cell? w' ⟨h, 4, none⟩ = some (.int .i64 a4) ∧ World.cell? w' ⟨h, 5, none⟩ = some (.int .i64 a5) ∧ World.cell? w' ⟨h, 6, none⟩ = some (.int .i64 a6) ∧ World.cell? w' ⟨h, 7, none⟩ = some (.int .i64 a7) ∧ World.cell? w' ⟨h, 9, none⟩ = some (.slice A n c)) (first | (with_reducible exact ⟨c4, c5, c6, c7, c9⟩) | (with_reducible exact D1) | (with_reducible exact D2) | (with_reducible exact D3) | (with_reducible exact D4) | (with_reducible exact D5) | exact ⟨c4, c5, c6, c7, c9⟩) (fail)
  clear D1 D2 D3 D4 D5
  obtain ⟨wx, hwx⟩ : ∃ z, z = (((((w1.setCell ⟨h + 1, 4, none⟩ (.int .i64 a4)).setCell ⟨h + 1, 5, none⟩ (.int .i64 a5)).setCell ⟨h + 1, 6, none⟩ (.int .i64 a6)).setCell ⟨h + 1, 7, none⟩ (.int .i64 a7)).setCell ⟨h + 1, 9, none⟩ (.slice A n c)).drew := ⟨_, rfl⟩
  have HCH : Chg (h + 1) w1 wx := by rw [hwx]; exact ((((((Chg.refl (h + 1) w1).trans (Chg.set (h + 1) _ 4 (.int .i64 a4))).trans (Chg.set (h + 1) _ 5 (.int .i64 a5))).trans (Chg.set (h + 1) _ 6 (.int .i64 a6))).trans (Chg.set (h + 1) _ 7 (.int .i64 a7))).trans (Chg.set (h + 1) _ 9 (.slice A n c))).trans (Chg.drew (h + 1) _)
  have HXX : Hid (Below h w wx) := Lib.hid (HX1.out.grown HCH.1 (by omega) (fun k hk => by cases hk; omega))
  have HBX : Hid (Blk wx h 27 [.int .i64 3, .int .i64 a1, .int .i64 a2, .int .i64 a3, .int .i64 a4, .int .i64 a5, .int .i64 a6, .int .i64 a7, .bool false, .slice A n c, .int .i64 0, .string ⟨#[]⟩, .bool false]) := Lib.hid (HCH.blk HB1.out (by omega))
  have HZX : Hid (Blk wx (h + 1) 27 [.int .i64 3, .int .i64 a1, .int .i64 a2, .int .i64 a3, .int .i64 a4, .int .i64 a5, .int .i64 a6, .int .i64 a7, .bool false, .slice A n c, .int .i64 0, .string ⟨#[]⟩, .bool false]) := Lib.hid (by rw [hwx]; exact blkDrewI ((((((HZ1.out.set 4 _).set 5 _).set 6 _).set 7 _).set 9 _)))
  have hsx : w1.heap.size = wx.heap.size := HCH.2.symm
  rw [← hwx]
  clear hwx HCH z4 y4 z5 y5 z6 y6 z7 y7 z9 y9 c0 c1 c2 c3 c4 c5 c6 c7 c8 c9 c10 c11 c12 HB1 HZ1 HX1
  have c0 := HBX.out.cell (o := 0) rfl
  have c1 := HBX.out.cell (o := 1) rfl
  have c2 := HBX.out.cell (o := 2) rfl
  have c3 := HBX.out.cell (o := 3) rfl
  have c4 := HBX.out.cell (o := 4) rfl
  have c5 := HBX.out.cell (o := 5) rfl
  have c6 := HBX.out.cell (o := 6) rfl
  have c7 := HBX.out.cell (o := 7) rfl
  have c8 := HBX.out.cell (o := 8) rfl
  have c9 := HBX.out.cell (o := 9) rfl
  have c10 := HBX.out.cell (o := 10) rfl
  have c11 := HBX.out.cell (o := 11) rfl
  have c12 := HBX.out.cell (o := 12) rfl
  have z0 := HZX.out.cell (o := 0) rfl
  have z1 := HZX.out.cell (o := 1) rfl
  have z2 := HZX.out.cell (o := 2) rfl
  have z3 := HZX.out.cell (o := 3) rfl
  have z4 := HZX.out.cell (o := 4) rfl
  have z5 := HZX.out.cell (o := 5) rfl
  have z6 := HZX.out.cell (o := 6) rfl
  have z7 := HZX.out.cell (o := 7) rfl
  have z8 := HZX.out.cell (o := 8) rfl
  have z9 := HZX.out.cell (o := 9) rfl
  have z10 := HZX.out.cell (o := 10) rfl
  have z11 := HZX.out.cell (o := 11) rfl
  have z12 := HZX.out.cell (o := 12) rfl
  have HRX := Lib.hid (HR.out.ext HXX.out (by omega))
  have HRU := Lib.hid (rRuns_any wx A n c a4 a5 es HN.out (by omega) (by omega) HRX.out true (decide_eq_true HXR.out))
  go_upto_region 22 with (go_at_call 23; refine HRU.out.mono ?_; rintro e wy ⟨rfl, hby⟩)
  have HXY : Hid (Below h w wy) := Lib.hid (HXX.out.trans (hby.mono (by omega)))
  have HBY := Lib.hid (HBX.out.ext hby (Nat.le_refl _))
  have HZY := Lib.hid (HZX.out.ext hby (Nat.le_refl _))
  have HRY := Lib.hid (HRX.out.ext hby (Nat.le_refl _))
  clear hby HXX HBX HZX HRX HRU c0 z0 c1 z1 c2 z2 c3 z3 c4 z4 c5 z5 c6 z6 c7 z7 c8 z8 c9 z9 c10 z10 c11 z11 c12 z12
  have c0 := HBY.out.cell (o := 0) rfl
  have c1 := HBY.out.cell (o := 1) rfl
  have c2 := HBY.out.cell (o := 2) rfl
  have c3 := HBY.out.cell (o := 3) rfl
  have c4 := HBY.out.cell (o := 4) rfl
  have c5 := HBY.out.cell (o := 5) rfl
  have c6 := HBY.out.cell (o := 6) rfl
  have c7 := HBY.out.cell (o := 7) rfl
  have c8 := HBY.out.cell (o := 8) rfl
  have c9 := HBY.out.cell (o := 9) rfl
  have c10 := HBY.out.cell (o := 10) rfl
  have c11 := HBY.out.cell (o := 11) rfl
  have c12 := HBY.out.cell (o := 12) rfl
  have z0 := HZY.out.cell (o := 0) rfl
  have z1 := HZY.out.cell (o := 1) rfl
  have z2 := HZY.out.cell (o := 2) rfl
  have z3 := HZY.out.cell (o := 3) rfl
  have z4 := HZY.out.cell (o := 4) rfl
  have z5 := HZY.out.cell (o := 5) rfl
  have z6 := HZY.out.cell (o := 6) rfl
  have z7 := HZY.out.cell (o := 7) rfl
  have z8 := HZY.out.cell (o := 8) rfl
  have z9 := HZY.out.cell (o := 9) rfl
  have z10 := HZY.out.cell (o := 10) rfl
  have z11 := HZY.out.cell (o := 11) rfl
  have z12 := HZY.out.cell (o := 12) rfl
  have HEQ := Lib.hid (EqRpc_eq wy ⟨3, a1, a2, a3, a4, a5, a6, a7, false, es, 0, ⟨#[]⟩, false⟩ n HN.out A c HRY.out A c HRY.out (by omega))
  unfold rpcV at HEQ
  dsimp only at HEQ
  go_wp2_with (go_at_call 9; refine HEQ.out.mono ?_; rintro e wz ⟨rfl, hbz⟩)
  go_ret
  rw [hh]
  exact ⟨rfl, HXY.out.trans (hbz.mono (by have := HXY.out.size; omega))⟩
end Go.Proofs.Ytdbpgcaoakoojaa
