/- The walk of the reference's MayRpc, for messages that may be. -/
import Derived.Test.YtdbpgcaoakoojaaRpcX
import Derived.Test.YtdbpgcaoakoojaaRpcH
import Derived.Test.YtdbpgcaoakoojaaEntR
set_option linter.unusedVariables false
set_option linter.unusedSimpArgs false
namespace Go.Proofs.Ytdbpgcaoakoojaa
open Go.RowKit Lec
theorem rNode_yes (w : World) (n : Int) (h : 1 ≤ n ∧ n ≤ 7) : Calls Try.prog 21 #[.int .i64 n] w fun e w' => e = .returned (.bool true) ∧ w = w' := by
  obtain ⟨h1, h2⟩ := h
  go_enter Try.func21, Try.ntmps21
  go_wp2
  go_ret
  exact ⟨by first | rfl | simp, rfl⟩
theorem rNum_yes (w : World) (n : Int) (h : 0 ≤ n ∧ n < 1099511627776) : Calls Try.prog 22 #[.int .i64 n] w fun e w' => e = .returned (.bool true) ∧ w = w' := by
  obtain ⟨h1, h2⟩ := h
  go_enter Try.func22, Try.ntmps22
  go_wp2
  go_ret
  exact ⟨by first | rfl | simp, rfl⟩
theorem cellDrewI (w : World) (a : Addr) : w.drew.cell? a = w.cell? a := rfl
theorem blkDrewI {w : World} {g : Nat} {T : TypeId} {xs : List Value} (h : Blk w g T xs) : Blk w.drew g T xs := h
set_option maxRecDepth 100000 in
set_option maxHeartbeats 8000000 in
theorem MayRpc1_yes (w : World) (a1 a2 a3 a4 a5 : Int) (A : Option Addr) (c : Nat)
    (h1 : 1 ≤ a1 ∧ a1 ≤ 7) (h2 : 1 ≤ a2 ∧ a2 ≤ 7) (h3 : 0 ≤ a3 ∧ a3 < 1099511627776) (h4n : 0 ≤ a4 ∧ a4 < 1099511627776) (h5n : 0 ≤ a5 ∧ a5 < 1099511627776) :
    Calls Try.prog 11 #[rpcV ⟨1, a1, a2, a3, a4, a5, 0, 0, false, [], 0, ⟨#[]⟩, false⟩ (.slice A 0 c)] w fun e w' => e = .returned (.bool true) ∧ Below w.heap.size w w' := by
  unfold rpcV
  dsimp only
  go_enter Try.func11, Try.ntmps11
  go_upto_region 2 with (fail)
  obtain ⟨h, hh⟩ : ∃ z, w.heap.size = z := ⟨_, rfl⟩
  obtain ⟨w1, hw1⟩ : ∃ z, z = (w.alloc (.cells #[.int .i64 1, .int .i64 a1, .int .i64 a2, .int .i64 a3, .int .i64 a4, .int .i64 a5, .int .i64 0, .int .i64 0, .bool false, .slice A 0 c, .int .i64 0, .string ⟨#[]⟩, .bool false] 27)).alloc (.cells #[.int .i64 1, .int .i64 a1, .int .i64 a2, .int .i64 a3, .int .i64 0, .int .i64 0, .int .i64 0, .int .i64 0, .bool false, .slice none 0 0, .int .i64 0, .string ⟨#[]⟩, .bool false] 27) := ⟨_, rfl⟩
  have HX1 : Hid (Below w.heap.size w w1) := Lib.hid (by rw [hw1]; exact ((Below.refl _ _).alloc (Nat.le_refl _) _).alloc (by simp) _)
  have HB1 : Hid (Blk w1 w.heap.size 27 [.int .i64 1, .int .i64 a1, .int .i64 a2, .int .i64 a3, .int .i64 a4, .int .i64 a5, .int .i64 0, .int .i64 0, .bool false, .slice A 0 c, .int .i64 0, .string ⟨#[]⟩, .bool false]) := Lib.hid (by rw [hw1]; exact (Blk.new w _ _).ext ((Below.refl _ _).alloc (Nat.le_refl _) _) (Nat.le_refl _))
  have HZ1 : Hid (Blk w1 (w.heap.size + 1) 27 [.int .i64 1, .int .i64 a1, .int .i64 a2, .int .i64 a3, .int .i64 0, .int .i64 0, .int .i64 0, .int .i64 0, .bool false, .slice none 0 0, .int .i64 0, .string ⟨#[]⟩, .bool false]) := Lib.hid (by rw [hw1]; have g := Blk.new (w.alloc (.cells #[.int .i64 1, .int .i64 a1, .int .i64 a2, .int .i64 a3, .int .i64 a4, .int .i64 a5, .int .i64 0, .int .i64 0, .bool false, .slice A 0 c, .int .i64 0, .string ⟨#[]⟩, .bool false] 27)) #[.int .i64 1, .int .i64 a1, .int .i64 a2, .int .i64 a3, .int .i64 0, .int .i64 0, .int .i64 0, .int .i64 0, .bool false, .slice none 0 0, .int .i64 0, .string ⟨#[]⟩, .bool false] 27; rwa [World.size_alloc] at g)
  have hs1 : w1.heap.size = w.heap.size + 2 := by rw [hw1, World.size_alloc, World.size_alloc]
  rw [← hw1]
  clear hw1
  rw [hh] at HX1 HB1 HZ1 hs1
  rw [hh]
  have hne : h ≠ h + 1 := by omega
  have c0 := HB1.out.cell (o := 0) rfl
  have c1 := HB1.out.cell (o := 1) rfl
  have c2 := HB1.out.cell (o := 2) rfl
  have c3 := HB1.out.cell (o := 3) rfl
  have c4 := HB1.out.cell (o := 4) rfl
  have c5 := HB1.out.cell (o := 5) rfl
  have c6 := HB1.out.cell (o := 6) rfl
  have c7 := HB1.out.cell (o := 7) rfl
  have c8 := HB1.out.cell (o := 8) rfl
  have c9 := HB1.out.cell (o := 9) rfl
  have c10 := HB1.out.cell (o := 10) rfl
  have c11 := HB1.out.cell (o := 11) rfl
  have c12 := HB1.out.cell (o := 12) rfl
  go_upto_region 7 with (first | (go_at_call 21; refine (rNode_yes _ _ (by omega)).mono ?_; rintro e wq ⟨rfl, rfl⟩) | (go_at_call 22; refine (rNum_yes _ _ (by omega)).mono ?_; rintro e wq ⟨rfl, rfl⟩))
  have z4 := HZ1.out.cell (o := 4) rfl
  have z5 := HZ1.out.cell (o := 5) rfl
  have y4 := HZ1.out.froz 4
  have y5 := HZ1.out.froz 5
  have E0 : World.cell? w1 ⟨h, 4, none⟩ = some (.int .i64 a4) ∧ World.cell? w1 ⟨h, 5, none⟩ = some (.int .i64 a5) := ⟨c4, c5⟩
  have E1 : World.cell? (w1.setCell ⟨h + 1, 4, none⟩ (.int .i64 a4)) ⟨h, 4, none⟩ = some (.int .i64 a4) ∧ World.cell? (w1.setCell ⟨h + 1, 4, none⟩ (.int .i64 a4)) ⟨h, 5, none⟩ = some (.int .i64 a5) := ⟨(cell_set_far _ hne).trans E0.1, (cell_set_far _ hne).trans E0.2⟩
  have D1 : World.cell? (w1.setCell ⟨h + 1, 4, none⟩ (.int .i64 a4)).drew ⟨h, 4, none⟩ = some (.int .i64 a4) ∧ World.cell? (w1.setCell ⟨h + 1, 4, none⟩ (.int .i64 a4)).drew ⟨h, 5, none⟩ = some (.int .i64 a5) := ⟨(cellDrewI _ _).trans E1.1, (cellDrewI _ _).trans E1.2⟩
  have E2 : World.cell? ((w1.setCell ⟨h + 1, 4, none⟩ (.int .i64 a4)).setCell ⟨h + 1, 5, none⟩ (.int .i64 a5)) ⟨h, 4, none⟩ = some (.int .i64 a4) ∧ World.cell? ((w1.setCell ⟨h + 1, 4, none⟩ (.int .i64 a4)).setCell ⟨h + 1, 5, none⟩ (.int .i64 a5)) ⟨h, 5, none⟩ = some (.int .i64 a5) := ⟨(cell_set_far _ hne).trans E1.1, (cell_set_far _ hne).trans E1.2⟩
  have D2 : World.cell? ((w1.setCell ⟨h + 1, 4, none⟩ (.int .i64 a4)).setCell ⟨h + 1, 5, none⟩ (.int .i64 a5)).drew ⟨h, 4, none⟩ = some (.int .i64 a4) ∧ World.cell? ((w1.setCell ⟨h + 1, 4, none⟩ (.int .i64 a4)).setCell ⟨h + 1, 5, none⟩ (.int .i64 a5)).drew ⟨h, 5, none⟩ = some (.int .i64 a5) := ⟨(cellDrewI _ _).trans E2.1, (cellDrewI _ _).trans E2.2⟩
  clear E0 E1 E2
  go_region_held3 (fun w' => World.cell? w' ⟨h, 4, none⟩ = some (.int .i64 a4) ∧ World.cell? w' ⟨h, 5, none⟩ = some (.int .i64 a5)) (first | (with_reducible exact ⟨c4, c5⟩) | (with_reducible exact D1) | (with_reducible exact D2) | exact ⟨c4, c5⟩) (fail)
  clear D1 D2
  obtain ⟨wx, hwx⟩ : ∃ z, z = ((w1.setCell ⟨h + 1, 4, none⟩ (.int .i64 a4)).setCell ⟨h + 1, 5, none⟩ (.int .i64 a5)).drew := ⟨_, rfl⟩
  have HCH : Chg (h + 1) w1 wx := by rw [hwx]; exact (((Chg.refl (h + 1) w1).trans (Chg.set (h + 1) _ 4 (.int .i64 a4))).trans (Chg.set (h + 1) _ 5 (.int .i64 a5))).trans (Chg.drew (h + 1) _)
  have HXX : Hid (Below h w wx) := Lib.hid (HX1.out.grown HCH.1 (by omega) (fun k hk => by cases hk; omega))
  have HBX : Hid (Blk wx h 27 [.int .i64 1, .int .i64 a1, .int .i64 a2, .int .i64 a3, .int .i64 a4, .int .i64 a5, .int .i64 0, .int .i64 0, .bool false, .slice A 0 c, .int .i64 0, .string ⟨#[]⟩, .bool false]) := Lib.hid (HCH.blk HB1.out (by omega))
  have HZX : Hid (Blk wx (h + 1) 27 [.int .i64 1, .int .i64 a1, .int .i64 a2, .int .i64 a3, .int .i64 a4, .int .i64 a5, .int .i64 0, .int .i64 0, .bool false, .slice none 0 0, .int .i64 0, .string ⟨#[]⟩, .bool false]) := Lib.hid (by rw [hwx]; exact blkDrewI (((HZ1.out.set 4 _).set 5 _)))
  have hsx : w1.heap.size = wx.heap.size := HCH.2.symm
  rw [← hwx]
  clear hwx HCH z4 y4 z5 y5 c0 c1 c2 c3 c4 c5 c6 c7 c8 c9 c10 c11 c12 HB1 HZ1 HX1
  have c0 := HBX.out.cell (o := 0) rfl
  have c1 := HBX.out.cell (o := 1) rfl
  have c2 := HBX.out.cell (o := 2) rfl
  have c3 := HBX.out.cell (o := 3) rfl
  have c4 := HBX.out.cell (o := 4) rfl
  have c5 := HBX.out.cell (o := 5) rfl
  have c6 := HBX.out.cell (o := 6) rfl
  have c7 := HBX.out.cell (o := 7) rfl
  have c8 := HBX.out.cell (o := 8) rfl
  have c9 := HBX.out.cell (o := 9) rfl
  have c10 := HBX.out.cell (o := 10) rfl
  have c11 := HBX.out.cell (o := 11) rfl
  have c12 := HBX.out.cell (o := 12) rfl
  have z0 := HZX.out.cell (o := 0) rfl
  have z1 := HZX.out.cell (o := 1) rfl
  have z2 := HZX.out.cell (o := 2) rfl
  have z3 := HZX.out.cell (o := 3) rfl
  have z4 := HZX.out.cell (o := 4) rfl
  have z5 := HZX.out.cell (o := 5) rfl
  have z6 := HZX.out.cell (o := 6) rfl
  have z7 := HZX.out.cell (o := 7) rfl
  have z8 := HZX.out.cell (o := 8) rfl
  have z9 := HZX.out.cell (o := 9) rfl
  have z10 := HZX.out.cell (o := 10) rfl
  have z11 := HZX.out.cell (o := 11) rfl
  have z12 := HZX.out.cell (o := 12) rfl
  have HEQ := Lib.hid (EqRpc_eq wx ⟨1, a1, a2, a3, a4, a5, 0, 0, false, [], 0, ⟨#[]⟩, false⟩ 0 rfl none 0 (Rds.nil _ _) A c (Rds.nil _ _) (by omega))
  unfold rpcV at HEQ
  dsimp only at HEQ
  go_wp2_with (go_at_call 9; refine HEQ.out.mono ?_; rintro e wz ⟨rfl, hbz⟩)
  go_ret
  rw [hh]
  exact ⟨rfl, HXX.out.trans (hbz.mono (by have := HXX.out.size; omega))⟩
set_option maxRecDepth 100000 in
set_option maxHeartbeats 8000000 in
theorem MayRpc2_yes (w : World) (a1 a2 a3 : Int) (ok : Bool) (A : Option Addr) (c : Nat)
    (h1 : 1 ≤ a1 ∧ a1 ≤ 7) (h2 : 1 ≤ a2 ∧ a2 ≤ 7) (h3 : 0 ≤ a3 ∧ a3 < 1099511627776) :
    Calls Try.prog 11 #[rpcV ⟨2, a1, a2, a3, 0, 0, 0, 0, ok, [], 0, ⟨#[]⟩, false⟩ (.slice A 0 c)] w fun e w' => e = .returned (.bool true) ∧ Below w.heap.size w w' := by
  unfold rpcV
  dsimp only
  go_enter Try.func11, Try.ntmps11
  go_upto_region 2 with (fail)
  obtain ⟨h, hh⟩ : ∃ z, w.heap.size = z := ⟨_, rfl⟩
  obtain ⟨w1, hw1⟩ : ∃ z, z = (w.alloc (.cells #[.int .i64 2, .int .i64 a1, .int .i64 a2, .int .i64 a3, .int .i64 0, .int .i64 0, .int .i64 0, .int .i64 0, .bool ok, .slice A 0 c, .int .i64 0, .string ⟨#[]⟩, .bool false] 27)).alloc (.cells #[.int .i64 2, .int .i64 a1, .int .i64 a2, .int .i64 a3, .int .i64 0, .int .i64 0, .int .i64 0, .int .i64 0, .bool false, .slice none 0 0, .int .i64 0, .string ⟨#[]⟩, .bool false] 27) := ⟨_, rfl⟩
  have HX1 : Hid (Below w.heap.size w w1) := Lib.hid (by rw [hw1]; exact ((Below.refl _ _).alloc (Nat.le_refl _) _).alloc (by simp) _)
  have HB1 : Hid (Blk w1 w.heap.size 27 [.int .i64 2, .int .i64 a1, .int .i64 a2, .int .i64 a3, .int .i64 0, .int .i64 0, .int .i64 0, .int .i64 0, .bool ok, .slice A 0 c, .int .i64 0, .string ⟨#[]⟩, .bool false]) := Lib.hid (by rw [hw1]; exact (Blk.new w _ _).ext ((Below.refl _ _).alloc (Nat.le_refl _) _) (Nat.le_refl _))
  have HZ1 : Hid (Blk w1 (w.heap.size + 1) 27 [.int .i64 2, .int .i64 a1, .int .i64 a2, .int .i64 a3, .int .i64 0, .int .i64 0, .int .i64 0, .int .i64 0, .bool false, .slice none 0 0, .int .i64 0, .string ⟨#[]⟩, .bool false]) := Lib.hid (by rw [hw1]; have g := Blk.new (w.alloc (.cells #[.int .i64 2, .int .i64 a1, .int .i64 a2, .int .i64 a3, .int .i64 0, .int .i64 0, .int .i64 0, .int .i64 0, .bool ok, .slice A 0 c, .int .i64 0, .string ⟨#[]⟩, .bool false] 27)) #[.int .i64 2, .int .i64 a1, .int .i64 a2, .int .i64 a3, .int .i64 0, .int .i64 0, .int .i64 0, .int .i64 0, .bool false, .slice none 0 0, .int .i64 0, .string ⟨#[]⟩, .bool false] 27; rwa [World.size_alloc] at g)
  have hs1 : w1.heap.size = w.heap.size + 2 := by rw [hw1, World.size_alloc, World.size_alloc]
  rw [← hw1]
  clear hw1
  rw [hh] at HX1 HB1 HZ1 hs1
  rw [hh]
  have hne : h ≠ h + 1 := by omega
  have c0 := HB1.out.cell (o := 0) rfl
  have c1 := HB1.out.cell (o := 1) rfl
  have c2 := HB1.out.cell (o := 2) rfl
  have c3 := HB1.out.cell (o := 3) rfl
  have c4 := HB1.out.cell (o := 4) rfl
  have c5 := HB1.out.cell (o := 5) rfl
  have c6 := HB1.out.cell (o := 6) rfl
  have c7 := HB1.out.cell (o := 7) rfl
  have c8 := HB1.out.cell (o := 8) rfl
  have c9 := HB1.out.cell (o := 9) rfl
  have c10 := HB1.out.cell (o := 10) rfl
  have c11 := HB1.out.cell (o := 11) rfl
  have c12 := HB1.out.cell (o := 12) rfl
  go_upto_region 9 with (first | (go_at_call 21; refine (rNode_yes _ _ (by omega)).mono ?_; rintro e wq ⟨rfl, rfl⟩) | (go_at_call 22; refine (rNum_yes _ _ (by omega)).mono ?_; rintro e wq ⟨rfl, rfl⟩))
  have z8 := HZ1.out.cell (o := 8) rfl
  have y8 := HZ1.out.froz 8
  go_upto_region 22 with (fail)
  obtain ⟨wx, hwx⟩ : ∃ z, z = (w1.setCell ⟨h + 1, 8, none⟩ (.bool ok)) := ⟨_, rfl⟩
  have HCH : Chg (h + 1) w1 wx := by rw [hwx]; exact (Chg.refl (h + 1) w1).trans (Chg.set (h + 1) _ 8 (.bool ok))
  have HXX : Hid (Below h w wx) := Lib.hid (HX1.out.grown HCH.1 (by omega) (fun k hk => by cases hk; omega))
  have HBX : Hid (Blk wx h 27 [.int .i64 2, .int .i64 a1, .int .i64 a2, .int .i64 a3, .int .i64 0, .int .i64 0, .int .i64 0, .int .i64 0, .bool ok, .slice A 0 c, .int .i64 0, .string ⟨#[]⟩, .bool false]) := Lib.hid (HCH.blk HB1.out (by omega))
  have HZX : Hid (Blk wx (h + 1) 27 [.int .i64 2, .int .i64 a1, .int .i64 a2, .int .i64 a3, .int .i64 0, .int .i64 0, .int .i64 0, .int .i64 0, .bool ok, .slice none 0 0, .int .i64 0, .string ⟨#[]⟩, .bool false]) := Lib.hid (by rw [hwx]; exact (HZ1.out.set 8 _))
  have hsx : w1.heap.size = wx.heap.size := HCH.2.symm
  rw [← hwx]
  clear hwx HCH z8 y8 c0 c1 c2 c3 c4 c5 c6 c7 c8 c9 c10 c11 c12 HB1 HZ1 HX1
  have c0 := HBX.out.cell (o := 0) rfl
  have c1 := HBX.out.cell (o := 1) rfl
  have c2 := HBX.out.cell (o := 2) rfl
  have c3 := HBX.out.cell (o := 3) rfl
  have c4 := HBX.out.cell (o := 4) rfl
  have c5 := HBX.out.cell (o := 5) rfl
  have c6 := HBX.out.cell (o := 6) rfl
  have c7 := HBX.out.cell (o := 7) rfl
  have c8 := HBX.out.cell (o := 8) rfl
  have c9 := HBX.out.cell (o := 9) rfl
  have c10 := HBX.out.cell (o := 10) rfl
  have c11 := HBX.out.cell (o := 11) rfl
  have c12 := HBX.out.cell (o := 12) rfl
  have z0 := HZX.out.cell (o := 0) rfl
  have z1 := HZX.out.cell (o := 1) rfl
  have z2 := HZX.out.cell (o := 2) rfl
  have z3 := HZX.out.cell (o := 3) rfl
  have z4 := HZX.out.cell (o := 4) rfl
  have z5 := HZX.out.cell (o := 5) rfl
  have z6 := HZX.out.cell (o := 6) rfl
  have z7 := HZX.out.cell (o := 7) rfl
  have z8 := HZX.out.cell (o := 8) rfl
  have z9 := HZX.out.cell (o := 9) rfl
  have z10 := HZX.out.cell (o := 10) rfl
  have z11 := HZX.out.cell (o := 11) rfl
  have z12 := HZX.out.cell (o := 12) rfl
  have HEQ := Lib.hid (EqRpc_eq wx ⟨2, a1, a2, a3, 0, 0, 0, 0, ok, [], 0, ⟨#[]⟩, false⟩ 0 rfl none 0 (Rds.nil _ _) A c (Rds.nil _ _) (by omega))
  unfold rpcV at HEQ
  dsimp only at HEQ
  go_wp2_with (go_at_call 9; refine HEQ.out.mono ?_; rintro e wz ⟨rfl, hbz⟩)
  go_ret
  rw [hh]
  exact ⟨rfl, HXX.out.trans (hbz.mono (by have := HXX.out.size; omega))⟩
set_option maxRecDepth 100000 in
set_option maxHeartbeats 8000000 in
theorem MayRpc4_yes (w : World) (a1 a2 a3 a4 a7 : Int) (ok : Bool) (A : Option Addr) (c : Nat)
    (h1 : 1 ≤ a1 ∧ a1 ≤ 7) (h2 : 1 ≤ a2 ∧ a2 ≤ 7) (h3 : 0 ≤ a3 ∧ a3 < 1099511627776) (h4n : 0 ≤ a4 ∧ a4 < 1099511627776) (h7n : 0 ≤ a7 ∧ a7 < 1099511627776) :
    Calls Try.prog 11 #[rpcV ⟨4, a1, a2, a3, a4, 0, 0, a7, ok, [], 0, ⟨#[]⟩, false⟩ (.slice A 0 c)] w fun e w' => e = .returned (.bool true) ∧ Below w.heap.size w w' := by
  unfold rpcV
  dsimp only
  go_enter Try.func11, Try.ntmps11
  go_upto_region 2 with (fail)
  obtain ⟨h, hh⟩ : ∃ z, w.heap.size = z := ⟨_, rfl⟩
  obtain ⟨w1, hw1⟩ : ∃ z, z = (w.alloc (.cells #[.int .i64 4, .int .i64 a1, .int .i64 a2, .int .i64 a3, .int .i64 a4, .int .i64 0, .int .i64 0, .int .i64 a7, .bool ok, .slice A 0 c, .int .i64 0, .string ⟨#[]⟩, .bool false] 27)).alloc (.cells #[.int .i64 4, .int .i64 a1, .int .i64 a2, .int .i64 a3, .int .i64 0, .int .i64 0, .int .i64 0, .int .i64 0, .bool false, .slice none 0 0, .int .i64 0, .string ⟨#[]⟩, .bool false] 27) := ⟨_, rfl⟩
  have HX1 : Hid (Below w.heap.size w w1) := Lib.hid (by rw [hw1]; exact ((Below.refl _ _).alloc (Nat.le_refl _) _).alloc (by simp) _)
  have HB1 : Hid (Blk w1 w.heap.size 27 [.int .i64 4, .int .i64 a1, .int .i64 a2, .int .i64 a3, .int .i64 a4, .int .i64 0, .int .i64 0, .int .i64 a7, .bool ok, .slice A 0 c, .int .i64 0, .string ⟨#[]⟩, .bool false]) := Lib.hid (by rw [hw1]; exact (Blk.new w _ _).ext ((Below.refl _ _).alloc (Nat.le_refl _) _) (Nat.le_refl _))
  have HZ1 : Hid (Blk w1 (w.heap.size + 1) 27 [.int .i64 4, .int .i64 a1, .int .i64 a2, .int .i64 a3, .int .i64 0, .int .i64 0, .int .i64 0, .int .i64 0, .bool false, .slice none 0 0, .int .i64 0, .string ⟨#[]⟩, .bool false]) := Lib.hid (by rw [hw1]; have g := Blk.new (w.alloc (.cells #[.int .i64 4, .int .i64 a1, .int .i64 a2, .int .i64 a3, .int .i64 a4, .int .i64 0, .int .i64 0, .int .i64 a7, .bool ok, .slice A 0 c, .int .i64 0, .string ⟨#[]⟩, .bool false] 27)) #[.int .i64 4, .int .i64 a1, .int .i64 a2, .int .i64 a3, .int .i64 0, .int .i64 0, .int .i64 0, .int .i64 0, .bool false, .slice none 0 0, .int .i64 0, .string ⟨#[]⟩, .bool false] 27; rwa [World.size_alloc] at g)
  have hs1 : w1.heap.size = w.heap.size + 2 := by rw [hw1, World.size_alloc, World.size_alloc]
  rw [← hw1]
  clear hw1
  rw [hh] at HX1 HB1 HZ1 hs1
  rw [hh]
  have hne : h ≠ h + 1 := by omega
  have c0 := HB1.out.cell (o := 0) rfl
  have c1 := HB1.out.cell (o := 1) rfl
  have c2 := HB1.out.cell (o := 2) rfl
  have c3 := HB1.out.cell (o := 3) rfl
  have c4 := HB1.out.cell (o := 4) rfl
  have c5 := HB1.out.cell (o := 5) rfl
  have c6 := HB1.out.cell (o := 6) rfl
  have c7 := HB1.out.cell (o := 7) rfl
  have c8 := HB1.out.cell (o := 8) rfl
  have c9 := HB1.out.cell (o := 9) rfl
  have c10 := HB1.out.cell (o := 10) rfl
  have c11 := HB1.out.cell (o := 11) rfl
  have c12 := HB1.out.cell (o := 12) rfl
  go_upto_region 15 with (first | (go_at_call 21; refine (rNode_yes _ _ (by omega)).mono ?_; rintro e wq ⟨rfl, rfl⟩) | (go_at_call 22; refine (rNum_yes _ _ (by omega)).mono ?_; rintro e wq ⟨rfl, rfl⟩))
  have z8 := HZ1.out.cell (o := 8) rfl
  have z4 := HZ1.out.cell (o := 4) rfl
  have z7 := HZ1.out.cell (o := 7) rfl
  have y8 := HZ1.out.froz 8
  have y4 := HZ1.out.froz 4
  have y7 := HZ1.out.froz 7
  have E0 : World.cell? w1 ⟨h, 8, none⟩ = some (.bool ok) ∧ World.cell? w1 ⟨h, 4, none⟩ = some (.int .i64 a4) ∧ World.cell? w1 ⟨h, 7, none⟩ = some (.int .i64 a7) := ⟨c8, c4, c7⟩
  have E1 : World.cell? (w1.setCell ⟨h + 1, 8, none⟩ (.bool ok)) ⟨h, 8, none⟩ = some (.bool ok) ∧ World.cell? (w1.setCell ⟨h + 1, 8, none⟩ (.bool ok)) ⟨h, 4, none⟩ = some (.int .i64 a4) ∧ World.cell? (w1.setCell ⟨h + 1, 8, none⟩ (.bool ok)) ⟨h, 7, none⟩ = some (.int .i64 a7) := ⟨(cell_set_far _ hne).trans E0.1, (cell_set_far _ hne).trans E0.2.1, (cell_set_far _ hne).trans E0.2.2⟩
  have D1 : World.cell? (w1.setCell ⟨h + 1, 8, none⟩ (.bool ok)).drew ⟨h, 8, none⟩ = some (.bool ok) ∧ World.cell? (w1.setCell ⟨h + 1, 8, none⟩ (.bool ok)).drew ⟨h, 4, none⟩ = some (.int .i64 a4) ∧ World.cell? (w1.setCell ⟨h + 1, 8, none⟩ (.bool ok)).drew ⟨h, 7, none⟩ = some (.int .i64 a7) := ⟨(cellDrewI _ _).trans E1.1, (cellDrewI _ _).trans E1.2.1, (cellDrewI _ _).trans E1.2.2⟩
  have E2 : World.cell? ((w1.setCell ⟨h + 1, 8, none⟩ (.bool ok)).setCell ⟨h + 1, 4, none⟩ (.int .i64 a4)) ⟨h, 8, none⟩ = some (.bool ok) ∧ World.cell? ((w1.setCell ⟨h + 1, 8, none⟩ (.bool ok)).setCell ⟨h + 1, 4, none⟩ (.int .i64 a4)) ⟨h, 4, none⟩ = some (.int .i64 a4) ∧ World.cell? ((w1.setCell ⟨h + 1, 8, none⟩ (.bool ok)).setCell ⟨h + 1, 4, none⟩ (.int .i64 a4)) ⟨h, 7, none⟩ = some (.int .i64 a7) := ⟨(cell_set_far _ hne).trans E1.1, (cell_set_far _ hne).trans E1.2.1, (cell_set_far _ hne).trans E1.2.2⟩
  have D2 : World.cell? ((w1.setCell ⟨h + 1, 8, none⟩ (.bool ok)).setCell ⟨h + 1, 4, none⟩ (.int .i64 a4)).drew ⟨h, 8, none⟩ = some (.bool ok) ∧ World.cell? ((w1.setCell ⟨h + 1, 8, none⟩ (.bool ok)).setCell ⟨h + 1, 4, none⟩ (.int .i64 a4)).drew ⟨h, 4, none⟩ = some (.int .i64 a4) ∧ World.cell? ((w1.setCell ⟨h + 1, 8, none⟩ (.bool ok)).setCell ⟨h + 1, 4, none⟩ (.int .i64 a4)).drew ⟨h, 7, none⟩ = some (.int .i64 a7) := ⟨(cellDrewI _ _).trans E2.1, (cellDrewI _ _).trans E2.2.1, (cellDrewI _ _).trans E2.2.2⟩
  have E3 : World.cell? (((w1.setCell ⟨h + 1, 8, none⟩ (.bool ok)).setCell ⟨h + 1, 4, none⟩ (.int .i64 a4)).setCell ⟨h + 1, 7, none⟩ (.int .i64 a7)) ⟨h, 8, none⟩ = some (.bool ok) ∧ World.cell? (((w1.setCell ⟨h + 1, 8, none⟩ (.bool ok)).setCell ⟨h + 1, 4, none⟩ (.int .i64 a4)).setCell ⟨h + 1, 7, none⟩ (.int .i64 a7)) ⟨h, 4, none⟩ = some (.int .i64 a4) ∧ World.cell? (((w1.setCell ⟨h + 1, 8, none⟩ (.bool ok)).setCell ⟨h + 1, 4, none⟩ (.int .i64 a4)).setCell ⟨h + 1, 7, none⟩ (.int .i64 a7)) ⟨h, 7, none⟩ = some (.int .i64 a7) := ⟨(cell_set_far _ hne).trans E2.1, (cell_set_far _ hne).trans E2.2.1, (cell_set_far _ hne).trans E2.2.2⟩
  have D3 : World.cell? (((w1.setCell ⟨h + 1, 8, none⟩ (.bool ok)).setCell ⟨h + 1, 4, none⟩ (.int .i64 a4)).setCell ⟨h + 1, 7, none⟩ (.int .i64 a7)).drew ⟨h, 8, none⟩ = some (.bool ok) ∧ World.cell? (((w1.setCell ⟨h + 1, 8, none⟩ (.bool ok)).setCell ⟨h + 1, 4, none⟩ (.int .i64 a4)).setCell ⟨h + 1, 7, none⟩ (.int .i64 a7)).drew ⟨h, 4, none⟩ = some (.int .i64 a4) ∧ World.cell? (((w1.setCell ⟨h + 1, 8, none⟩ (.bool ok)).setCell ⟨h + 1, 4, none⟩ (.int .i64 a4)).setCell ⟨h + 1, 7, none⟩ (.int .i64 a7)).drew ⟨h, 7, none⟩ = some (.int .i64 a7) := ⟨(cellDrewI _ _).trans E3.1, (cellDrewI _ _).trans E3.2.1, (cellDrewI _ _).trans E3.2.2⟩
  clear E0 E1 E2 E3
  go_region_held3 (fun w' => World.cell? w' ⟨h, 8, none⟩ = some (.bool ok) ∧ World.cell? w' ⟨h, 4, none⟩ = some (.int .i64 a4) ∧ World.cell? w' ⟨h, 7, none⟩ = some (.int .i64 a7)) (first | (with_reducible exact ⟨c8, c4, c7⟩) | (with_reducible exact D1) | (with_reducible exact D2) | (with_reducible exact D3) | exact ⟨c8, c4, c7⟩) (fail)
  clear D1 D2 D3
  obtain ⟨wx, hwx⟩ : ∃ z, z = (((w1.setCell ⟨h + 1, 8, none⟩ (.bool ok)).setCell ⟨h + 1, 4, none⟩ (.int .i64 a4)).setCell ⟨h + 1, 7, none⟩ (.int .i64 a7)).drew := ⟨_, rfl⟩
  have HCH : Chg (h + 1) w1 wx := by rw [hwx]; exact ((((Chg.refl (h + 1) w1).trans (Chg.set (h + 1) _ 8 (.bool ok))).trans (Chg.set (h + 1) _ 4 (.int .i64 a4))).trans (Chg.set (h + 1) _ 7 (.int .i64 a7))).trans (Chg.drew (h + 1) _)
  have HXX : Hid (Below h w wx) := Lib.hid (HX1.out.grown HCH.1 (by omega) (fun k hk => by cases hk; omega))
  have HBX : Hid (Blk wx h 27 [.int .i64 4, .int .i64 a1, .int .i64 a2, .int .i64 a3, .int .i64 a4, .int .i64 0, .int .i64 0, .int .i64 a7, .bool ok, .slice A 0 c, .int .i64 0, .string ⟨#[]⟩, .bool false]) := Lib.hid (HCH.blk HB1.out (by omega))
  have HZX : Hid (Blk wx (h + 1) 27 [.int .i64 4, .int .i64 a1, .int .i64 a2, .int .i64 a3, .int .i64 a4, .int .i64 0, .int .i64 0, .int .i64 a7, .bool ok, .slice none 0 0, .int .i64 0, .string ⟨#[]⟩, .bool false]) := Lib.hid (by rw [hwx]; exact blkDrewI ((((HZ1.out.set 8 _).set 4 _).set 7 _)))
  have hsx : w1.heap.size = wx.heap.size := HCH.2.symm
  rw [← hwx]
  clear hwx HCH z8 y8 z4 y4 z7 y7 c0 c1 c2 c3 c4 c5 c6 c7 c8 c9 c10 c11 c12 HB1 HZ1 HX1
  have c0 := HBX.out.cell (o := 0) rfl
  have c1 := HBX.out.cell (o := 1) rfl
  have c2 := HBX.out.cell (o := 2) rfl
  have c3 := HBX.out.cell (o := 3) rfl
  have c4 := HBX.out.cell (o := 4) rfl
  have c5 := HBX.out.cell (o := 5) rfl
  have c6 := HBX.out.cell (o := 6) rfl
  have c7 := HBX.out.cell (o := 7) rfl
  have c8 := HBX.out.cell (o := 8) rfl
  have c9 := HBX.out.cell (o := 9) rfl
  have c10 := HBX.out.cell (o := 10) rfl
  have c11 := HBX.out.cell (o := 11) rfl
  have c12 := HBX.out.cell (o := 12) rfl
  have z0 := HZX.out.cell (o := 0) rfl
  have z1 := HZX.out.cell (o := 1) rfl
  have z2 := HZX.out.cell (o := 2) rfl
  have z3 := HZX.out.cell (o := 3) rfl
  have z4 := HZX.out.cell (o := 4) rfl
  have z5 := HZX.out.cell (o := 5) rfl
  have z6 := HZX.out.cell (o := 6) rfl
  have z7 := HZX.out.cell (o := 7) rfl
  have z8 := HZX.out.cell (o := 8) rfl
  have z9 := HZX.out.cell (o := 9) rfl
  have z10 := HZX.out.cell (o := 10) rfl
  have z11 := HZX.out.cell (o := 11) rfl
  have z12 := HZX.out.cell (o := 12) rfl
  have HEQ := Lib.hid (EqRpc_eq wx ⟨4, a1, a2, a3, a4, 0, 0, a7, ok, [], 0, ⟨#[]⟩, false⟩ 0 rfl none 0 (Rds.nil _ _) A c (Rds.nil _ _) (by omega))
  unfold rpcV at HEQ
  dsimp only at HEQ
  go_wp2_with (go_at_call 9; refine HEQ.out.mono ?_; rintro e wz ⟨rfl, hbz⟩)
  go_ret
  rw [hh]
  exact ⟨rfl, HXX.out.trans (hbz.mono (by have := HXX.out.size; omega))⟩
set_option maxRecDepth 100000 in
set_option maxHeartbeats 8000000 in
theorem MayRpc6_yes (w : World) (a1 a2 a3 a4 a7 a8 : Int) (A : Option Addr) (c : Nat)
    (h1 : 1 ≤ a1 ∧ a1 ≤ 7) (h2 : 1 ≤ a2 ∧ a2 ≤ 7) (h3 : 0 ≤ a3 ∧ a3 < 1099511627776) (h4n : 0 ≤ a4 ∧ a4 < 1099511627776) (h7n : 0 ≤ a7 ∧ a7 < 1099511627776) (h8n : 0 ≤ a8 ∧ a8 < 1099511627776) :
    Calls Try.prog 11 #[rpcV ⟨6, a1, a2, a3, a4, 0, 0, a7, false, [], a8, ⟨#[]⟩, false⟩ (.slice A 0 c)] w fun e w' => e = .returned (.bool true) ∧ Below w.heap.size w w' := by
  unfold rpcV
  dsimp only
  go_enter Try.func11, Try.ntmps11
  go_upto_region 2 with (fail)
  obtain ⟨h, hh⟩ : ∃ z, w.heap.size = z := ⟨_, rfl⟩
  obtain ⟨w1, hw1⟩ : ∃ z, z = (w.alloc (.cells #[.int .i64 6, .int .i64 a1, .int .i64 a2, .int .i64 a3, .int .i64 a4, .int .i64 0, .int .i64 0, .int .i64 a7, .bool false, .slice A 0 c, .int .i64 a8, .string ⟨#[]⟩, .bool false] 27)).alloc (.cells #[.int .i64 6, .int .i64 a1, .int .i64 a2, .int .i64 a3, .int .i64 0, .int .i64 0, .int .i64 0, .int .i64 0, .bool false, .slice none 0 0, .int .i64 0, .string ⟨#[]⟩, .bool false] 27) := ⟨_, rfl⟩
  have HX1 : Hid (Below w.heap.size w w1) := Lib.hid (by rw [hw1]; exact ((Below.refl _ _).alloc (Nat.le_refl _) _).alloc (by simp) _)
  have HB1 : Hid (Blk w1 w.heap.size 27 [.int .i64 6, .int .i64 a1, .int .i64 a2, .int .i64 a3, .int .i64 a4, .int .i64 0, .int .i64 0, .int .i64 a7, .bool false, .slice A 0 c, .int .i64 a8, .string ⟨#[]⟩, .bool false]) := Lib.hid (by rw [hw1]; exact (Blk.new w _ _).ext ((Below.refl _ _).alloc (Nat.le_refl _) _) (Nat.le_refl _))
  have HZ1 : Hid (Blk w1 (w.heap.size + 1) 27 [.int .i64 6, .int .i64 a1, .int .i64 a2, .int .i64 a3, .int .i64 0, .int .i64 0, .int .i64 0, .int .i64 0, .bool false, .slice none 0 0, .int .i64 0, .string ⟨#[]⟩, .bool false]) := Lib.hid (by rw [hw1]; have g := Blk.new (w.alloc (.cells #[.int .i64 6, .int .i64 a1, .int .i64 a2, .int .i64 a3, .int .i64 a4, .int .i64 0, .int .i64 0, .int .i64 a7, .bool false, .slice A 0 c, .int .i64 a8, .string ⟨#[]⟩, .bool false] 27)) #[.int .i64 6, .int .i64 a1, .int .i64 a2, .int .i64 a3, .int .i64 0, .int .i64 0, .int .i64 0, .int .i64 0, .bool false, .slice none 0 0, .int .i64 0, .string ⟨#[]⟩, .bool false] 27; rwa [World.size_alloc] at g)
  have hs1 : w1.heap.size = w.heap.size + 2 := by rw [hw1, World.size_alloc, World.size_alloc]
  rw [← hw1]
  clear hw1
  rw [hh] at HX1 HB1 HZ1 hs1
  rw [hh]
  have hne : h ≠ h + 1 := by omega
  have c0 := HB1.out.cell (o := 0) rfl
  have c1 := HB1.out.cell (o := 1) rfl
  have c2 := HB1.out.cell (o := 2) rfl
  have c3 := HB1.out.cell (o := 3) rfl
  have c4 := HB1.out.cell (o := 4) rfl
  have c5 := HB1.out.cell (o := 5) rfl
  have c6 := HB1.out.cell (o := 6) rfl
  have c7 := HB1.out.cell (o := 7) rfl
  have c8 := HB1.out.cell (o := 8) rfl
  have c9 := HB1.out.cell (o := 9) rfl
  have c10 := HB1.out.cell (o := 10) rfl
  have c11 := HB1.out.cell (o := 11) rfl
  have c12 := HB1.out.cell (o := 12) rfl
  go_upto_region 21 with (first | (go_at_call 21; refine (rNode_yes _ _ (by omega)).mono ?_; rintro e wq ⟨rfl, rfl⟩) | (go_at_call 22; refine (rNum_yes _ _ (by omega)).mono ?_; rintro e wq ⟨rfl, rfl⟩))
  have z4 := HZ1.out.cell (o := 4) rfl
  have z10 := HZ1.out.cell (o := 10) rfl
  have z7 := HZ1.out.cell (o := 7) rfl
  have y4 := HZ1.out.froz 4
  have y10 := HZ1.out.froz 10
  have y7 := HZ1.out.froz 7
  have E0 : World.cell? w1 ⟨h, 4, none⟩ = some (.int .i64 a4) ∧ World.cell? w1 ⟨h, 10, none⟩ = some (.int .i64 a8) ∧ World.cell? w1 ⟨h, 7, none⟩ = some (.int .i64 a7) := ⟨c4, c10, c7⟩
  have E1 : World.cell? (w1.setCell ⟨h + 1, 4, none⟩ (.int .i64 a4)) ⟨h, 4, none⟩ = some (.int .i64 a4) ∧ World.cell? (w1.setCell ⟨h + 1, 4, none⟩ (.int .i64 a4)) ⟨h, 10, none⟩ = some (.int .i64 a8) ∧ World.cell? (w1.setCell ⟨h + 1, 4, none⟩ (.int .i64 a4)) ⟨h, 7, none⟩ = some (.int .i64 a7) := ⟨(cell_set_far _ hne).trans E0.1, (cell_set_far _ hne).trans E0.2.1, (cell_set_far _ hne).trans E0.2.2⟩
  have D1 : World.cell? (w1.setCell ⟨h + 1, 4, none⟩ (.int .i64 a4)).drew ⟨h, 4, none⟩ = some (.int .i64 a4) ∧ World.cell? (w1.setCell ⟨h + 1, 4, none⟩ (.int .i64 a4)).drew ⟨h, 10, none⟩ = some (.int .i64 a8) ∧ World.cell? (w1.setCell ⟨h + 1, 4, none⟩ (.int .i64 a4)).drew ⟨h, 7, none⟩ = some (.int .i64 a7) := ⟨(cellDrewI _ _).trans E1.1, (cellDrewI _ _).trans E1.2.1, (cellDrewI _ _).trans E1.2.2⟩
  have E2 : World.cell? ((w1.setCell ⟨h + 1, 4, none⟩ (.int .i64 a4)).setCell ⟨h + 1, 10, none⟩ (.int .i64 a8)) ⟨h, 4, none⟩ = some (.int .i64 a4) ∧ World.cell? ((w1.setCell ⟨h + 1, 4, none⟩ (.int .i64 a4)).setCell ⟨h + 1, 10, none⟩ (.int .i64 a8)) ⟨h, 10, none⟩ = some (.int .i64 a8) ∧ World.cell? ((w1.setCell ⟨h + 1, 4, none⟩ (.int .i64 a4)).setCell ⟨h + 1, 10, none⟩ (.int .i64 a8)) ⟨h, 7, none⟩ = some (.int .i64 a7) := ⟨(cell_set_far _ hne).trans E1.1, (cell_set_far _ hne).trans E1.2.1, (cell_set_far _ hne).trans E1.2.2⟩
  have D2 : World.cell? ((w1.setCell ⟨h + 1, 4, none⟩ (.int .i64 a4)).setCell ⟨h + 1, 10, none⟩ (.int .i64 a8)).drew ⟨h, 4, none⟩ = some (.int .i64 a4) ∧ World.cell? ((w1.setCell ⟨h + 1, 4, none⟩ (.int .i64 a4)).setCell ⟨h + 1, 10, none⟩ (.int .i64 a8)).drew ⟨h, 10, none⟩ = some (.int .i64 a8) ∧ World.cell? ((w1.setCell ⟨h + 1, 4, none⟩ (.int .i64 a4)).setCell ⟨h + 1, 10, none⟩ (.int .i64 a8)).drew ⟨h, 7, none⟩ = some (.int .i64 a7) := ⟨(cellDrewI _ _).trans E2.1, (cellDrewI _ _).trans E2.2.1, (cellDrewI _ _).trans E2.2.2⟩
  have E3 : World.cell? (((w1.setCell ⟨h + 1, 4, none⟩ (.int .i64 a4)).setCell ⟨h + 1, 10, none⟩ (.int .i64 a8)).setCell ⟨h + 1, 7, none⟩ (.int .i64 a7)) ⟨h, 4, none⟩ = some (.int .i64 a4) ∧ World.cell? (((w1.setCell ⟨h + 1, 4, none⟩ (.int .i64 a4)).setCell ⟨h + 1, 10, none⟩ (.int .i64 a8)).setCell ⟨h + 1, 7, none⟩ (.int .i64 a7)) ⟨h, 10, none⟩ = some (.int .i64 a8) ∧ World.cell? (((w1.setCell ⟨h + 1, 4, none⟩ (.int .i64 a4)).setCell ⟨h + 1, 10, none⟩ (.int .i64 a8)).setCell ⟨h + 1, 7, none⟩ (.int .i64 a7)) ⟨h, 7, none⟩ = some (.int .i64 a7) := ⟨(cell_set_far _ hne).trans E2.1, (cell_set_far _ hne).trans E2.2.1, (cell_set_far _ hne).trans E2.2.2⟩
  have D3 : World.cell? (((w1.setCell ⟨h + 1, 4, none⟩ (.int .i64 a4)).setCell ⟨h + 1, 10, none⟩ (.int .i64 a8)).setCell ⟨h + 1, 7, none⟩ (.int .i64 a7)).drew ⟨h, 4, none⟩ = some (.int .i64 a4) ∧ World.cell? (((w1.setCell ⟨h + 1, 4, none⟩ (.int .i64 a4)).setCell ⟨h + 1, 10, none⟩ (.int .i64 a8)).setCell ⟨h + 1, 7, none⟩ (.int .i64 a7)).drew ⟨h, 10, none⟩ = some (.int .i64 a8) ∧ World.cell? (((w1.setCell ⟨h + 1, 4, none⟩ (.int .i64 a4)).setCell ⟨h + 1, 10, none⟩ (.int .i64 a8)).setCell ⟨h + 1, 7, none⟩ (.int .i64 a7)).drew ⟨h, 7, none⟩ = some (.int .i64 a7) := ⟨(cellDrewI _ _).trans E3.1, (cellDrewI _ _).trans E3.2.1, (cellDrewI _ _).trans E3.2.2⟩
  clear E0 E1 E2 E3
  go_region_held3 (fun w' => World.cell? w' ⟨h, 4, none⟩ = some (.int .i64 a4) ∧ World.cell? w' ⟨h, 10, none⟩ = some (.int .i64 a8) ∧ World.cell? w' ⟨h, 7, none⟩ = some (.int .i64 a7)) (first | (with_reducible exact ⟨c4, c10, c7⟩) | (with_reducible exact D1) | (with_reducible exact D2) | (with_reducible exact D3) | exact ⟨c4, c10, c7⟩) (fail)
  clear D1 D2 D3
  obtain ⟨wx, hwx⟩ : ∃ z, z = (((w1.setCell ⟨h + 1, 4, none⟩ (.int .i64 a4)).setCell ⟨h + 1, 10, none⟩ (.int .i64 a8)).setCell ⟨h + 1, 7, none⟩ (.int .i64 a7)).drew := ⟨_, rfl⟩
  have HCH : Chg (h + 1) w1 wx := by rw [hwx]; exact ((((Chg.refl (h + 1) w1).trans (Chg.set (h + 1) _ 4 (.int .i64 a4))).trans (Chg.set (h + 1) _ 10 (.int .i64 a8))).trans (Chg.set (h + 1) _ 7 (.int .i64 a7))).trans (Chg.drew (h + 1) _)
  have HXX : Hid (Below h w wx) := Lib.hid (HX1.out.grown HCH.1 (by omega) (fun k hk => by cases hk; omega))
  have HBX : Hid (Blk wx h 27 [.int .i64 6, .int .i64 a1, .int .i64 a2, .int .i64 a3, .int .i64 a4, .int .i64 0, .int .i64 0, .int .i64 a7, .bool false, .slice A 0 c, .int .i64 a8, .string ⟨#[]⟩, .bool false]) := Lib.hid (HCH.blk HB1.out (by omega))
  have HZX : Hid (Blk wx (h + 1) 27 [.int .i64 6, .int .i64 a1, .int .i64 a2, .int .i64 a3, .int .i64 a4, .int .i64 0, .int .i64 0, .int .i64 a7, .bool false, .slice none 0 0, .int .i64 a8, .string ⟨#[]⟩, .bool false]) := Lib.hid (by rw [hwx]; exact blkDrewI ((((HZ1.out.set 4 _).set 10 _).set 7 _)))
  have hsx : w1.heap.size = wx.heap.size := HCH.2.symm
  rw [← hwx]
  clear hwx HCH z4 y4 z10 y10 z7 y7 c0 c1 c2 c3 c4 c5 c6 c7 c8 c9 c10 c11 c12 HB1 HZ1 HX1
  have c0 := HBX.out.cell (o := 0) rfl
  have c1 := HBX.out.cell (o := 1) rfl
  have c2 := HBX.out.cell (o := 2) rfl
  have c3 := HBX.out.cell (o := 3) rfl
  have c4 := HBX.out.cell (o := 4) rfl
  have c5 := HBX.out.cell (o := 5) rfl
  have c6 := HBX.out.cell (o := 6) rfl
  have c7 := HBX.out.cell (o := 7) rfl
  have c8 := HBX.out.cell (o := 8) rfl
  have c9 := HBX.out.cell (o := 9) rfl
  have c10 := HBX.out.cell (o := 10) rfl
  have c11 := HBX.out.cell (o := 11) rfl
  have c12 := HBX.out.cell (o := 12) rfl
  have z0 := HZX.out.cell (o := 0) rfl
  have z1 := HZX.out.cell (o := 1) rfl
  have z2 := HZX.out.cell (o := 2) rfl
  have z3 := HZX.out.cell (o := 3) rfl
  have z4 := HZX.out.cell (o := 4) rfl
  have z5 := HZX.out.cell (o := 5) rfl
  have z6 := HZX.out.cell (o := 6) rfl
  have z7 := HZX.out.cell (o := 7) rfl
  have z8 := HZX.out.cell (o := 8) rfl
  have z9 := HZX.out.cell (o := 9) rfl
  have z10 := HZX.out.cell (o := 10) rfl
  have z11 := HZX.out.cell (o := 11) rfl
  have z12 := HZX.out.cell (o := 12) rfl
  have HEQ := Lib.hid (EqRpc_eq wx ⟨6, a1, a2, a3, a4, 0, 0, a7, false, [], a8, ⟨#[]⟩, false⟩ 0 rfl none 0 (Rds.nil _ _) A c (Rds.nil _ _) (by omega))
  unfold rpcV at HEQ
  dsimp only at HEQ
  go_wp2_with (go_at_call 9; refine HEQ.out.mono ?_; rintro e wz ⟨rfl, hbz⟩)
  go_ret
  rw [hh]
  exact ⟨rfl, HXX.out.trans (hbz.mono (by have := HXX.out.size; omega))⟩
end Go.Proofs.Ytdbpgcaoakoojaa
