/- The walk of EqRpc for the same message. -/
import Derived.Test.YtdbpgcaoakoojaaRpcM
import Derived.Test.YtdbpgcaoakoojaaEntQ
set_option linter.unusedVariables false
set_option linter.unusedSimpArgs false
namespace Go.Proofs.Ytdbpgcaoakoojaa
open Go.RowKit Lec
set_option maxRecDepth 100000 in
set_option maxHeartbeats 4000000 in
theorem EqRpc_eq (w : World) (m : Rpc) (n : Nat) (hn : m.ents.length = n) (A : Option Addr) (c : Nat) (hr : Rds w A (entsC m.ents)) (B : Option Addr) (d : Nat) (hs : Rds w B (entsC m.ents)) (hm : n ≤ 1000000) :
    Calls Try.prog 9 #[rpcV m (.slice A n c), rpcV m (.slice B n d)] w fun e w' => e = .returned (.bool true) ∧ Below w.heap.size w w' := by
  have HEE : Hid (∀ w2, Below w.heap.size w w2 → Calls Try.prog 20 #[.slice A n c, .slice B n d] w2 fun e w' => e = .returned (.bool true) ∧ ∃ q, w2.drewN q = w') := Lib.hid (fun w2 h => by
    have := EqEntries_any w2 A n c m.ents hn (hr.ext h (Nat.le_refl _)) B n d m.ents hn (hs.ext h (Nat.le_refl _)) (by omega)
    rwa [decide_eq_true rfl] at this)
  clear hr hs hn
  obtain ⟨a0, a1, a2, a3, a4, a5, a6, a7, ok, es, a8, dt, dn⟩ := m
  unfold rpcV
  dsimp only at *
  clear es
  go_enter Try.func9, Try.ntmps9
  go_upto_region 1 with (fail)
  obtain ⟨w0, hw0⟩ : ∃ z, z = (w.alloc (.cells #[.int .i64 a0, .int .i64 a1, .int .i64 a2, .int .i64 a3, .int .i64 a4, .int .i64 a5, .int .i64 a6, .int .i64 a7, .bool ok, .slice A n c, .int .i64 a8, .string dt, .bool dn] 27)).alloc (.cells #[.int .i64 a0, .int .i64 a1, .int .i64 a2, .int .i64 a3, .int .i64 a4, .int .i64 a5, .int .i64 a6, .int .i64 a7, .bool ok, .slice B n d, .int .i64 a8, .string dt, .bool dn] 27) := ⟨_, rfl⟩
  have HX0 : Hid (Below w.heap.size w w0) := Lib.hid (by rw [hw0]; exact ((Below.refl _ _).alloc (Nat.le_refl _) _).alloc (by simp) _)
  have HB0 : Hid (Blk w0 w.heap.size 27 [.int .i64 a0, .int .i64 a1, .int .i64 a2, .int .i64 a3, .int .i64 a4, .int .i64 a5, .int .i64 a6, .int .i64 a7, .bool ok, .slice A n c, .int .i64 a8, .string dt, .bool dn]) := Lib.hid (by rw [hw0]; exact (Blk.new w _ _).ext ((Below.refl _ _).alloc (Nat.le_refl _) _) (Nat.le_refl _))
  have HZ0 : Hid (Blk w0 (w.heap.size + 1) 27 [.int .i64 a0, .int .i64 a1, .int .i64 a2, .int .i64 a3, .int .i64 a4, .int .i64 a5, .int .i64 a6, .int .i64 a7, .bool ok, .slice B n d, .int .i64 a8, .string dt, .bool dn]) := Lib.hid (by rw [hw0]; have h := Blk.new (w.alloc (.cells #[.int .i64 a0, .int .i64 a1, .int .i64 a2, .int .i64 a3, .int .i64 a4, .int .i64 a5, .int .i64 a6, .int .i64 a7, .bool ok, .slice A n c, .int .i64 a8, .string dt, .bool dn] 27)) #[.int .i64 a0, .int .i64 a1, .int .i64 a2, .int .i64 a3, .int .i64 a4, .int .i64 a5, .int .i64 a6, .int .i64 a7, .bool ok, .slice B n d, .int .i64 a8, .string dt, .bool dn] 27; rwa [World.size_alloc] at h)
  have HE0 := Lib.hid (HEE.out w0 HX0.out)
  rw [← hw0]
  clear hw0 HEE
  have c0 := HB0.out.cell (o := 0) rfl
  have c1 := HB0.out.cell (o := 1) rfl
  have c2 := HB0.out.cell (o := 2) rfl
  have c3 := HB0.out.cell (o := 3) rfl
  have c4 := HB0.out.cell (o := 4) rfl
  have c5 := HB0.out.cell (o := 5) rfl
  have c6 := HB0.out.cell (o := 6) rfl
  have c7 := HB0.out.cell (o := 7) rfl
  have c8 := HB0.out.cell (o := 8) rfl
  have c9 := HB0.out.cell (o := 9) rfl
  have c10 := HB0.out.cell (o := 10) rfl
  have c11 := HB0.out.cell (o := 11) rfl
  have c12 := HB0.out.cell (o := 12) rfl
  have z0 := HZ0.out.cell (o := 0) rfl
  have z1 := HZ0.out.cell (o := 1) rfl
  have z2 := HZ0.out.cell (o := 2) rfl
  have z3 := HZ0.out.cell (o := 3) rfl
  have z4 := HZ0.out.cell (o := 4) rfl
  have z5 := HZ0.out.cell (o := 5) rfl
  have z6 := HZ0.out.cell (o := 6) rfl
  have z7 := HZ0.out.cell (o := 7) rfl
  have z8 := HZ0.out.cell (o := 8) rfl
  have z9 := HZ0.out.cell (o := 9) rfl
  have z10 := HZ0.out.cell (o := 10) rfl
  have z11 := HZ0.out.cell (o := 11) rfl
  have z12 := HZ0.out.cell (o := 12) rfl
  go_wp2_with (go_at_call 20; refine HE0.out.mono ?_; rintro e wq ⟨rfl, q, rfl⟩)
  go_ret
  exact ⟨rfl, HX0.out.trans ((drawn_below _ q).mono HX0.out.size)⟩
end Go.Proofs.Ytdbpgcaoakoojaa
