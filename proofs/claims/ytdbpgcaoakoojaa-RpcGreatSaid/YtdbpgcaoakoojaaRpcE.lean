/- The walk of rpc's Encode, for a message that may be. -/
import Derived.Test.YtdbpgcaoakoojaaRpcY
import Derived.Test.YtdbpgcaoakoojaaRpcZ
set_option linter.unusedVariables false
set_option linter.unusedSimpArgs false
namespace Go.Proofs.Ytdbpgcaoakoojaa
open Go.RowKit Lec
set_option maxRecDepth 100000 in
set_option maxHeartbeats 4000000 in
theorem rpcEncode_any (w : World) (m : Rpc) (A : Option Addr) (c : Nat) (hr : Rds w A (entsC m.ents)) (hmay : mayR m = true) (hsz : m.dat.size ≤ 1000000000) :
    Calls Try.prog 10 #[rpcV m (.slice A m.ents.length c)] w (LayPostR w m) := by
  have hg := mayR_good hmay
  have hes : ∀ e ∈ m.ents, e.2.2.size ≤ 1000000000 := fun e he => by have := (hg.2 e he).2.2.2.2; omega
  have hix := mayR_nums hmay m.idx (by simp)
  have HMY : Hid (∀ w2, Below w.heap.size w w2 → Calls Try.prog 17 #[rpcV m (.slice A m.ents.length c)] w2 fun e w' => e = .returned (.bool true) ∧ Below w2.heap.size w2 w') := Lib.hid (fun w2 h => by
    have := May_any w2 m A c (hr.ext h (Nat.le_refl _)) (by omega) (by omega)
    rwa [hmay] at this)
  have HLA : Hid (∀ w2, Below w.heap.size w w2 → Calls Try.prog 18 #[rpcV m (.slice A m.ents.length c)] w2 (LayPostR w2 m)) := Lib.hid (fun w2 h => rpcLay_any w2 m A c (hr.ext h (Nat.le_refl _)) (by omega) (mayR_layable hmay) ⟨hsz, hes⟩)
  clear hr hmay hsz hes hix hg
  unfold LayPostR at *
  obtain ⟨lr, hlr⟩ : ∃ z, z = layR m := ⟨_, rfl⟩
  rw [← hlr] at HLA
  rw [← hlr]
  clear hlr
  obtain ⟨a0, a1, a2, a3, a4, a5, a6, a7, ok, es, a8, dt, dn⟩ := m
  unfold rpcV at *
  dsimp only at *
  go_enter Try.func10, Try.ntmps10
  go_upto_region 1 with (fail)
  have HX0 : Hid (Below w.heap.size w (w.alloc (.cells #[.int .i64 a0, .int .i64 a1, .int .i64 a2, .int .i64 a3, .int .i64 a4, .int .i64 a5, .int .i64 a6, .int .i64 a7, .bool ok, .slice A es.length c, .int .i64 a8, .string dt, .bool dn] 27))) := Lib.hid ((Below.refl _ _).alloc (Nat.le_refl _) _)
  have HB0 : Hid (Blk (w.alloc (.cells #[.int .i64 a0, .int .i64 a1, .int .i64 a2, .int .i64 a3, .int .i64 a4, .int .i64 a5, .int .i64 a6, .int .i64 a7, .bool ok, .slice A es.length c, .int .i64 a8, .string dt, .bool dn] 27)) w.heap.size 27 [.int .i64 a0, .int .i64 a1, .int .i64 a2, .int .i64 a3, .int .i64 a4, .int .i64 a5, .int .i64 a6, .int .i64 a7, .bool ok, .slice A es.length c, .int .i64 a8, .string dt, .bool dn]) := Lib.hid (Blk.new _ _ _)
  obtain ⟨w1, hw1⟩ : ∃ z, z = w.alloc (.cells #[.int .i64 a0, .int .i64 a1, .int .i64 a2, .int .i64 a3, .int .i64 a4, .int .i64 a5, .int .i64 a6, .int .i64 a7, .bool ok, .slice A es.length c, .int .i64 a8, .string dt, .bool dn] 27) := ⟨_, rfl⟩
  obtain ⟨p, hp⟩ : ∃ z, z = w.heap.size := ⟨_, rfl⟩
  rw [← hw1] at HX0 HB0
  rw [← hw1]
  rw [← hp] at HX0 HB0 HMY HLA
  rw [← hp]
  have HPP := Lib.hid hp
  have hs1 : p ≤ w1.heap.size := by have := HX0.out.size; omega
  have HM1 := Lib.hid (HMY.out w1 HX0.out)
  clear hw1 hp HMY
  have c0 := HB0.out.cell (o := 0) rfl
  have c1 := HB0.out.cell (o := 1) rfl
  have c2 := HB0.out.cell (o := 2) rfl
  have c3 := HB0.out.cell (o := 3) rfl
  have c4 := HB0.out.cell (o := 4) rfl
  have c5 := HB0.out.cell (o := 5) rfl
  have c6 := HB0.out.cell (o := 6) rfl
  have c7 := HB0.out.cell (o := 7) rfl
  have c8 := HB0.out.cell (o := 8) rfl
  have c9 := HB0.out.cell (o := 9) rfl
  have c10 := HB0.out.cell (o := 10) rfl
  have c11 := HB0.out.cell (o := 11) rfl
  have c12 := HB0.out.cell (o := 12) rfl
  go_wp2_with fail
  refine HM1.out.mono ?_
  rintro e w2 ⟨rfl, hb2⟩
  have HX2 : Hid (Below p w w2) := Lib.hid (HX0.out.trans (hb2.mono hs1))
  have HB2 := Lib.hid (HB0.out.ext hb2 (Nat.le_refl _))
  have HL2 := Lib.hid (HLA.out w2 HX2.out)
  have hs2 : p ≤ w2.heap.size := Nat.le_trans hs1 hb2.size
  clear hb2 HB0 HX0 HM1 HLA c0 c1 c2 c3 c4 c5 c6 c7 c8 c9 c10 c11 c12
  have c0 := HB2.out.cell (o := 0) rfl
  have c1 := HB2.out.cell (o := 1) rfl
  have c2 := HB2.out.cell (o := 2) rfl
  have c3 := HB2.out.cell (o := 3) rfl
  have c4 := HB2.out.cell (o := 4) rfl
  have c5 := HB2.out.cell (o := 5) rfl
  have c6 := HB2.out.cell (o := 6) rfl
  have c7 := HB2.out.cell (o := 7) rfl
  have c8 := HB2.out.cell (o := 8) rfl
  have c9 := HB2.out.cell (o := 9) rfl
  have c10 := HB2.out.cell (o := 10) rfl
  have c11 := HB2.out.cell (o := 11) rfl
  have c12 := HB2.out.cell (o := 12) rfl
  go_wp2_with fail
  refine HL2.out.mono ?_
  rintro e w3 ⟨hb3, ⟨hn, rfl⟩ | ⟨bs, v3, hl, rfl, hown3⟩⟩
  · have HX3 : Hid (Below p w w3) := Lib.hid (HX2.out.trans (hb3.mono hs2))
    have HN := Lib.hid hn
    rw [HPP.out] at HX3
    clear hn hb3
    go_wp2
    go_ret2
    exact ⟨HX3.out, .inl ⟨HN.out, rfl⟩⟩
  · have HX3 : Hid (Below p w w3) := Lib.hid (HX2.out.trans (hb3.mono hs2))
    have HN := Lib.hid hl
    have HO := Lib.hid (own_lower hown3 hs2)
    rw [HPP.out] at HX3 HO
    clear hl hb3 hown3
    go_wp2
    go_ret2
    exact ⟨HX3.out, .inr ⟨_, _, HN.out, rfl, HO.out⟩⟩
end Go.Proofs.Ytdbpgcaoakoojaa
