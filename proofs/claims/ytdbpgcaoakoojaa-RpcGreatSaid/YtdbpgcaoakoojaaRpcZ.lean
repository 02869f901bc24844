/- The walk of rpc's lay. -/
import Derived.Test.YtdbpgcaoakoojaaRpcX
import Derived.Test.YtdbpgcaoakoojaaAppAt
import Derived.Test.YtdbpgcaoakoojaaSeal
set_option linter.unusedVariables false
set_option linter.unusedSimpArgs false
namespace Lec
open Go Go.RowKit
theorem entsTx_snoc {es : List Ent} {k : Nat} (h : k < es.length) : entsTx (es.take (k + 1)) = entsTx (es.take k) ++ [numS es[k].1, numS es[k].2.1, es[k].2.2] := by
  rw [List.take_succ_eq_append_getElem h]; unfold entsTx; rw [List.flatMap_append]; rfl
end Lec
namespace Go.Proofs.Ytdbpgcaoakoojaa
open Go.RowKit Lec
def LayPostR (w : World) (m : Rpc) (e : Ending) (w' : World) : Prop := Below w.heap.size w w' ∧
  ((layR m = none ∧ e = .returned (.tuple #[.slice none 0 0, .int .i64 2])) ∨ (∃ bs v, layR m = some bs ∧ e = .returned (.tuple #[v, .int .i64 0]) ∧ w'.ownsRow w.heap.size 5 1 v bs.length (bytesV bs)))
theorem numS_sizeR {n : Int} (h : 0 ≤ n ∧ n < 9223372036854775808) : (numS n).size ≤ 9 := by
  unfold numS
  rw [bytesOf_size]
  exact numB_len9 (by omega)
set_option maxRecDepth 100000 in
set_option maxHeartbeats 8000000 in
theorem rpcLay_any (w : World) (m : Rpc) (A : Option Addr) (c : Nat) (hr : Rds w A (entsC m.ents)) (hm : m.ents.length ≤ 100000) (hly : layable m) (hsz : m.dat.size ≤ 1000000000 ∧ ∀ e ∈ m.ents, e.2.2.size ≤ 1000000000) :
    Calls Try.prog 18 #[rpcV m (.slice A m.ents.length c)] w (LayPostR w m) := by
  have HR := Lib.hid hr
  have HLY := Lib.hid hly
  have HS : Hid (∀ s ∈ textsR m, s.size ≤ 140737488351232) := Lib.hid fun s hs => by
    unfold textsR at hs
    rcases List.mem_append.1 hs with h | h
    · obtain ⟨x, hx, rfl⟩ := List.mem_map.1 h
      have := numS_sizeR (hly.1 x hx)
      omega
    · rcases List.mem_cons.1 h with rfl | h
      · have := hsz.1; omega
      · obtain ⟨e, he, hm⟩ := List.mem_flatMap.1 h
        have h1 := numS_sizeR (hly.2 e he).1
        have h2 := numS_sizeR (hly.2 e he).2
        have h3 := hsz.2 e he
        simp [entT] at hm
        rcases hm with rfl | rfl | rfl <;> omega
  have HLR : Hid (∀ pb, pb = putB (textsR m) → layR m = if pb.length ≤ 1048576 then some (pb ++ be4 (csum 0 pb)) else none) := Lib.hid (fun pb h => by rw [h]; rfl)
  have HTL : Hid ((textsR m).length = 12 + m.ents.length * 3) := Lib.hid (by unfold textsR; rw [List.length_append, List.length_map, List.length_cons, entsTx_len]; show 11 + _ = _; omega)
  have HTX : Hid (textsR m = (numsR m).map numS ++ m.dat :: entsTx m.ents) := Lib.hid rfl
  unfold LayPostR
  obtain ⟨tx, htx⟩ : ∃ z, z = textsR m := ⟨_, rfl⟩
  obtain ⟨lr, hlr⟩ : ∃ z, z = layR m := ⟨_, rfl⟩
  rw [← htx] at HS HLR HTL HTX
  rw [← hlr] at HLR
  rw [← hlr]
  clear htx hlr hsz hly hr
  have HN11 : Hid (∀ x ∈ numsR m, 0 ≤ x ∧ x < 9223372036854775808) := Lib.hid HLY.out.1
  have HNE : Hid (∀ e ∈ m.ents, (0 ≤ e.1 ∧ e.1 < 9223372036854775808) ∧ (0 ≤ e.2.1 ∧ e.2.1 < 9223372036854775808)) := Lib.hid HLY.out.2
  obtain ⟨a0, a1, a2, a3, a4, a5, a6, a7, ok, es, a8, dt, dn⟩ := m
  unfold rpcV
  unfold numsR at HTX HN11
  dsimp only at *
  clear HLY
  obtain ⟨b1, hb1⟩ : ∃ z, z = bitI ok := ⟨_, rfl⟩
  obtain ⟨b2, hb2⟩ : ∃ z, z = bitI dn := ⟨_, rfl⟩
  have HM1 := fun wz => Lib.hid (rpcBit_any wz ok)
  have HM2 := fun wz => Lib.hid (rpcBit_any wz dn)
  rw [← hb1] at HM1 HTX HN11
  rw [← hb2] at HM2 HTX HN11
  clear hb1 hb2
  go_enter Try.func18, Try.ntmps18
  go_upto_region 1 with (fail)
  have HX0 : Hid (Below w.heap.size w (w.alloc (.cells #[.int .i64 a0, .int .i64 a1, .int .i64 a2, .int .i64 a3, .int .i64 a4, .int .i64 a5, .int .i64 a6, .int .i64 a7, .bool ok, .slice A es.length c, .int .i64 a8, .string dt, .bool dn] 27))) := Lib.hid ((Below.refl _ _).alloc (Nat.le_refl _) _)
  have HB0 : Hid (Blk (w.alloc (.cells #[.int .i64 a0, .int .i64 a1, .int .i64 a2, .int .i64 a3, .int .i64 a4, .int .i64 a5, .int .i64 a6, .int .i64 a7, .bool ok, .slice A es.length c, .int .i64 a8, .string dt, .bool dn] 27)) w.heap.size 27 [.int .i64 a0, .int .i64 a1, .int .i64 a2, .int .i64 a3, .int .i64 a4, .int .i64 a5, .int .i64 a6, .int .i64 a7, .bool ok, .slice A es.length c, .int .i64 a8, .string dt, .bool dn]) := Lib.hid (Blk.new _ _ _)
  obtain ⟨w1, hw1⟩ : ∃ z, z = w.alloc (.cells #[.int .i64 a0, .int .i64 a1, .int .i64 a2, .int .i64 a3, .int .i64 a4, .int .i64 a5, .int .i64 a6, .int .i64 a7, .bool ok, .slice A es.length c, .int .i64 a8, .string dt, .bool dn] 27) := ⟨_, rfl⟩
  obtain ⟨p, hp⟩ : ∃ z, z = w.heap.size := ⟨_, rfl⟩
  have hs1 : w1.heap.size = p + 1 := by rw [hw1, hp, World.size_alloc]
  rw [← hw1] at HX0 HB0
  rw [← hw1]
  rw [← hp] at HX0 HB0
  rw [← hp]
  have HPP := Lib.hid hp
  clear hw1 hp
  have c0 := HB0.out.cell (o := 0) rfl
  have c1 := HB0.out.cell (o := 1) rfl
  have c2 := HB0.out.cell (o := 2) rfl
  have c3 := HB0.out.cell (o := 3) rfl
  have c4 := HB0.out.cell (o := 4) rfl
  have c5 := HB0.out.cell (o := 5) rfl
  have c6 := HB0.out.cell (o := 6) rfl
  have c7 := HB0.out.cell (o := 7) rfl
  have c8 := HB0.out.cell (o := 8) rfl
  have c10 := HB0.out.cell (o := 10) rfl
  have c12 := HB0.out.cell (o := 12) rfl
  obtain ⟨w2, hw2⟩ : ∃ z, z = (w1.alloc (.cells #[.int .i64 a0, .int .i64 a1, .int .i64 a2, .int .i64 a3, .int .i64 a4, .int .i64 a5, .int .i64 a6, .int .i64 a7, .int .i64 a8, .int .i64 b1, .int .i64 b2] 3)).drew := ⟨_, rfl⟩
  have HX2 : Hid (Below w1.heap.size w1 w2) := Lib.hid (by rw [hw2]; exact below_drew ((Below.refl _ _).alloc (Nat.le_refl _) _))
  have HB2 : Hid (Blk w2 p 27 _) := Lib.hid (HB0.out.ext HX2.out (Nat.le_refl _))
  have HR2 : Hid (Rds w2 (some ⟨p + 1, 0, none⟩) [.int .i64 a0, .int .i64 a1, .int .i64 a2, .int .i64 a3, .int .i64 a4, .int .i64 a5, .int .i64 a6, .int .i64 a7, .int .i64 a8, .int .i64 b1, .int .i64 b2]) := Lib.hid (by rw [hw2, ← hs1]; exact (Blk.new w1 #[.int .i64 a0, .int .i64 a1, .int .i64 a2, .int .i64 a3, .int .i64 a4, .int .i64 a5, .int .i64 a6, .int .i64 a7, .int .i64 a8, .int .i64 b1, .int .i64 b2] 3).rds)
  have HNU := Lib.hid (Numbers_any w2 (some ⟨p + 1, 0, none⟩) 11 11 [a0, a1, a2, a3, a4, a5, a6, a7, a8, b1, b2] rfl (by decide) HN11.out HR2.out)
  have d0 := HB2.out.cell (o := 0) rfl
  have d1 := HB2.out.cell (o := 1) rfl
  have d2 := HB2.out.cell (o := 2) rfl
  have d3 := HB2.out.cell (o := 3) rfl
  have d4 := HB2.out.cell (o := 4) rfl
  have d5 := HB2.out.cell (o := 5) rfl
  have d6 := HB2.out.cell (o := 6) rfl
  have d7 := HB2.out.cell (o := 7) rfl
  have d8 := HB2.out.cell (o := 8) rfl
  have d10 := HB2.out.cell (o := 10) rfl
  have d12 := HB2.out.cell (o := 12) rfl
  rw [hw2] at d0 d1 d2 d3 d4 d5 d6 d7 d8 d10 d12 HNU
  have HD : World.cell? (w1.alloc (.cells #[.int .i64 a0, .int .i64 a1, .int .i64 a2, .int .i64 a3, .int .i64 a4, .int .i64 a5, .int .i64 a6, .int .i64 a7, .int .i64 a8, .int .i64 b1, .int .i64 b2] 3)).drew ⟨p, 0, none⟩ = some (.int .i64 a0) ∧ World.cell? (w1.alloc (.cells #[.int .i64 a0, .int .i64 a1, .int .i64 a2, .int .i64 a3, .int .i64 a4, .int .i64 a5, .int .i64 a6, .int .i64 a7, .int .i64 a8, .int .i64 b1, .int .i64 b2] 3)).drew ⟨p, 1, none⟩ = some (.int .i64 a1) ∧ World.cell? (w1.alloc (.cells #[.int .i64 a0, .int .i64 a1, .int .i64 a2, .int .i64 a3, .int .i64 a4, .int .i64 a5, .int .i64 a6, .int .i64 a7, .int .i64 a8, .int .i64 b1, .int .i64 b2] 3)).drew ⟨p, 2, none⟩ = some (.int .i64 a2) ∧ World.cell? (w1.alloc (.cells #[.int .i64 a0, .int .i64 a1, .int .i64 a2, .int .i64 a3, .int .i64 a4, .int .i64 a5, .int .i64 a6, .int .i64 a7, .int .i64 a8, .int .i64 b1, .int .i64 b2] 3)).drew ⟨p, 3, none⟩ = some (.int .i64 a3) ∧ World.cell? (w1.alloc (.cells #[.int .i64 a0, .int .i64 a1, .int .i64 a2, .int .i64 a3, .int .i64 a4, .int .i64 a5, .int .i64 a6, .int .i64 a7, .int .i64 a8, .int .i64 b1, .int .i64 b2] 3)).drew ⟨p, 4, none⟩ = some (.int .i64 a4) ∧ World.cell? (w1.alloc (.cells #[.int .i64 a0, .int .i64 a1, .int .i64 a2, .int .i64 a3, .int .i64 a4, .int .i64 a5, .int .i64 a6, .int .i64 a7, .int .i64 a8, .int .i64 b1, .int .i64 b2] 3)).drew ⟨p, 5, none⟩ = some (.int .i64 a5) ∧ World.cell? (w1.alloc (.cells #[.int .i64 a0, .int .i64 a1, .int .i64 a2, .int .i64 a3, .int .i64 a4, .int .i64 a5, .int .i64 a6, .int .i64 a7, .int .i64 a8, .int .i64 b1, .int .i64 b2] 3)).drew ⟨p, 6, none⟩ = some (.int .i64 a6) ∧ World.cell? (w1.alloc (.cells #[.int .i64 a0, .int .i64 a1, .int .i64 a2, .int .i64 a3, .int .i64 a4, .int .i64 a5, .int .i64 a6, .int .i64 a7, .int .i64 a8, .int .i64 b1, .int .i64 b2] 3)).drew ⟨p, 7, none⟩ = some (.int .i64 a7) ∧ World.cell? (w1.alloc (.cells #[.int .i64 a0, .int .i64 a1, .int .i64 a2, .int .i64 a3, .int .i64 a4, .int .i64 a5, .int .i64 a6, .int .i64 a7, .int .i64 a8, .int .i64 b1, .int .i64 b2] 3)).drew ⟨p, 8, none⟩ = some (.bool ok) ∧ World.cell? (w1.alloc (.cells #[.int .i64 a0, .int .i64 a1, .int .i64 a2, .int .i64 a3, .int .i64 a4, .int .i64 a5, .int .i64 a6, .int .i64 a7, .int .i64 a8, .int .i64 b1, .int .i64 b2] 3)).drew ⟨p, 10, none⟩ = some (.int .i64 a8) ∧ World.cell? (w1.alloc (.cells #[.int .i64 a0, .int .i64 a1, .int .i64 a2, .int .i64 a3, .int .i64 a4, .int .i64 a5, .int .i64 a6, .int .i64 a7, .int .i64 a8, .int .i64 b1, .int .i64 b2] 3)).drew ⟨p, 12, none⟩ = some (.bool dn) := ⟨d0, d1, d2, d3, d4, d5, d6, d7, d8, d10, d12⟩
  clear d0 d1 d2 d3 d4 d5 d6 d7 d8 d10 d12
  go_region_held3 (fun w' => World.cell? w' ⟨p, 0, none⟩ = some (.int .i64 a0) ∧ World.cell? w' ⟨p, 1, none⟩ = some (.int .i64 a1) ∧ World.cell? w' ⟨p, 2, none⟩ = some (.int .i64 a2) ∧ World.cell? w' ⟨p, 3, none⟩ = some (.int .i64 a3) ∧ World.cell? w' ⟨p, 4, none⟩ = some (.int .i64 a4) ∧ World.cell? w' ⟨p, 5, none⟩ = some (.int .i64 a5) ∧ World.cell? w' ⟨p, 6, none⟩ = some (.int .i64 a6) ∧ World.cell? w' ⟨p, 7, none⟩ = some (.int .i64 a7) ∧ World.cell? w' ⟨p, 8, none⟩ = some (.bool ok) ∧ World.cell? w' ⟨p, 10, none⟩ = some (.int .i64 a8) ∧ World.cell? w' ⟨p, 12, none⟩ = some (.bool dn))
    (first | (with_reducible exact ⟨c0, c1, c2, c3, c4, c5, c6, c7, c8, c10, c12⟩) | (with_reducible exact HD) | exact ⟨c0, c1, c2, c3, c4, c5, c6, c7, c8, c10, c12⟩)
    (first
      | (go_at_call 33; (with_reducible refine (HM1 _).out.mono ?_); rintro e wq ⟨rfl, rfl⟩)
      | (go_at_call 33; (with_reducible refine (HM2 _).out.mono ?_); rintro e wq ⟨rfl, rfl⟩)
      | (go_at_call 32; (with_reducible refine HNU.out.mono ?_); rintro e w3 ⟨v3, rfl, hown3, hb3⟩
         rw [← hw2] at hown3 hb3
         have HX3 : Hid (Below w1.heap.size w1 w3) := Lib.hid (HX2.out.trans (hb3.mono HX2.out.size))
         have HO3 := Lib.hid (own_lower hown3 HX2.out.size)
         have HB3 : Hid (Blk w3 p 27 _) := Lib.hid (HB2.out.ext hb3 (Nat.le_refl _))
         clear hown3 hb3 c0 c1 c2 c3 c4 c5 c6 c7 c8 c10 c12
         have c0 := HB3.out.cell (o := 0) rfl
         have c1 := HB3.out.cell (o := 1) rfl
         have c2 := HB3.out.cell (o := 2) rfl
         have c3 := HB3.out.cell (o := 3) rfl
         have c4 := HB3.out.cell (o := 4) rfl
         have c5 := HB3.out.cell (o := 5) rfl
         have c6 := HB3.out.cell (o := 6) rfl
         have c7 := HB3.out.cell (o := 7) rfl
         have c8 := HB3.out.cell (o := 8) rfl
         have c10 := HB3.out.cell (o := 10) rfl
         have c12 := HB3.out.cell (o := 12) rfl))
  --REST
  have c9 := HB3.out.cell (o := 9) rfl
  have c11 := HB3.out.cell (o := 11) rfl
  rw [hs1] at HO3
  have HXW : Hid (Below p w w3) := Lib.hid (HX0.out.trans (HX3.out.mono (by rw [hs1]; omega)))
  have hs3 : p + 1 ≤ w3.heap.size := by have := HX3.out.size; omega
  have HOA : Hid (w3.ownsRow (p + 1) 9 1 v3 11 (([a0, a1, a2, a3, a4, a5, a6, a7, a8, b1, b2].map numS).map Value.string)) := HO3
  obtain ⟨T11, hT11⟩ : ∃ z, z = [a0, a1, a2, a3, a4, a5, a6, a7, a8, b1, b2].map numS := ⟨_, rfl⟩
  rw [← hT11] at HOA HTX
  have HT12 : Hid ((T11 ++ [dt]).map Value.string = T11.map Value.string ++ [.string dt]) := Lib.hid (by rw [List.map_append]; rfl)
  have HTXA : Hid (tx = (T11 ++ [dt]) ++ entsTx es) := Lib.hid (by rw [HTX.out, List.append_assoc]; rfl)
  have HM12 : Hid ((T11 ++ [dt]).length = 12) := Lib.hid (by rw [hT11]; rfl)
  clear hT11 HO3 HNU HD hw2 HR2 HB2 HX2 HX3 HX0 HM1 HM2 HTX c0 c1 c2 c3 c4 c5 c6 c7 c8 c10 c12 hs1
  go_upto_region 3 with (at_builtin; refine wp_app1 (w0 := w3) rfl rfl _ _ 45 rfl (p + 1) 9 (.string ⟨#[]⟩) 1 16 Try.underlying45 info_strN rfl (by decide) (by decide) _ 11 _ rfl HOA.out rfl rfl (by intro u hu; simp at hu; subst hu; rfl) (by omega) hs3 ?_; intro v4 w4 hown4 hg4 hb4)
  have HB4 : Hid (Blk w4 p 27 _) := Lib.hid (HB3.out.extlt hb4 (by omega))
  have HX4 : Hid (Below p w w4) := Lib.hid (HXW.out.trans (hb4.mono (by omega)))
  have hs4 : p + 1 ≤ w4.heap.size := Nat.le_trans hs3 hb4.size
  have HR4 := Lib.hid (HR.out.ext HX4.out (by rw [HPP.out]; exact Nat.le_refl _))
  have HO4 : Hid (w4.ownsRow (p + 1) 9 1 v4 (12 + 0) (((T11 ++ [dt]) ++ entsTx (es.take 0)).map Value.string)) := Lib.hid (by rw [show (T11 ++ [dt]) ++ entsTx (es.take 0) = T11 ++ [dt] by simp [entsTx], HT12.out]; exact hown4)
  obtain ⟨T12, hT12⟩ : ∃ z, z = T11 ++ [dt] := ⟨_, rfl⟩
  rw [← hT12] at HO4 HTXA HM12
  clear hT12 HT12 hown4 hg4 hb4 HOA HB3 HXW hs3 c9 c11 HN11
  have c9 := HB4.out.cell (o := 9) rfl
  clear HB4
  go_wp2
  go_loopw [4, 43] (fun v i wx => ∃ k : Nat, k ≤ es.length ∧ i = .int .i64 (k : Int) ∧ Hid (wx.ownsRow (p + 1) 9 1 v (12 + k * 3) ((T12 ++ entsTx (es.take k)).map Value.string)) ∧ Hid (Below (p + 1) w4 wx)) (fun _ i _ => es.length - (intOf i).toNat)
  case atStart => exact ⟨0, by omega, rfl, by rw [Nat.zero_mul]; exact HO4, Lib.hid (Below.refl _ _)⟩
  case round =>
    obtain ⟨k, hk, rfl, HO, HB⟩ := hrel
    obtain ⟨v, rfl⟩ : ∃ z, z = u4 := ⟨_, rfl⟩
    by_cases h8 : k < es.length
    · have h8i : (k : Int) < (es.length : Int) := by omega
      obtain ⟨a, rfl, hc0, hc1, hc2⟩ := ents_cells (HR.out.ext (HX4.out.trans (HB.out.mono (by omega))) (by rw [HPP.out]; exact Nat.le_refl _)) k h8
      have HTK := Lib.hid (entsTx_snoc h8)
      have HTM : Hid ((T12 ++ entsTx (es.take (k + 1))).map Value.string = (T12 ++ entsTx (es.take k)).map Value.string ++ [.string (numS es[k].1), .string (numS es[k].2.1)] ++ [.string es[k].2.2]) := Lib.hid (by rw [HTK.out, ← List.append_assoc, List.map_append, List.append_assoc]; rfl)
      have HEK := Lib.hid (HNE.out _ (List.getElem_mem h8))
      generalize es[k] = x at *
      obtain ⟨x1, x2, xd⟩ := x
      dsimp only at *
      go_upto_region 6 with (fail)
      obtain ⟨wa, hwa⟩ : ∃ z, z = wr.alloc (.cells #[.int .i64 x1, .int .i64 x2, .string xd] 41) := ⟨_, rfl⟩
      have hba : Below wr.heap.size wr wa := by rw [hwa]; exact (Below.refl _ _).alloc (Nat.le_refl _) _
      have HBq : Hid (Blk wa wr.heap.size 41 [.int .i64 x1, .int .i64 x2, .string xd]) := Lib.hid (by rw [hwa]; exact Blk.new _ _ _)
      rw [← hwa]
      have HOa := Lib.hid (own_ext HO.out hba (Nat.le_refl _))
      have HLT : Hid (∀ g, v.ownBlock = some g → g < wr.heap.size) := Lib.hid fun g h => (HO.out.lt g h).2
      have HLB : Hid (∀ g, v.ownBlock = some g → p + 1 ≤ g) := Lib.hid fun g h => (HO.out.lt g h).1
      have hsr : p + 1 ≤ wr.heap.size := Nat.le_trans hs4 HB.out.size
      have hsa0 : wr.heap.size ≤ wa.heap.size := hba.size
      have HBa : Hid (Below (p + 1) w4 wa) := Lib.hid (HB.out.trans (hba.mono hsr))
      have hsa : p + 1 ≤ wa.heap.size := Nat.le_trans hs4 HBa.out.size
      have HSQ : Hid (wr.heap.size < wa.heap.size) := Lib.hid (by rw [hwa, World.size_alloc]; omega)
      generalize wr.heap.size = q at *
      clear hwa hba hc0 hc1 hc2
      have HD1 : Hid (Below wa.heap.size wa (wa.alloc (.cells #[.int .i64 x1, .int .i64 x2] 3)).drew) := Lib.hid (below_drew ((Below.refl _ _).alloc (Nat.le_refl _) _))
      have HD2 : Hid (Below wa.heap.size wa ((wa.alloc (.cells #[.int .i64 x1, .int .i64 x2] 3)).alloc (.cells #[.string xd] 9)).drew) := Lib.hid (below_drew (((Below.refl _ _).alloc (Nat.le_refl _) _).alloc (by simp) _))
      have HD3 : Hid (Below wa.heap.size wa ((wa.alloc (.cells #[.string xd] 9)).alloc (.cells #[.int .i64 x1, .int .i64 x2] 3)).drew) := Lib.hid (below_drew (((Below.refl _ _).alloc (Nat.le_refl _) _).alloc (by simp) _))
      have HI1 : Hid (Blk (wa.alloc (.cells #[.int .i64 x1, .int .i64 x2] 3)).drew wa.heap.size 3 [.int .i64 x1, .int .i64 x2]) := Lib.hid (Blk.new wa _ _)
      have HI2 : Hid (Blk ((wa.alloc (.cells #[.int .i64 x1, .int .i64 x2] 3)).alloc (.cells #[.string xd] 9)).drew wa.heap.size 3 [.int .i64 x1, .int .i64 x2]) := Lib.hid ((Blk.new wa #[.int .i64 x1, .int .i64 x2] 3).ext (w := wa.alloc (.cells #[.int .i64 x1, .int .i64 x2] 3)) (below_drew ((Below.refl _ _).alloc (Nat.le_refl _) _)) (Nat.le_refl _))
      have HI3 : Hid (Blk ((wa.alloc (.cells #[.string xd] 9)).alloc (.cells #[.int .i64 x1, .int .i64 x2] 3)).drew (wa.heap.size + 1) 3 [.int .i64 x1, .int .i64 x2]) := Lib.hid (by have h := Blk.new (wa.alloc (.cells #[.string xd] 9)) #[.int .i64 x1, .int .i64 x2] 3; rw [World.size_alloc] at h; exact h)
      have HS2 : Hid (Blk ((wa.alloc (.cells #[.int .i64 x1, .int .i64 x2] 3)).alloc (.cells #[.string xd] 9)).drew (wa.heap.size + 1) 9 [.string xd]) := Lib.hid (by have h := Blk.new (wa.alloc (.cells #[.int .i64 x1, .int .i64 x2] 3)) #[.string xd] 9; rw [World.size_alloc] at h; exact h)
      have HS3 : Hid (Blk ((wa.alloc (.cells #[.string xd] 9)).alloc (.cells #[.int .i64 x1, .int .i64 x2] 3)).drew wa.heap.size 9 [.string xd]) := Lib.hid ((Blk.new wa #[.string xd] 9).ext (w := wa.alloc (.cells #[.string xd] 9)) (below_drew ((Below.refl _ _).alloc (Nat.le_refl _) _)) (Nat.le_refl _))
      have HNU : Hid (∀ (wz : World) (g : Nat), Blk wz g 3 [.int .i64 x1, .int .i64 x2] → Calls Try.prog 32 #[.slice (some ⟨g, 0, none⟩) 2 2] wz fun e w' => ∃ v, e = .returned v ∧ w'.ownsRow wz.heap.size 9 1 v 2 [.string (numS x1), .string (numS x2)] ∧ Below wz.heap.size wz w') := Lib.hid (fun wz g hr =>
        (Numbers_any wz (some ⟨g, 0, none⟩) 2 2 [x1, x2] rfl (by omega) (fun x hx => by have := HEK.out; simp at hx; rcases hx with rfl | rfl <;> omega) hr.rds).mono (fun e w' h => h))
      have e0 := HBq.out.cell (o := 0) rfl
      have e1 := HBq.out.cell (o := 1) rfl
      have e2 := HBq.out.cell (o := 2) rfl
      have hk3 : k * 3 ≤ 300000 := by omega
      go_region_held3 (fun w' => w'.cell? ⟨q, 0, none⟩ = some (.int .i64 x1) ∧ w'.cell? ⟨q, 1, none⟩ = some (.int .i64 x2) ∧ w'.cell? ⟨q, 2, none⟩ = some (.string xd))
        (first | (with_reducible exact ⟨e0, e1, e2⟩) | go_keep)
        (first
          | (refine app_opN rfl _ _ 45 rfl (p + 1) 9 (.string ⟨#[]⟩) 1 16 Try.underlying45 info_strN rfl (by decide) (by decide) _ (12 + k * 3 + 2) _ rfl HO6.out _ 1 1 [.string xd] rfl rfl HRE.out.rds (by intro u hu; simp at hu; subst hu; rfl) (by omega) (Nat.le_trans hsa HX6.out.size) ?_
             intro v7 w7 hown7 hg7
             have HX7 : Hid (Below (p + 1) wa w7) := Lib.hid (HX6.out.grown hg7 (Nat.le_trans hsa HX6.out.size) (fun g h => (HO6.out.lt g h).1))
             have HO7 := Lib.hid hown7
             have HBQ9 : Hid (Blk w7 q 41 _) := Lib.hid (HBq.out.grown hg7 (Go.Lib.ownBlock_ne HO6.out HBq.out (by decide)))
             clear hown7 hg7
             have HBQ := HBQ9
             clear e0 e1 e2 HBq
             have HBq := HBQ
             clear HBQ HBQ9
             have e0 := HBq.out.cell (o := 0) rfl
             have e1 := HBq.out.cell (o := 1) rfl
             have e2 := HBq.out.cell (o := 2) rfl)
          | (refine app_opN rfl _ _ 45 rfl (p + 1) 9 (.string ⟨#[]⟩) 1 16 Try.underlying45 info_strN rfl (by decide) (by decide) _ (12 + k * 3 + 2) _ rfl (own_ext HO6.out ((Below.refl w6.heap.size w6).alloc (Nat.le_refl _) (.cells #[.string xd] 9)) (Nat.le_refl _)) _ 1 1 [.string xd] rfl rfl (Blk.new w6 #[.string xd] 9).rds (by intro u hu; simp at hu; subst hu; rfl) (by omega) (Nat.le_trans hsa (HX6.out.trans (((Below.refl w6.heap.size w6).alloc (Nat.le_refl _) (.cells #[.string xd] 9)).mono (Nat.le_trans hsa HX6.out.size))).size) ?_
             intro v7 w7 hown7 hg7
             have HX7 : Hid (Below (p + 1) wa w7) := Lib.hid ((HX6.out.trans (((Below.refl w6.heap.size w6).alloc (Nat.le_refl _) (.cells #[.string xd] 9)).mono (Nat.le_trans hsa HX6.out.size))).grown hg7 (Nat.le_trans hsa (HX6.out.trans (((Below.refl w6.heap.size w6).alloc (Nat.le_refl _) (.cells #[.string xd] 9)).mono (Nat.le_trans hsa HX6.out.size))).size) (fun g h => (HO6.out.lt g h).1))
             have HO7 := Lib.hid hown7
             have HBQ9 : Hid (Blk w7 q 41 _) := Lib.hid ((HBq.out.ext ((Below.refl w6.heap.size w6).alloc (Nat.le_refl _) (.cells #[.string xd] 9)) (Nat.le_refl _)).grown hg7 (Go.Lib.ownBlock_ne (own_ext HO6.out ((Below.refl w6.heap.size w6).alloc (Nat.le_refl _) (.cells #[.string xd] 9)) (Nat.le_refl _)) (HBq.out.ext ((Below.refl w6.heap.size w6).alloc (Nat.le_refl _) (.cells #[.string xd] 9)) (Nat.le_refl _)) (by decide)))
             clear hown7 hg7
             have HBQ := HBQ9
             clear e0 e1 e2 HBq
             have HBq := HBQ
             clear HBQ HBQ9
             have e0 := HBq.out.cell (o := 0) rfl
             have e1 := HBq.out.cell (o := 1) rfl
             have e2 := HBq.out.cell (o := 2) rfl)
          | (go_at_call 32
             (with_reducible refine (HNU.out (wa.alloc (.cells #[.int .i64 x1, .int .i64 x2] 3)).drew (wa.heap.size) HI1.out).mono ?_)
             rintro e w5 ⟨v5, rfl, hown, hb⟩
             have HX5 : Hid (Below wa.heap.size wa w5) := Lib.hid (HD1.out.trans (hb.mono HD1.out.size))
             obtain ⟨A5, c5, rfl, _, _, _, r5, _⟩ := own_rds hown
             obtain ⟨a5, rfl, _⟩ := r5 0 _ rfl
             have HR5 := Lib.hid r5
             have HBQ9 : Hid (Blk w5 q 41 _) := Lib.hid (HBq.out.ext HX5.out (Nat.le_refl _))
             have HO5 := Lib.hid (own_ext HOa.out HX5.out (Nat.le_refl _))
             clear hown hb r5
             have HBQ := HBQ9
             clear e0 e1 e2 HBq
             have HBq := HBQ
             clear HBQ HBQ9
             have e0 := HBq.out.cell (o := 0) rfl
             have e1 := HBq.out.cell (o := 1) rfl
             have e2 := HBq.out.cell (o := 2) rfl)
          | (go_at_call 32
             (with_reducible refine (HNU.out ((wa.alloc (.cells #[.int .i64 x1, .int .i64 x2] 3)).alloc (.cells #[.string xd] 9)).drew (wa.heap.size) HI2.out).mono ?_)
             rintro e w5 ⟨v5, rfl, hown, hb⟩
             have HX5 : Hid (Below wa.heap.size wa w5) := Lib.hid (HD2.out.trans (hb.mono HD2.out.size))
             obtain ⟨A5, c5, rfl, _, _, _, r5, _⟩ := own_rds hown
             obtain ⟨a5, rfl, _⟩ := r5 0 _ rfl
             have HR5 := Lib.hid r5
             have HRD : Hid (Blk w5 (wa.heap.size + 1) 9 [.string xd]) := Lib.hid (HS2.out.ext hb (Nat.le_refl _))
             have HBQ9 : Hid (Blk w5 q 41 _) := Lib.hid (HBq.out.ext HX5.out (Nat.le_refl _))
             have HO5 := Lib.hid (own_ext HOa.out HX5.out (Nat.le_refl _))
             clear hown hb r5
             have HBQ := HBQ9
             clear e0 e1 e2 HBq
             have HBq := HBQ
             clear HBQ HBQ9
             have e0 := HBq.out.cell (o := 0) rfl
             have e1 := HBq.out.cell (o := 1) rfl
             have e2 := HBq.out.cell (o := 2) rfl)
          | (go_at_call 32
             (with_reducible refine (HNU.out ((wa.alloc (.cells #[.string xd] 9)).alloc (.cells #[.int .i64 x1, .int .i64 x2] 3)).drew (wa.heap.size + 1) HI3.out).mono ?_)
             rintro e w5 ⟨v5, rfl, hown, hb⟩
             have HX5 : Hid (Below wa.heap.size wa w5) := Lib.hid (HD3.out.trans (hb.mono HD3.out.size))
             obtain ⟨A5, c5, rfl, _, _, _, r5, _⟩ := own_rds hown
             obtain ⟨a5, rfl, _⟩ := r5 0 _ rfl
             have HR5 := Lib.hid r5
             have HRD : Hid (Blk w5 (wa.heap.size) 9 [.string xd]) := Lib.hid (HS3.out.ext hb (Nat.le_refl _))
             have HBQ9 : Hid (Blk w5 q 41 _) := Lib.hid (HBq.out.ext HX5.out (Nat.le_refl _))
             have HO5 := Lib.hid (own_ext HOa.out HX5.out (Nat.le_refl _))
             clear hown hb r5
             have HBQ := HBQ9
             clear e0 e1 e2 HBq
             have HBq := HBQ
             clear HBQ HBQ9
             have e0 := HBq.out.cell (o := 0) rfl
             have e1 := HBq.out.cell (o := 1) rfl
             have e2 := HBq.out.cell (o := 2) rfl)
          | (have hmark := HRD
             (with_reducible show @ite _ _ _ (Oper.wp _ _ _ w5 _ _) _)
             refine app_opN rfl _ _ 45 rfl (p + 1) 9 (.string ⟨#[]⟩) 1 16 Try.underlying45 info_strN rfl (by decide) (by decide) _ (12 + k * 3) _ rfl HO5.out a5 2 c5 [.string (numS x1), .string (numS x2)] rfl rfl HR5.out (by intro u hu; simp at hu; rcases hu with rfl | rfl <;> rfl) (by omega) (Nat.le_trans hsa HX5.out.size) ?_
             intro v6 w6 hown6 hg6
             have HX6 : Hid (Below (p + 1) wa w6) := Lib.hid ((HX5.out.mono hsa).grown hg6 (Nat.le_trans hsa HX5.out.size) HLB.out)
             have HBQ9 : Hid (Blk w6 q 41 _) := Lib.hid (HBq.out.grown hg6 (fun e => Nat.lt_irrefl _ (HLT.out q e)))
             have HRE := Lib.hid (HRD.out.grown hg6 (fun e => by have h1 := HLT.out _ e; have h2 := HSQ.out; omega))
             have HO6 := Lib.hid hown6
             clear hown6 hg6 hmark
             have HBQ := HBQ9
             clear e0 e1 e2 HBq
             have HBq := HBQ
             clear HBQ HBQ9
             have e0 := HBq.out.cell (o := 0) rfl
             have e1 := HBq.out.cell (o := 1) rfl
             have e2 := HBq.out.cell (o := 2) rfl)
          | ((with_reducible show @ite _ _ _ (Oper.wp _ _ _ (w5.alloc (.cells #[.string xd] 9)) _ _) _)
             refine app_opN rfl _ _ 45 rfl (p + 1) 9 (.string ⟨#[]⟩) 1 16 Try.underlying45 info_strN rfl (by decide) (by decide) _ (12 + k * 3) _ rfl (own_ext HO5.out ((Below.refl w5.heap.size w5).alloc (Nat.le_refl _) (.cells #[.string xd] 9)) (Nat.le_refl _)) a5 2 c5 [.string (numS x1), .string (numS x2)] rfl rfl (HR5.out.ext ((Below.refl w5.heap.size w5).alloc (Nat.le_refl _) (.cells #[.string xd] 9)) (Nat.le_refl _)) (by intro u hu; simp at hu; rcases hu with rfl | rfl <;> rfl) (by omega) (Nat.le_trans hsa (HX5.out.trans (((Below.refl w5.heap.size w5).alloc (Nat.le_refl _) (.cells #[.string xd] 9)).mono HX5.out.size)).size) ?_
             intro v6 w6 hown6 hg6
             have HX6 : Hid (Below (p + 1) wa w6) := Lib.hid (((HX5.out.trans (((Below.refl w5.heap.size w5).alloc (Nat.le_refl _) (.cells #[.string xd] 9)).mono HX5.out.size)).mono hsa).grown hg6 (Nat.le_trans hsa (HX5.out.trans (((Below.refl w5.heap.size w5).alloc (Nat.le_refl _) (.cells #[.string xd] 9)).mono HX5.out.size)).size) HLB.out)
             have HBQ9 : Hid (Blk w6 q 41 _) := Lib.hid ((HBq.out.ext ((Below.refl w5.heap.size w5).alloc (Nat.le_refl _) (.cells #[.string xd] 9)) (Nat.le_refl _)).grown hg6 (fun e => Nat.lt_irrefl _ (HLT.out q e)))
             have HRE := Lib.hid ((Blk.new w5 #[.string xd] 9).grown hg6 (fun e => by have h1 := HLT.out _ e; have h2 := HSQ.out; have h3 := HX5.out.size; omega))
             have HO6 := Lib.hid hown6
             clear hown6 hg6
             have HBQ := HBQ9
             clear e0 e1 e2 HBq
             have HBq := HBQ
             clear HBQ HBQ9
             have e0 := HBq.out.cell (o := 0) rfl
             have e1 := HBq.out.cell (o := 1) rfl
             have e2 := HBq.out.cell (o := 2) rfl)
          | ((with_reducible show @ite _ _ _ (Oper.wp _ _ _ w5 _ _) _)
             refine app_opN rfl _ _ 45 rfl (p + 1) 9 (.string ⟨#[]⟩) 1 16 Try.underlying45 info_strN rfl (by decide) (by decide) _ (12 + k * 3) _ rfl HO5.out a5 2 c5 [.string (numS x1), .string (numS x2)] rfl rfl HR5.out (by intro u hu; simp at hu; rcases hu with rfl | rfl <;> rfl) (by omega) (Nat.le_trans hsa HX5.out.size) ?_
             intro v6 w6 hown6 hg6
             have HX6 : Hid (Below (p + 1) wa w6) := Lib.hid ((HX5.out.mono hsa).grown hg6 (Nat.le_trans hsa HX5.out.size) HLB.out)
             have HBQ9 : Hid (Blk w6 q 41 _) := Lib.hid (HBq.out.grown hg6 (fun e => Nat.lt_irrefl _ (HLT.out q e)))
             have HO6 := Lib.hid hown6
             clear hown6 hg6
             have HBQ := HBQ9
             clear e0 e1 e2 HBq
             have HBq := HBQ
             clear HBQ HBQ9
             have e0 := HBq.out.cell (o := 0) rfl
             have e1 := HBq.out.cell (o := 1) rfl
             have e2 := HBq.out.cell (o := 2) rfl))
      all_goals
        have HX8 : Hid (Below (p + 1) w4 w7) := Lib.hid (HBa.out.trans HX7.out)
        have HO8 : Hid (w7.ownsRow (p + 1) 9 1 v7 (12 + (k + 1) * 3) ((T12 ++ entsTx (es.take (k + 1))).map Value.string)) := Lib.hid (by rw [HTM.out, show 12 + (k + 1) * 3 = 12 + k * 3 + 2 + 1 by omega]; exact HO7.out)
        clear HO7 HX7 HX6 HO6 HO5 HX5 e0 e1 e2 HBq
        go_wp2
        go_roundw
        case rel => exact ⟨k + 1, by omega, by go_num, HO8, HX8⟩
        case measure => first | (simp [intOf]; done) | (simp [intOf]; omega)
    · obtain rfl : k = es.length := by omega
      have h8i : ¬ (es.length : Int) < (es.length : Int) := by omega
      rw [List.take_length, ← HTXA.out] at HO
      have HTN : Hid (12 + es.length * 3 = tx.length) := Lib.hid HTL.out.symm
      rw [HTN.out] at HO
      obtain ⟨A2, c2, rfl, _, _, _, r2, _⟩ := own_rds HO.out
      have HPU := Lib.hid (Put_any wr A2 tx.length c2 tx rfl (by have := HTL.out; omega) HS.out r2)
      have HBW : Hid (Below p w wr) := Lib.hid (HX4.out.trans (HB.out.mono (by omega)))
      have hlen : tx.length ≤ 400000 := by have := HTL.out; omega
      clear r2 HO HS HB
      obtain ⟨pb, hpb⟩ : ∃ pb, pb = putB tx := ⟨_, rfl⟩
      have HPB := Lib.hid (HLR.out pb hpb)
      unfold PutPost at HPU
      rw [← hpb] at HPU
      clear hpb HLR
      have hsw : p ≤ wr.heap.size := by have := HBW.out.size; have := HPP.out; omega
      go_wp2_with fail
      refine HPU.out.mono ?_
      rintro e w5 ⟨hb5, ⟨hle, v5, rfl, hown5⟩ | ⟨hgt, rfl⟩⟩
      · have HB5 : Hid (Below p w w5) := Lib.hid (HBW.out.trans (hb5.mono hsw))
        have HLE : Hid (lr = some (pb ++ be4 (csum 0 pb))) := Lib.hid (by rw [HPB.out, if_pos hle])
        obtain ⟨A6, c6, rfl, _, _, _, r6, _⟩ := own_rds hown5
        have HO5 := Lib.hid (own_lower hown5 hsw)
        have HSM := Lib.hid (Sum0_any w5 A6 pb.length c6 pb rfl (by omega) r6)
        have hcs := csum_lt pb
        clear hb5 hown5 r6 HPU HPB
        generalize csum 0 pb = cs at *
        go_wp2_with fail
        refine HSM.out.mono ?_
        rintro e w6 ⟨rfl, hb6⟩
        have HB6 : Hid (Below p w w6) := Lib.hid (HB5.out.trans (hb6.mono (by have := HB5.out.size; have := HPP.out; omega)))
        have HSL := Lib.hid (Sealed_any w6 p (.slice A6 pb.length c6) pb (own_ext HO5.out hb6 (Nat.le_refl _)) (by have := HB6.out.size; have := HPP.out; omega) (by omega) cs hcs)
        clear hb6
        go_wp2_with fail
        refine HSL.out.mono ?_
        rintro e w7 ⟨v7, rfl, hown7, hb7⟩
        have HB7 : Hid (Below p w w7) := Lib.hid (HB6.out.trans hb7)
        have HO7 := Lib.hid hown7
        rw [HPP.out] at HB7 HO7
        clear hb7 hown7
        go_wp2
        go_ret2
        exact ⟨HB7.out, .inr ⟨_, _, HLE.out, rfl, HO7.out⟩⟩
      · have HB5 : Hid (Below p w w5) := Lib.hid (HBW.out.trans (hb5.mono hsw))
        have HLE : Hid (lr = none) := Lib.hid (by rw [HPB.out, if_neg (by omega)])
        rw [HPP.out] at HB5
        clear hb5
        go_wp2
        go_ret2
        exact ⟨HB5.out, .inl ⟨HLE.out, rfl⟩⟩
end Go.Proofs.Ytdbpgcaoakoojaa
