/- The walks of CopyRpc and of rpc's Check. -/
import Derived.Test.YtdbpgcaoakoojaaRpcM
import Derived.Test.YtdbpgcaoakoojaaRpcY
import Derived.Test.YtdbpgcaoakoojaaEntC
set_option linter.unusedVariables false
set_option linter.unusedSimpArgs false
namespace Go.Proofs.Ytdbpgcaoakoojaa
open Go.RowKit Lec
set_option maxRecDepth 100000 in
set_option maxHeartbeats 4000000 in
theorem CopyRpc_any (w : World) (m : Rpc) (n : Nat) (hn : m.ents.length = n) (A : Option Addr) (c : Nat) (hr : Rds w A (entsC m.ents)) (hm : n ≤ 1000000) :
    Calls Try.prog 14 #[rpcV m (.slice A n c)] w fun e w' => ∃ B d, e = .returned (rpcV m (.slice B n d)) ∧ w'.ownsRow w.heap.size 41 3 (.slice B n d) n (entsC m.ents) ∧ Below w.heap.size w w' := by
  have HCE : Hid (∀ w2, Below w.heap.size w w2 → Calls Try.prog 24 #[.slice A n c] w2 fun e w' => ∃ v, e = .returned v ∧ w'.ownsRow w2.heap.size 41 3 v n (entsC m.ents) ∧ Below w2.heap.size w2 w') := Lib.hid (fun w2 h => CopyEntries_any w2 A n c m.ents hn (by omega) (hr.ext h (Nat.le_refl _)))
  clear hr hn
  obtain ⟨a0, a1, a2, a3, a4, a5, a6, a7, ok, es, a8, dt, dn⟩ := m
  unfold rpcV
  dsimp only at *
  go_enter Try.func14, Try.ntmps14
  go_upto_region 2 with (fail)
  obtain ⟨p, hp⟩ : ∃ z, z = w.heap.size := ⟨_, rfl⟩
  obtain ⟨w1, hw1⟩ : ∃ z, z = ((w.alloc (.cells #[.int .i64 a0, .int .i64 a1, .int .i64 a2, .int .i64 a3, .int .i64 a4, .int .i64 a5, .int .i64 a6, .int .i64 a7, .bool ok, .slice A n c, .int .i64 a8, .string dt, .bool dn] 27)).alloc (.cells #[.int .i64 0, .int .i64 0, .int .i64 0, .int .i64 0, .int .i64 0, .int .i64 0, .int .i64 0, .int .i64 0, .bool false, .slice none 0 0, .int .i64 0, .string ⟨#[]⟩, .bool false] 27)).alloc (.cells #[.int .i64 a0, .int .i64 a1, .int .i64 a2, .int .i64 a3, .int .i64 a4, .int .i64 a5, .int .i64 a6, .int .i64 a7, .bool ok, .slice A n c, .int .i64 a8, .string dt, .bool dn] 27) := ⟨_, rfl⟩
  have HX1 : Hid (Below w.heap.size w w1) := Lib.hid (by rw [hw1]; exact (((Below.refl _ _).alloc (Nat.le_refl _) _).alloc (by simp) _).alloc (by simp; omega) _)
  have HB1 : Hid (Blk w1 w.heap.size 27 [.int .i64 a0, .int .i64 a1, .int .i64 a2, .int .i64 a3, .int .i64 a4, .int .i64 a5, .int .i64 a6, .int .i64 a7, .bool ok, .slice A n c, .int .i64 a8, .string dt, .bool dn]) := Lib.hid (by rw [hw1]; exact ((Blk.new w _ _).ext ((Below.refl _ _).alloc (Nat.le_refl _) _) (Nat.le_refl _)).ext ((Below.refl _ _).alloc (Nat.le_refl _) _) (Nat.le_refl _))
  have HR1 : Hid (Blk w1 (w.heap.size + 1) 27 [.int .i64 0, .int .i64 0, .int .i64 0, .int .i64 0, .int .i64 0, .int .i64 0, .int .i64 0, .int .i64 0, .bool false, .slice none 0 0, .int .i64 0, .string ⟨#[]⟩, .bool false]) := Lib.hid (by
    rw [hw1]
    have := (Blk.new (w.alloc (.cells #[.int .i64 a0, .int .i64 a1, .int .i64 a2, .int .i64 a3, .int .i64 a4, .int .i64 a5, .int .i64 a6, .int .i64 a7, .bool ok, .slice A n c, .int .i64 a8, .string dt, .bool dn] 27)) #[.int .i64 0, .int .i64 0, .int .i64 0, .int .i64 0, .int .i64 0, .int .i64 0, .int .i64 0, .int .i64 0, .bool false, .slice none 0 0, .int .i64 0, .string ⟨#[]⟩, .bool false] 27).ext ((Below.refl _ _).alloc (Nat.le_refl _) (.cells #[.int .i64 a0, .int .i64 a1, .int .i64 a2, .int .i64 a3, .int .i64 a4, .int .i64 a5, .int .i64 a6, .int .i64 a7, .bool ok, .slice A n c, .int .i64 a8, .string dt, .bool dn] 27)) (Nat.le_refl _)
    rwa [World.size_alloc] at this)
  have HC1 : Hid (Blk w1 (w.heap.size + 2) 27 [.int .i64 a0, .int .i64 a1, .int .i64 a2, .int .i64 a3, .int .i64 a4, .int .i64 a5, .int .i64 a6, .int .i64 a7, .bool ok, .slice A n c, .int .i64 a8, .string dt, .bool dn]) := Lib.hid (by
    rw [hw1]
    have := Blk.new ((w.alloc (.cells #[.int .i64 a0, .int .i64 a1, .int .i64 a2, .int .i64 a3, .int .i64 a4, .int .i64 a5, .int .i64 a6, .int .i64 a7, .bool ok, .slice A n c, .int .i64 a8, .string dt, .bool dn] 27)).alloc (.cells #[.int .i64 0, .int .i64 0, .int .i64 0, .int .i64 0, .int .i64 0, .int .i64 0, .int .i64 0, .int .i64 0, .bool false, .slice none 0 0, .int .i64 0, .string ⟨#[]⟩, .bool false] 27)) #[.int .i64 a0, .int .i64 a1, .int .i64 a2, .int .i64 a3, .int .i64 a4, .int .i64 a5, .int .i64 a6, .int .i64 a7, .bool ok, .slice A n c, .int .i64 a8, .string dt, .bool dn] 27
    rwa [World.size_alloc, World.size_alloc] at this)
  have hs1 : w1.heap.size = w.heap.size + 3 := by rw [hw1, World.size_alloc, World.size_alloc, World.size_alloc]
  have HE1 := Lib.hid (HCE.out w1 HX1.out)
  rw [← hw1]
  rw [← hp] at HX1 HB1 HR1 HC1 hs1
  rw [← hp]
  have HPP := Lib.hid hp
  clear hw1 HCE hp
  have c9 := HB1.out.cell (o := 9) rfl
  go_wp2_with fail
  refine HE1.out.mono ?_
  rintro e w2 ⟨v2, rfl, hown2, hb2⟩
  obtain ⟨A2, c2, rfl, _, _, _, _, _⟩ := own_rds hown2
  have HX2 : Hid (Below p w w2) := Lib.hid (HX1.out.trans (hb2.mono (by omega)))
  have HR2 := Lib.hid (HR1.out.ext hb2 (Nat.le_refl _))
  have HC2 := Lib.hid (HC1.out.ext hb2 (Nat.le_refl _))
  have HO2 := Lib.hid hown2
  have hs2 : p + 3 ≤ w2.heap.size := by have := hb2.size; omega
  rw [hs1] at HO2
  clear hb2 hown2 HE1 HX1 HB1 HR1 HC1 c9 hs1
  have x9 := HC2.out.cell (o := 9) rfl
  have y9 := HC2.out.froz 9
  go_upto_region 3 with (fail)
  obtain ⟨w3, hw3⟩ : ∃ z, z = w2.setCell ⟨p + 2, 9, none⟩ (.slice A2 n c2) := ⟨_, rfl⟩
  have HG3 := Lib.hid (Chg.set (p + 2) w2 9 (.slice A2 n c2))
  rw [← hw3] at HG3
  have HC3 : Hid (Blk w3 (p + 2) 27 [.int .i64 a0, .int .i64 a1, .int .i64 a2, .int .i64 a3, .int .i64 a4, .int .i64 a5, .int .i64 a6, .int .i64 a7, .bool ok, .slice A2 n c2, .int .i64 a8, .string dt, .bool dn]) := Lib.hid (by rw [hw3]; exact HC2.out.set 9 _)
  have HR3 : Hid (Blk w3 (p + 1) 27 [.int .i64 0, .int .i64 0, .int .i64 0, .int .i64 0, .int .i64 0, .int .i64 0, .int .i64 0, .int .i64 0, .bool false, .slice none 0 0, .int .i64 0, .string ⟨#[]⟩, .bool false]) := Lib.hid (HG3.out.blk HR2.out (by omega))
  have HX3 : Hid (Below p w w3) := Lib.hid (HX2.out.grown HG3.out.1 (by omega) (fun k hk => by cases hk; omega))
  have HO3 : Hid (w3.ownsRow (p + 3) 41 3 (.slice A2 n c2) n (entsC es)) := Lib.hid (own_grown HO2.out HG3.out.1 (fun z hz e => by have := (HO2.out.lt z hz).1; have e2 := Option.some.inj e; omega))
  have hs3 : p + 3 ≤ w3.heap.size := by rw [HG3.out.2]; exact hs2
  rw [← hw3]
  clear hw3 HG3 HX2 HR2 HC2 HO2 hs2 x9 y9
  have x0 := HC3.out.cell (o := 0) rfl
  have x1 := HC3.out.cell (o := 1) rfl
  have x2 := HC3.out.cell (o := 2) rfl
  have x3 := HC3.out.cell (o := 3) rfl
  have x4 := HC3.out.cell (o := 4) rfl
  have x5 := HC3.out.cell (o := 5) rfl
  have x6 := HC3.out.cell (o := 6) rfl
  have x7 := HC3.out.cell (o := 7) rfl
  have x8 := HC3.out.cell (o := 8) rfl
  have x9 := HC3.out.cell (o := 9) rfl
  have x10 := HC3.out.cell (o := 10) rfl
  have x11 := HC3.out.cell (o := 11) rfl
  have x12 := HC3.out.cell (o := 12) rfl
  have z0 := HR3.out.cell (o := 0) rfl
  have z1 := HR3.out.cell (o := 1) rfl
  have z2 := HR3.out.cell (o := 2) rfl
  have z3 := HR3.out.cell (o := 3) rfl
  have z4 := HR3.out.cell (o := 4) rfl
  have z5 := HR3.out.cell (o := 5) rfl
  have z6 := HR3.out.cell (o := 6) rfl
  have z7 := HR3.out.cell (o := 7) rfl
  have z8 := HR3.out.cell (o := 8) rfl
  have z9 := HR3.out.cell (o := 9) rfl
  have z10 := HR3.out.cell (o := 10) rfl
  have z11 := HR3.out.cell (o := 11) rfl
  have z12 := HR3.out.cell (o := 12) rfl
  have y0 := HR3.out.froz 0
  have y1 := HR3.out.froz 1
  have y2 := HR3.out.froz 2
  have y3 := HR3.out.froz 3
  have y4 := HR3.out.froz 4
  have y5 := HR3.out.froz 5
  have y6 := HR3.out.froz 6
  have y7 := HR3.out.froz 7
  have y8 := HR3.out.froz 8
  have y9 := HR3.out.froz 9
  have y10 := HR3.out.froz 10
  have y11 := HR3.out.froz 11
  have y12 := HR3.out.froz 12
  have HE9 := Lib.hid (put13_blk (.int .i64 a0) (.int .i64 a1) (.int .i64 a2) (.int .i64 a3) (.int .i64 a4) (.int .i64 a5) (.int .i64 a6) (.int .i64 a7) (.bool ok) (.slice A2 n c2) (.int .i64 a8) (.string dt) (.bool dn) HR3.out)
  have e0 := HE9.out.cell (o := 0) rfl
  have e1 := HE9.out.cell (o := 1) rfl
  have e2 := HE9.out.cell (o := 2) rfl
  have e3 := HE9.out.cell (o := 3) rfl
  have e4 := HE9.out.cell (o := 4) rfl
  have e5 := HE9.out.cell (o := 5) rfl
  have e6 := HE9.out.cell (o := 6) rfl
  have e7 := HE9.out.cell (o := 7) rfl
  have e8 := HE9.out.cell (o := 8) rfl
  have e9 := HE9.out.cell (o := 9) rfl
  have e10 := HE9.out.cell (o := 10) rfl
  have e11 := HE9.out.cell (o := 11) rfl
  have e12 := HE9.out.cell (o := 12) rfl
  unfold put13 at e0 e1 e2 e3 e4 e5 e6 e7 e8 e9 e10 e11 e12
  have HF9 : Hid (∀ w8, w8 = put13 w3 (p + 1) (.int .i64 a0) (.int .i64 a1) (.int .i64 a2) (.int .i64 a3) (.int .i64 a4) (.int .i64 a5) (.int .i64 a6) (.int .i64 a7) (.bool ok) (.slice A2 n c2) (.int .i64 a8) (.string dt) (.bool dn) → w8.ownsRow w.heap.size 41 3 (.slice A2 n c2) n (entsC es) ∧ Below w.heap.size w w8) := Lib.hid (fun w8 e8 => by
    rw [e8, ← HPP.out]
    have hch := (put13_chg w3 (p + 1) (.int .i64 a0) (.int .i64 a1) (.int .i64 a2) (.int .i64 a3) (.int .i64 a4) (.int .i64 a5) (.int .i64 a6) (.int .i64 a7) (.bool ok) (.slice A2 n c2) (.int .i64 a8) (.string dt) (.bool dn)).1
    exact ⟨own_lower (own_grown HO3.out hch (fun z hz e => by have := (HO3.out.lt z hz).1; have e2 := Option.some.inj e; omega)) (by omega), HX3.out.grown hch (by omega) (fun k hk => by cases hk; omega)⟩)
  unfold put13 at HF9
  clear HE9 HR3 HC3
  go_wp2_with fail
  show bodyPost Try.prog Try.f14 _ _ _ _
  refine bodyPost_ret (v := rpcV ⟨a0, a1, a2, a3, a4, a5, a6, a7, ok, es, a8, dt, dn⟩ (.slice A2 n c2)) (by simp [results, rpcV, Try.results14, go_sem, *]) rfl ?_
  exact ⟨A2, c2, rfl, HF9.out _ rfl⟩
set_option maxRecDepth 100000 in
theorem Check_any (w : World) (m : Rpc) (n : Nat) (hn : m.ents.length = n) (A : Option Addr) (c : Nat) (hr : Rds w A (entsC m.ents)) (hm : n ≤ 1000000) (hi : 0 ≤ m.idx ∧ m.idx < 9223372036854775808) :
    Calls Try.prog 13 #[rpcV m (.slice A n c)] w fun e w' => e = .returned (.int .i64 (if mayR m then 0 else 1)) ∧ Below w.heap.size w w' := by
  subst hn
  have HMY : Hid (∀ w2, Below w.heap.size w w2 → Calls Try.prog 17 #[rpcV m (.slice A m.ents.length c)] w2 fun e w' => e = .returned (.bool (mayR m)) ∧ Below w2.heap.size w2 w') := Lib.hid (fun w2 h => May_any w2 m A c (hr.ext h (Nat.le_refl _)) (by omega) hi)
  clear hr hm hi
  generalize mayR m = t at *
  obtain ⟨a0, a1, a2, a3, a4, a5, a6, a7, ok, es, a8, dt, dn⟩ := m
  unfold rpcV at *
  dsimp only at *
  go_enter Try.func13, Try.ntmps13
  go_upto_region 1 with (fail)
  obtain ⟨w1, hw1⟩ : ∃ z, z = w.alloc (.cells #[.int .i64 a0, .int .i64 a1, .int .i64 a2, .int .i64 a3, .int .i64 a4, .int .i64 a5, .int .i64 a6, .int .i64 a7, .bool ok, .slice A es.length c, .int .i64 a8, .string dt, .bool dn] 27) := ⟨_, rfl⟩
  have HX1 : Hid (Below w.heap.size w w1) := Lib.hid (by rw [hw1]; exact (Below.refl _ _).alloc (Nat.le_refl _) _)
  have HB1 : Hid (Blk w1 w.heap.size 27 [.int .i64 a0, .int .i64 a1, .int .i64 a2, .int .i64 a3, .int .i64 a4, .int .i64 a5, .int .i64 a6, .int .i64 a7, .bool ok, .slice A es.length c, .int .i64 a8, .string dt, .bool dn]) := Lib.hid (by rw [hw1]; exact Blk.new _ _ _)
  have HE1 := Lib.hid (HMY.out w1 HX1.out)
  rw [← hw1]
  clear hw1 HMY
  have c0 := HB1.out.cell (o := 0) rfl
  have c1 := HB1.out.cell (o := 1) rfl
  have c2 := HB1.out.cell (o := 2) rfl
  have c3 := HB1.out.cell (o := 3) rfl
  have c4 := HB1.out.cell (o := 4) rfl
  have c5 := HB1.out.cell (o := 5) rfl
  have c6 := HB1.out.cell (o := 6) rfl
  have c7 := HB1.out.cell (o := 7) rfl
  have c8 := HB1.out.cell (o := 8) rfl
  have c9 := HB1.out.cell (o := 9) rfl
  have c10 := HB1.out.cell (o := 10) rfl
  have c11 := HB1.out.cell (o := 11) rfl
  have c12 := HB1.out.cell (o := 12) rfl
  cases t with
  | true =>
    go_wp2_with (go_at_call 17; refine HE1.out.mono ?_; rintro e w2 ⟨rfl, hb2⟩)
    go_ret
    exact ⟨rfl, HX1.out.trans (hb2.mono HX1.out.size)⟩
  | false =>
    go_wp2_with (go_at_call 17; refine HE1.out.mono ?_; rintro e w2 ⟨rfl, hb2⟩)
    go_ret
    exact ⟨rfl, HX1.out.trans (hb2.mono HX1.out.size)⟩
end Go.Proofs.Ytdbpgcaoakoojaa
