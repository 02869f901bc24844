/- The walk of rpc's Decode. -/
import Derived.Test.YtdbpgcaoakoojaaRpcE
import Derived.Test.YtdbpgcaoakoojaaRpcM
set_option linter.unusedVariables false
set_option linter.unusedSimpArgs false
namespace Go.Proofs.Ytdbpgcaoakoojaa
open Go.RowKit Lec
def DecPostR (w : World) (bs : List UInt8) (e : Ending) (w' : World) : Prop := Below w.heap.size w w' ∧
  ((decR bs = none ∧ e = .returned (.tuple #[rpcV noR (.slice none 0 0), .int .i64 1])) ∨ (∃ m v, decR bs = some m ∧ e = .returned (.tuple #[rpcV m v, .int .i64 0]) ∧ w'.ownsRow w.heap.size 41 3 v m.ents.length (entsC m.ents)))
theorem Chg.rds' {p : Nat} {w w' : World} {A : Option Addr} {vs : List Value} (hr : Rds w A vs) (h : w.grownBy w' (some p)) (hA : ∀ a, A = some a → 0 < vs.length → a.block ≠ p) : Rds w' A vs := fun i v hv => by
  obtain ⟨a, e, hc⟩ := hr i v hv
  have hl : 0 < vs.length := by have := (List.getElem?_eq_some_iff.1 hv).1; omega
  refine ⟨a, e, ?_⟩
  have := World.block_lt_of_cell? w _ hc
  rw [← hc]
  exact World.cell?_of_block (h.block _ this (fun e2 => hA a e hl (by rw [add_block] at e2; exact Option.some.inj e2)))
theorem nextT_badT (st : St) (h : st.2 = true) : (msgT st).2.2 = true := by
  obtain ⟨l, b⟩ := st
  subst h
  rw [msgT_bad]
set_option maxRecDepth 100000 in
set_option maxHeartbeats 8000000 in
theorem rpcDecode_any (w : World) (A : Option Addr) (n c : Nat) (bs : List UInt8) (hn : bs.length = n) (hnc : n ≤ c) (hm : n ≤ 1000000) (hr : Rds w A (bytesV bs)) :
    Calls Try.prog 6 #[.slice A n c] w (DecPostR w bs) := by
  have HR := Lib.hid hr
  have HN := Lib.hid hn
  clear hr hn
  unfold DecPostR
  go_enter Try.func6, Try.ntmps6
  go_upto_region 1 with (fail)
  have HX0 : Hid (Below w.heap.size w (w.alloc (.cells #[.int .i64 0, .int .i64 0, .int .i64 0, .int .i64 0, .int .i64 0, .int .i64 0, .int .i64 0, .int .i64 0, .bool false, .slice none 0 0, .int .i64 0, .string ⟨#[]⟩, .bool false] 27))) := Lib.hid ((Below.refl _ _).alloc (Nat.le_refl _) _)
  have HB0 : Hid (Blk (w.alloc (.cells #[.int .i64 0, .int .i64 0, .int .i64 0, .int .i64 0, .int .i64 0, .int .i64 0, .int .i64 0, .int .i64 0, .bool false, .slice none 0 0, .int .i64 0, .string ⟨#[]⟩, .bool false] 27)) w.heap.size 27 [.int .i64 0, .int .i64 0, .int .i64 0, .int .i64 0, .int .i64 0, .int .i64 0, .int .i64 0, .int .i64 0, .bool false, .slice none 0 0, .int .i64 0, .string ⟨#[]⟩, .bool false]) := Lib.hid (Blk.new _ _ _)
  obtain ⟨w0, hw0⟩ : ∃ z, z = w.alloc (.cells #[.int .i64 0, .int .i64 0, .int .i64 0, .int .i64 0, .int .i64 0, .int .i64 0, .int .i64 0, .int .i64 0, .bool false, .slice none 0 0, .int .i64 0, .string ⟨#[]⟩, .bool false] 27) := ⟨_, rfl⟩
  obtain ⟨p, hp⟩ : ∃ z, z = w.heap.size := ⟨_, rfl⟩
  have hs0 : p + 1 ≤ w0.heap.size := by rw [hw0, hp, World.size_alloc]; exact Nat.le_refl _
  rw [← hw0] at HX0 HB0
  rw [← hw0]
  rw [← hp] at HX0 HB0
  rw [← hp]
  have HPP := Lib.hid hp
  clear hw0 hp
  by_cases h4 : n < 4
  · have h4i : (n : Int) < 4 := by omega
    have HD : Hid (decR bs = none) := Lib.hid (short_dec (by rw [HN.out]; exact h4))
    have z0 := HB0.out.cell (o := 0) rfl
    have z1 := HB0.out.cell (o := 1) rfl
    have z2 := HB0.out.cell (o := 2) rfl
    have z3 := HB0.out.cell (o := 3) rfl
    have z4 := HB0.out.cell (o := 4) rfl
    have z5 := HB0.out.cell (o := 5) rfl
    have z6 := HB0.out.cell (o := 6) rfl
    have z7 := HB0.out.cell (o := 7) rfl
    have z8 := HB0.out.cell (o := 8) rfl
    have z9 := HB0.out.cell (o := 9) rfl
    have z10 := HB0.out.cell (o := 10) rfl
    have z11 := HB0.out.cell (o := 11) rfl
    have z12 := HB0.out.cell (o := 12) rfl
    have y0 := HB0.out.froz 0
    have y1 := HB0.out.froz 1
    have y2 := HB0.out.froz 2
    have y3 := HB0.out.froz 3
    have y4 := HB0.out.froz 4
    have y5 := HB0.out.froz 5
    have y6 := HB0.out.froz 6
    have y7 := HB0.out.froz 7
    have y8 := HB0.out.froz 8
    have y9 := HB0.out.froz 9
    have y10 := HB0.out.froz 10
    have y11 := HB0.out.froz 11
    have y12 := HB0.out.froz 12
    have HE9 := Lib.hid (put13_blk (.int .i64 0) (.int .i64 0) (.int .i64 0) (.int .i64 0) (.int .i64 0) (.int .i64 0) (.int .i64 0) (.int .i64 0) (.bool false) (.slice none 0 0) (.int .i64 0) (.string ⟨#[]⟩) (.bool false) HB0.out)
    have e0 := HE9.out.cell (o := 0) rfl
    have e1 := HE9.out.cell (o := 1) rfl
    have e2 := HE9.out.cell (o := 2) rfl
    have e3 := HE9.out.cell (o := 3) rfl
    have e4 := HE9.out.cell (o := 4) rfl
    have e5 := HE9.out.cell (o := 5) rfl
    have e6 := HE9.out.cell (o := 6) rfl
    have e7 := HE9.out.cell (o := 7) rfl
    have e8 := HE9.out.cell (o := 8) rfl
    have e9 := HE9.out.cell (o := 9) rfl
    have e10 := HE9.out.cell (o := 10) rfl
    have e11 := HE9.out.cell (o := 11) rfl
    have e12 := HE9.out.cell (o := 12) rfl
    unfold put13 at e0 e1 e2 e3 e4 e5 e6 e7 e8 e9 e10 e11 e12
    have HF9 : Hid (∀ w8, w8 = put13 w0 p (.int .i64 0) (.int .i64 0) (.int .i64 0) (.int .i64 0) (.int .i64 0) (.int .i64 0) (.int .i64 0) (.int .i64 0) (.bool false) (.slice none 0 0) (.int .i64 0) (.string ⟨#[]⟩) (.bool false) → Below w.heap.size w w8) := Lib.hid (fun w8 e8 => by rw [e8, ← HPP.out]; exact HX0.out.grown (put13_chg w0 p (.int .i64 0) (.int .i64 0) (.int .i64 0) (.int .i64 0) (.int .i64 0) (.int .i64 0) (.int .i64 0) (.int .i64 0) (.bool false) (.slice none 0 0) (.int .i64 0) (.string ⟨#[]⟩) (.bool false)).1 (by have := HX0.out.size; have := HPP.out; omega) (fun k hk => by cases hk; omega))
    unfold put13 at HF9
    have HDN := HD
    clear HE9 HB0
    go_wp2_with fail
    show bodyPost Try.prog Try.f6 _ _ _ _
    refine bodyPost_ret (v := .tuple #[rpcV noR (.slice none 0 0), .int .i64 1]) (by simp [results, rpcV, noR, Try.results6, go_sem, *]) rfl ?_
    exact ⟨HF9.out _ rfl, .inl ⟨HDN.out, rfl⟩⟩
  · have h4i : ¬ (n : Int) < 4 := by omega
    obtain ⟨k, rfl⟩ : ∃ k, n = k + 4 := ⟨n - 4, by omega⟩
    have hc0 : ¬ c = 0 := by omega
    have hmi : ((k + 4 : Nat) : Int) - 4 = (k : Int) := by omega
    have h0m : ¬ (k : Int) < 0 := by omega
    have hmc : (k : Int) ≤ (c : Int) := by omega
    have HT : Hid (bs.take (bs.length - 4) = bs.take k) := Lib.hid (by rw [HN.out]; rfl)
    have HR0 := Lib.hid (HR.out.ext HX0.out (by rw [HPP.out]; exact Nat.le_refl _))
    have HG := Lib.hid (Get_any w0 A k c (bs.take k) (by rw [List.length_take, HN.out]; omega) (by omega) (by omega) (by have := HR0.out.take k; rwa [← List.map_take] at this))
    go_upto_region 3 with (fail)
    go_wp2_with fail
    refine HG.out.mono ?_
    rintro e w1 ⟨hb1, ⟨hno, rfl⟩ | ⟨l, v, hl, rfl, hown1⟩⟩
    · have HX1 : Hid (Below p w w1) := Lib.hid (HX0.out.trans (hb1.mono (by omega)))
      have HB1 : Hid (Blk w1 p 27 _) := Lib.hid (HB0.out.ext hb1 (Nat.le_refl _))
      have hs1 : p + 1 ≤ w1.heap.size := Nat.le_trans hs0 hb1.size
      have HD : Hid (decR bs = none) := Lib.hid (none_dec (by rw [HN.out]; omega) (by rw [HT.out]; exact hno))
      clear hno hb1 HG HR0 HX0 HB0
      go_upto_region 5 with (fail)
      obtain ⟨w2, hw2⟩ : ∃ z, z = w1.alloc (.cells #[.slice none 0 0, .bool true] 52) := ⟨_, rfl⟩
      have hb2 : Below w1.heap.size w1 w2 := by rw [hw2]; exact (Below.refl _ _).alloc (Nat.le_refl _) _
      have HTX : Hid (Tx w2 w1.heap.size ([], true)) := Lib.hid ⟨none, 0, by rw [hw2]; exact Blk.new _ _ _, Nat.le_refl _, Rds.nil _ _, fun a e => by cases e⟩
      have HMS := Lib.hid (message_any w2 w1.heap.size ([], true) (by simp) (fun s hs => by cases hs) HTX.out)
      have hq2 : w1.heap.size < w2.heap.size := by rw [hw2, World.size_alloc]; omega
      have HX2 : Hid (Below p w w2) := Lib.hid (HX1.out.trans (hb2.mono (by omega)))
      have HB2 : Hid (Blk w2 p 27 _) := Lib.hid (HB1.out.ext hb2 (Nat.le_refl _))
      have HMB : Hid ((msgT ([], true)).2 = ([], true)) := Lib.hid (msgT_bad [])
      rw [← hw2]
      generalize w1.heap.size = q at *
      clear hw2 hb2 HX1 HB1 HTX
      generalize msgT ([], true) = mt at *
      obtain ⟨m, st⟩ := mt
      obtain rfl : st = ([], true) := HMB.out
      dsimp only at HMS
      unfold rpcV at HMS
      clear HMB
      go_wp2_with fail
      refine HMS.out.mono ?_
      rintro e w3 ⟨v3, rfl, hown3, htx3, hgr3⟩
      have HX3 : Hid (Below p w w3) := Lib.hid (HX2.out.grown hgr3 (by have := HX2.out.size; have := HPP.out; omega) (fun z hz => by cases hz; omega))
      have HB3 : Hid (Blk w3 p 27 _) := Lib.hid (HB2.out.grown hgr3 (fun e => by cases e; omega))
      obtain ⟨AV, cV, rfl, _, _, _, _, _⟩ := own_rds hown3
      obtain ⟨A3, c3, hbq3, _, _, _⟩ := htx3.ex
      have HQ3 := Lib.hid hbq3
      clear HMS hown3 htx3 hgr3 hbq3 HX2 HB2
      go_upto_region 6 with (fail)
      obtain ⟨w4, hw4⟩ : ∃ z, z = w3.alloc (.cells (rpcC m (.slice AV m.ents.length cV)).toArray 27) := ⟨_, rfl⟩
      have hb4 : Below w3.heap.size w3 w4 := by rw [hw4]; exact (Below.refl _ _).alloc (Nat.le_refl _) _
      have HX4 : Hid (Below p w w4) := Lib.hid (HX3.out.trans (hb4.mono (by have := HX3.out.size; have := HPP.out; omega)))
      have HB4 : Hid (Blk w4 p 27 _) := Lib.hid (HB3.out.ext hb4 (Nat.le_refl _))
      have HQ4 := Lib.hid (HQ3.out.ext hb4 (Nat.le_refl _))
      have q1 := HQ4.out.cell (o := 1) rfl
      unfold rpcC at hw4
      rw [← hw4]
      clear hw4 hb4 HX3 HB3 HQ3 HQ4
      have z0 := HB4.out.cell (o := 0) rfl
      have z1 := HB4.out.cell (o := 1) rfl
      have z2 := HB4.out.cell (o := 2) rfl
      have z3 := HB4.out.cell (o := 3) rfl
      have z4 := HB4.out.cell (o := 4) rfl
      have z5 := HB4.out.cell (o := 5) rfl
      have z6 := HB4.out.cell (o := 6) rfl
      have z7 := HB4.out.cell (o := 7) rfl
      have z8 := HB4.out.cell (o := 8) rfl
      have z9 := HB4.out.cell (o := 9) rfl
      have z10 := HB4.out.cell (o := 10) rfl
      have z11 := HB4.out.cell (o := 11) rfl
      have z12 := HB4.out.cell (o := 12) rfl
      have y0 := HB4.out.froz 0
      have y1 := HB4.out.froz 1
      have y2 := HB4.out.froz 2
      have y3 := HB4.out.froz 3
      have y4 := HB4.out.froz 4
      have y5 := HB4.out.froz 5
      have y6 := HB4.out.froz 6
      have y7 := HB4.out.froz 7
      have y8 := HB4.out.froz 8
      have y9 := HB4.out.froz 9
      have y10 := HB4.out.froz 10
      have y11 := HB4.out.froz 11
      have y12 := HB4.out.froz 12
      have HE9 := Lib.hid (put13_blk (.int .i64 0) (.int .i64 0) (.int .i64 0) (.int .i64 0) (.int .i64 0) (.int .i64 0) (.int .i64 0) (.int .i64 0) (.bool false) (.slice none 0 0) (.int .i64 0) (.string ⟨#[]⟩) (.bool false) HB4.out)
      have e0 := HE9.out.cell (o := 0) rfl
      have e1 := HE9.out.cell (o := 1) rfl
      have e2 := HE9.out.cell (o := 2) rfl
      have e3 := HE9.out.cell (o := 3) rfl
      have e4 := HE9.out.cell (o := 4) rfl
      have e5 := HE9.out.cell (o := 5) rfl
      have e6 := HE9.out.cell (o := 6) rfl
      have e7 := HE9.out.cell (o := 7) rfl
      have e8 := HE9.out.cell (o := 8) rfl
      have e9 := HE9.out.cell (o := 9) rfl
      have e10 := HE9.out.cell (o := 10) rfl
      have e11 := HE9.out.cell (o := 11) rfl
      have e12 := HE9.out.cell (o := 12) rfl
      unfold put13 at e0 e1 e2 e3 e4 e5 e6 e7 e8 e9 e10 e11 e12
      have HF9 : Hid (∀ w8, w8 = put13 w4 p (.int .i64 0) (.int .i64 0) (.int .i64 0) (.int .i64 0) (.int .i64 0) (.int .i64 0) (.int .i64 0) (.int .i64 0) (.bool false) (.slice none 0 0) (.int .i64 0) (.string ⟨#[]⟩) (.bool false) → Below w.heap.size w w8) := Lib.hid (fun w8 e8 => by rw [e8, ← HPP.out]; exact HX4.out.grown (put13_chg w4 p (.int .i64 0) (.int .i64 0) (.int .i64 0) (.int .i64 0) (.int .i64 0) (.int .i64 0) (.int .i64 0) (.int .i64 0) (.bool false) (.slice none 0 0) (.int .i64 0) (.string ⟨#[]⟩) (.bool false)).1 (by have := HX4.out.size; have := HPP.out; omega) (fun k hk => by cases hk; omega))
      unfold put13 at HF9
      have HDN := HD
      clear HE9 HB4
      go_wp2_with fail
      show bodyPost Try.prog Try.f6 _ _ _ _
      refine bodyPost_ret (v := .tuple #[rpcV noR (.slice none 0 0), .int .i64 1]) (by simp [results, rpcV, noR, Try.results6, go_sem, *]) rfl ?_
      exact ⟨HF9.out _ rfl, .inl ⟨HDN.out, rfl⟩⟩
    · have HX1 : Hid (Below p w w1) := Lib.hid (HX0.out.trans (hb1.mono (by omega)))
      have HB1 : Hid (Blk w1 p 27 _) := Lib.hid (HB0.out.ext hb1 (Nat.le_refl _))
      have hs1 : p + 1 ≤ w1.heap.size := Nat.le_trans hs0 hb1.size
      have HDE := Lib.hid (some_dec (bs := bs) (l := l) (by rw [HN.out]; omega) (by rw [HT.out]; exact hl))
      have HSZ : Hid (l.length ≤ 1000000 ∧ ∀ s ∈ l, s.size ≤ 1000000) := Lib.hid (by
        have h1 := getL_split hl
        have h2 : (bs.take k).length ≤ 1000000 := by rw [List.length_take, HN.out]; omega
        have h3 := lens_le l
        rw [← h1] at h3
        exact ⟨by omega, fun s hs => by have := h3.2 s hs; omega⟩)
      obtain ⟨A1, c1, rfl, hlc1, _, _, r1, hblk1⟩ := own_rds hown1
      have HR1 := Lib.hid r1
      have HBK : Hid (∀ a, A1 = some a → 0 < l.length → a.block < w1.heap.size) := Lib.hid (fun a ha _ => by obtain ⟨g, rfl, _, h⟩ := hblk1 a ha; exact h)
      have HRX : Hid (Rds w1 A (bytesV bs)) := Lib.hid (HR0.out.ext hb1 (Nat.le_refl _))
      clear hl hown1 hb1 HG HR0 HX0 HB0 r1 hblk1 HT hs0
      go_upto_region 5 with (fail)
      obtain ⟨w2, hw2⟩ : ∃ z, z = w1.alloc (.cells #[.slice A1 l.length c1, .bool false] 52) := ⟨_, rfl⟩
      have hb2 : Below w1.heap.size w1 w2 := by rw [hw2]; exact (Below.refl _ _).alloc (Nat.le_refl _) _
      have HTX : Hid (Tx w2 w1.heap.size (l, false)) := Lib.hid ⟨A1, c1, by rw [hw2]; exact Blk.new _ _ _, hlc1, HR1.out.ext hb2 (Nat.le_refl _), HBK.out⟩
      have HMS := Lib.hid (message_any w2 w1.heap.size (l, false) HSZ.out.1 (fun s hs => by have := HSZ.out.2 s hs; omega) HTX.out)
      have hq2 : w1.heap.size < w2.heap.size := by rw [hw2, World.size_alloc]; omega
      have HX2 : Hid (Below p w w2) := Lib.hid (HX1.out.trans (hb2.mono (by omega)))
      have HB2 : Hid (Blk w2 p 27 _) := Lib.hid (HB1.out.ext hb2 (Nat.le_refl _))
      have HRY : Hid (Rds w2 A (bytesV bs)) := Lib.hid (HRX.out.ext hb2 (Nat.le_refl _))
      have HAB : Hid (∀ a, A = some a → 0 < (bytesV bs).length → a.block < p) := Lib.hid (fun a ha h0 => by have := HR.out.blk ha h0; rw [HPP.out]; exact this)
      have HMI := Lib.hid (msgT_idx (l, false))
      have HML : Hid ((msgT (l, false)).1.ents.length ≤ 1000000) := Lib.hid (Nat.le_trans (msgT_len (l, false)) HSZ.out.1)
      have HMD : Hid ((msgT (l, false)).1.dat.size ≤ 1000000) := Lib.hid (msgT_dat (K := 1000000) (st := (l, false)) HSZ.out.2)
      rw [← hw2]
      generalize w1.heap.size = q at *
      clear hw2 hb2 HX1 HB1 HTX HRX HR1 HBK
      generalize msgT (l, false) = mt at *
      obtain ⟨m, st⟩ := mt
      dsimp only at *
      unfold rpcV at HMS
      go_wp2_with fail
      refine HMS.out.mono ?_
      rintro e w3 ⟨v3, rfl, hown3, htx3, hgr3⟩
      have HX3 : Hid (Below p w w3) := Lib.hid (HX2.out.grown hgr3 (by have := HX2.out.size; have := HPP.out; omega) (fun z hz => by cases hz; omega))
      have HB3 : Hid (Blk w3 p 27 _) := Lib.hid (HB2.out.grown hgr3 (fun e => by cases e; omega))
      obtain ⟨AV, cV, rfl, _, _, _, r3, _⟩ := own_rds hown3
      obtain ⟨A3, c3, hbq3, _, _, _⟩ := htx3.ex
      have HQ3 := Lib.hid hbq3
      have HR3 := Lib.hid r3
      have HO3 := Lib.hid (own_lower hown3 (show p + 1 ≤ w2.heap.size by omega))
      have HRZ : Hid (Rds w3 A (bytesV bs)) := Lib.hid (Chg.rds' HRY.out hgr3 (fun a ha h0 e => by have := HAB.out a ha h0; omega))
      clear HMS hown3 htx3 hgr3 hbq3 HX2 HB2 r3 HRY HSZ
      go_upto_region 6 with (fail)
      obtain ⟨w4, hw4⟩ : ∃ z, z = w3.alloc (.cells (rpcC m (.slice AV m.ents.length cV)).toArray 27) := ⟨_, rfl⟩
      obtain ⟨g, hg⟩ : ∃ z, z = w3.heap.size := ⟨_, rfl⟩
      have hb4 : Below w3.heap.size w3 w4 := by rw [hw4]; exact (Below.refl _ _).alloc (Nat.le_refl _) _
      have hs3 : p ≤ w3.heap.size := by have := HX3.out.size; have := HPP.out; omega
      have HX4 : Hid (Below p w w4) := Lib.hid (HX3.out.trans (hb4.mono hs3))
      have HB4 : Hid (Blk w4 p 27 _) := Lib.hid (HB3.out.ext hb4 (Nat.le_refl _))
      have HQ4 := Lib.hid (HQ3.out.ext hb4 (Nat.le_refl _))
      have HR4 := Lib.hid (HR3.out.ext hb4 (Nat.le_refl _))
      have HO4 := Lib.hid (own_ext HO3.out hb4 (Nat.le_refl _))
      have HRA4 := Lib.hid (HRZ.out.ext hb4 (Nat.le_refl _))
      have HG4 : Hid (Blk w4 g 27 (rpcC m (.slice AV m.ents.length cV))) := Lib.hid (by rw [hw4, hg]; exact Blk.new _ _ _)
      have hpg : p + 1 ≤ w4.heap.size := Nat.succ_le_of_lt HB4.out.lt
      have q1 := HQ4.out.cell (o := 1) rfl
      have HMY := Lib.hid (May_any w4 m AV cV HR4.out (by have := HML.out; omega) HMI.out)
      unfold rpcC at hw4 HG4
      unfold rpcV at HMY
      rw [← hw4]
      rw [← hg]
      clear hw4 hg hb4 HX3 HB3 HQ3 HQ4 HR3 HO3 HRZ hs3
      obtain ⟨tb, htb⟩ : ∃ z, z = st.2 := ⟨_, rfl⟩
      rw [← htb] at q1 HDE
      clear htb
      cases tb with
      | true =>
        have HD : Hid (decR bs = none) := Lib.hid (HDE.out.trans (if_neg (fun h => by cases h.1)))
        clear HMY HDE HR4 HO4 HRA4 HG4 HMI HML HMD
        have z0 := HB4.out.cell (o := 0) rfl
        have z1 := HB4.out.cell (o := 1) rfl
        have z2 := HB4.out.cell (o := 2) rfl
        have z3 := HB4.out.cell (o := 3) rfl
        have z4 := HB4.out.cell (o := 4) rfl
        have z5 := HB4.out.cell (o := 5) rfl
        have z6 := HB4.out.cell (o := 6) rfl
        have z7 := HB4.out.cell (o := 7) rfl
        have z8 := HB4.out.cell (o := 8) rfl
        have z9 := HB4.out.cell (o := 9) rfl
        have z10 := HB4.out.cell (o := 10) rfl
        have z11 := HB4.out.cell (o := 11) rfl
        have z12 := HB4.out.cell (o := 12) rfl
        have y0 := HB4.out.froz 0
        have y1 := HB4.out.froz 1
        have y2 := HB4.out.froz 2
        have y3 := HB4.out.froz 3
        have y4 := HB4.out.froz 4
        have y5 := HB4.out.froz 5
        have y6 := HB4.out.froz 6
        have y7 := HB4.out.froz 7
        have y8 := HB4.out.froz 8
        have y9 := HB4.out.froz 9
        have y10 := HB4.out.froz 10
        have y11 := HB4.out.froz 11
        have y12 := HB4.out.froz 12
        have HE9 := Lib.hid (put13_blk (.int .i64 0) (.int .i64 0) (.int .i64 0) (.int .i64 0) (.int .i64 0) (.int .i64 0) (.int .i64 0) (.int .i64 0) (.bool false) (.slice none 0 0) (.int .i64 0) (.string ⟨#[]⟩) (.bool false) HB4.out)
        have e0 := HE9.out.cell (o := 0) rfl
        have e1 := HE9.out.cell (o := 1) rfl
        have e2 := HE9.out.cell (o := 2) rfl
        have e3 := HE9.out.cell (o := 3) rfl
        have e4 := HE9.out.cell (o := 4) rfl
        have e5 := HE9.out.cell (o := 5) rfl
        have e6 := HE9.out.cell (o := 6) rfl
        have e7 := HE9.out.cell (o := 7) rfl
        have e8 := HE9.out.cell (o := 8) rfl
        have e9 := HE9.out.cell (o := 9) rfl
        have e10 := HE9.out.cell (o := 10) rfl
        have e11 := HE9.out.cell (o := 11) rfl
        have e12 := HE9.out.cell (o := 12) rfl
        unfold put13 at e0 e1 e2 e3 e4 e5 e6 e7 e8 e9 e10 e11 e12
        have HF9 : Hid (∀ w8, w8 = put13 w4 p (.int .i64 0) (.int .i64 0) (.int .i64 0) (.int .i64 0) (.int .i64 0) (.int .i64 0) (.int .i64 0) (.int .i64 0) (.bool false) (.slice none 0 0) (.int .i64 0) (.string ⟨#[]⟩) (.bool false) → Below w.heap.size w w8) := Lib.hid (fun w8 e8 => by rw [e8, ← HPP.out]; exact HX4.out.grown (put13_chg w4 p (.int .i64 0) (.int .i64 0) (.int .i64 0) (.int .i64 0) (.int .i64 0) (.int .i64 0) (.int .i64 0) (.int .i64 0) (.bool false) (.slice none 0 0) (.int .i64 0) (.string ⟨#[]⟩) (.bool false)).1 (by have := HX4.out.size; have := HPP.out; omega) (fun k hk => by cases hk; omega))
        unfold put13 at HF9
        have HDN := HD
        clear HE9 HB4
        go_wp2_with fail
        show bodyPost Try.prog Try.f6 _ _ _ _
        refine bodyPost_ret (v := .tuple #[rpcV noR (.slice none 0 0), .int .i64 1]) (by simp [results, rpcV, noR, Try.results6, go_sem, *]) rfl ?_
        exact ⟨HF9.out _ rfl, .inl ⟨HDN.out, rfl⟩⟩
      | false =>
        have f0 := HG4.out.cell (o := 0) rfl
        have f1 := HG4.out.cell (o := 1) rfl
        have f2 := HG4.out.cell (o := 2) rfl
        have f3 := HG4.out.cell (o := 3) rfl
        have f4 := HG4.out.cell (o := 4) rfl
        have f5 := HG4.out.cell (o := 5) rfl
        have f6 := HG4.out.cell (o := 6) rfl
        have f7 := HG4.out.cell (o := 7) rfl
        have f8 := HG4.out.cell (o := 8) rfl
        have f9 := HG4.out.cell (o := 9) rfl
        have f10 := HG4.out.cell (o := 10) rfl
        have f11 := HG4.out.cell (o := 11) rfl
        have f12 := HG4.out.cell (o := 12) rfl
        obtain ⟨tm, htm⟩ : ∃ z, z = mayR m := ⟨_, rfl⟩
        have HTM := Lib.hid htm
        rw [← htm] at HMY HDE
        clear htm
        go_upto_region 6 with (fail)
        go_wp2_with fail
        refine HMY.out.mono ?_
        rintro e w5 ⟨rfl, hb5⟩
        have HX5 : Hid (Below p w w5) := Lib.hid (HX4.out.trans (hb5.mono (by omega)))
        have HB5 : Hid (Blk w5 p 27 _) := Lib.hid (HB4.out.ext hb5 (Nat.le_refl _))
        have HG5 := Lib.hid (HG4.out.ext hb5 (Nat.le_refl _))
        have HR5 := Lib.hid (HR4.out.ext hb5 (Nat.le_refl _))
        have HO5 := Lib.hid (own_ext HO4.out hb5 (Nat.le_refl _))
        have HRA5 := Lib.hid (HRA4.out.ext hb5 (Nat.le_refl _))
        have hp5 : p + 1 ≤ w5.heap.size := Nat.le_trans hpg hb5.size
        clear hb5 HMY HX4 HB4 HG4 HR4 HO4 HRA4 q1 f0 f1 f2 f3 f4 f5 f6 f7 f8 f9 f10 f11 f12
        cases tm with
        | false =>
          have HD : Hid (decR bs = none) := Lib.hid (HDE.out.trans (if_neg (fun h => by cases h.2.1)))
          clear HDE HR5 HO5 HRA5 HG5 HMI HML HMD HTM
          have z0 := HB5.out.cell (o := 0) rfl
          have z1 := HB5.out.cell (o := 1) rfl
          have z2 := HB5.out.cell (o := 2) rfl
          have z3 := HB5.out.cell (o := 3) rfl
          have z4 := HB5.out.cell (o := 4) rfl
          have z5 := HB5.out.cell (o := 5) rfl
          have z6 := HB5.out.cell (o := 6) rfl
          have z7 := HB5.out.cell (o := 7) rfl
          have z8 := HB5.out.cell (o := 8) rfl
          have z9 := HB5.out.cell (o := 9) rfl
          have z10 := HB5.out.cell (o := 10) rfl
          have z11 := HB5.out.cell (o := 11) rfl
          have z12 := HB5.out.cell (o := 12) rfl
          have y0 := HB5.out.froz 0
          have y1 := HB5.out.froz 1
          have y2 := HB5.out.froz 2
          have y3 := HB5.out.froz 3
          have y4 := HB5.out.froz 4
          have y5 := HB5.out.froz 5
          have y6 := HB5.out.froz 6
          have y7 := HB5.out.froz 7
          have y8 := HB5.out.froz 8
          have y9 := HB5.out.froz 9
          have y10 := HB5.out.froz 10
          have y11 := HB5.out.froz 11
          have y12 := HB5.out.froz 12
          have HE9 := Lib.hid (put13_blk (.int .i64 0) (.int .i64 0) (.int .i64 0) (.int .i64 0) (.int .i64 0) (.int .i64 0) (.int .i64 0) (.int .i64 0) (.bool false) (.slice none 0 0) (.int .i64 0) (.string ⟨#[]⟩) (.bool false) HB5.out)
          have e0 := HE9.out.cell (o := 0) rfl
          have e1 := HE9.out.cell (o := 1) rfl
          have e2 := HE9.out.cell (o := 2) rfl
          have e3 := HE9.out.cell (o := 3) rfl
          have e4 := HE9.out.cell (o := 4) rfl
          have e5 := HE9.out.cell (o := 5) rfl
          have e6 := HE9.out.cell (o := 6) rfl
          have e7 := HE9.out.cell (o := 7) rfl
          have e8 := HE9.out.cell (o := 8) rfl
          have e9 := HE9.out.cell (o := 9) rfl
          have e10 := HE9.out.cell (o := 10) rfl
          have e11 := HE9.out.cell (o := 11) rfl
          have e12 := HE9.out.cell (o := 12) rfl
          unfold put13 at e0 e1 e2 e3 e4 e5 e6 e7 e8 e9 e10 e11 e12
          have HF9 : Hid (∀ w8, w8 = put13 w5 p (.int .i64 0) (.int .i64 0) (.int .i64 0) (.int .i64 0) (.int .i64 0) (.int .i64 0) (.int .i64 0) (.int .i64 0) (.bool false) (.slice none 0 0) (.int .i64 0) (.string ⟨#[]⟩) (.bool false) → Below w.heap.size w w8) := Lib.hid (fun w8 e8 => by rw [e8, ← HPP.out]; exact HX5.out.grown (put13_chg w5 p (.int .i64 0) (.int .i64 0) (.int .i64 0) (.int .i64 0) (.int .i64 0) (.int .i64 0) (.int .i64 0) (.int .i64 0) (.bool false) (.slice none 0 0) (.int .i64 0) (.string ⟨#[]⟩) (.bool false)).1 (by have := HX5.out.size; have := HPP.out; omega) (fun k hk => by cases hk; omega))
          unfold put13 at HF9
          have HDN := HD
          clear HE9 HB5
          go_wp2_with fail
          show bodyPost Try.prog Try.f6 _ _ _ _
          refine bodyPost_ret (v := .tuple #[rpcV noR (.slice none 0 0), .int .i64 1]) (by simp [results, rpcV, noR, Try.results6, go_sem, *]) rfl ?_
          exact ⟨HF9.out _ rfl, .inl ⟨HDN.out, rfl⟩⟩
        | true =>
          have f0 := HG5.out.cell (o := 0) rfl
          have f1 := HG5.out.cell (o := 1) rfl
          have f2 := HG5.out.cell (o := 2) rfl
          have f3 := HG5.out.cell (o := 3) rfl
          have f4 := HG5.out.cell (o := 4) rfl
          have f5 := HG5.out.cell (o := 5) rfl
          have f6 := HG5.out.cell (o := 6) rfl
          have f7 := HG5.out.cell (o := 7) rfl
          have f8 := HG5.out.cell (o := 8) rfl
          have f9 := HG5.out.cell (o := 9) rfl
          have f10 := HG5.out.cell (o := 10) rfl
          have f11 := HG5.out.cell (o := 11) rfl
          have f12 := HG5.out.cell (o := 12) rfl
          have HLA := Lib.hid (rpcLay_any w5 m AV cV HR5.out (by have := (mayR_good HTM.out.symm).1; omega) (mayR_layable HTM.out.symm) ⟨by have := HMD.out; omega, fun e he => by have := ((mayR_good HTM.out.symm).2 e he).2.2.2.2; omega⟩)
          unfold rpcV at HLA
          clear HML HMD HMI
          go_upto_region 8 with (fail)
          go_wp2_with fail
          refine HLA.out.mono ?_
          rintro e w6 ⟨hb6, ⟨hno, rfl⟩ | ⟨b2, v2, hl2, rfl, hown2⟩⟩
          · have HX6 : Hid (Below p w w6) := Lib.hid (HX5.out.trans (hb6.mono (by omega)))
            have HB6 : Hid (Blk w6 p 27 _) := Lib.hid (HB5.out.ext hb6 (Nat.le_refl _))
            have HD : Hid (decR bs = none) := Lib.hid (HDE.out.trans (if_neg (fun h => by rw [hno] at h; cases h.2.2)))
            have HEQ := Lib.hid (bytesEqual_any w6 none 0 0 [] rfl (Rds.nil _ _) A (k + 4) c bs HN.out (HRA5.out.ext hb6 (Nat.le_refl _)))
            rw [decide_eq_false (fun h => by have := HN.out; rw [← h] at this; simp at this)] at HEQ
            clear hno hb6 HLA HDE HR5 HO5 HRA5 HG5 HX5 HB5 HTM f0 f1 f2 f3 f4 f5 f6 f7 f8 f9 f10 f11 f12
            go_wp2_with fail
            refine HEQ.out.mono ?_
            rintro e w7 ⟨rfl, rfl⟩
            have z0 := HB6.out.cell (o := 0) rfl
            have z1 := HB6.out.cell (o := 1) rfl
            have z2 := HB6.out.cell (o := 2) rfl
            have z3 := HB6.out.cell (o := 3) rfl
            have z4 := HB6.out.cell (o := 4) rfl
            have z5 := HB6.out.cell (o := 5) rfl
            have z6 := HB6.out.cell (o := 6) rfl
            have z7 := HB6.out.cell (o := 7) rfl
            have z8 := HB6.out.cell (o := 8) rfl
            have z9 := HB6.out.cell (o := 9) rfl
            have z10 := HB6.out.cell (o := 10) rfl
            have z11 := HB6.out.cell (o := 11) rfl
            have z12 := HB6.out.cell (o := 12) rfl
            have y0 := HB6.out.froz 0
            have y1 := HB6.out.froz 1
            have y2 := HB6.out.froz 2
            have y3 := HB6.out.froz 3
            have y4 := HB6.out.froz 4
            have y5 := HB6.out.froz 5
            have y6 := HB6.out.froz 6
            have y7 := HB6.out.froz 7
            have y8 := HB6.out.froz 8
            have y9 := HB6.out.froz 9
            have y10 := HB6.out.froz 10
            have y11 := HB6.out.froz 11
            have y12 := HB6.out.froz 12
            have HE9 := Lib.hid (put13_blk (.int .i64 0) (.int .i64 0) (.int .i64 0) (.int .i64 0) (.int .i64 0) (.int .i64 0) (.int .i64 0) (.int .i64 0) (.bool false) (.slice none 0 0) (.int .i64 0) (.string ⟨#[]⟩) (.bool false) HB6.out)
            have e0 := HE9.out.cell (o := 0) rfl
            have e1 := HE9.out.cell (o := 1) rfl
            have e2 := HE9.out.cell (o := 2) rfl
            have e3 := HE9.out.cell (o := 3) rfl
            have e4 := HE9.out.cell (o := 4) rfl
            have e5 := HE9.out.cell (o := 5) rfl
            have e6 := HE9.out.cell (o := 6) rfl
            have e7 := HE9.out.cell (o := 7) rfl
            have e8 := HE9.out.cell (o := 8) rfl
            have e9 := HE9.out.cell (o := 9) rfl
            have e10 := HE9.out.cell (o := 10) rfl
            have e11 := HE9.out.cell (o := 11) rfl
            have e12 := HE9.out.cell (o := 12) rfl
            unfold put13 at e0 e1 e2 e3 e4 e5 e6 e7 e8 e9 e10 e11 e12
            have HF9 : Hid (∀ w8, w8 = put13 w6 p (.int .i64 0) (.int .i64 0) (.int .i64 0) (.int .i64 0) (.int .i64 0) (.int .i64 0) (.int .i64 0) (.int .i64 0) (.bool false) (.slice none 0 0) (.int .i64 0) (.string ⟨#[]⟩) (.bool false) → Below w.heap.size w w8) := Lib.hid (fun w8 e8 => by rw [e8, ← HPP.out]; exact HX6.out.grown (put13_chg w6 p (.int .i64 0) (.int .i64 0) (.int .i64 0) (.int .i64 0) (.int .i64 0) (.int .i64 0) (.int .i64 0) (.int .i64 0) (.bool false) (.slice none 0 0) (.int .i64 0) (.string ⟨#[]⟩) (.bool false)).1 (by have := HX6.out.size; have := HPP.out; omega) (fun k hk => by cases hk; omega))
            unfold put13 at HF9
            have HDN := HD
            clear HE9 HB6
            go_wp2_with fail
            show bodyPost Try.prog Try.f6 _ _ _ _
            refine bodyPost_ret (v := .tuple #[rpcV noR (.slice none 0 0), .int .i64 1]) (by simp [results, rpcV, noR, Try.results6, go_sem, *]) rfl ?_
            exact ⟨HF9.out _ rfl, .inl ⟨HDN.out, rfl⟩⟩
          · have HX6 : Hid (Below p w w6) := Lib.hid (HX5.out.trans (hb6.mono (by omega)))
            have HB6 : Hid (Blk w6 p 27 _) := Lib.hid (HB5.out.ext hb6 (Nat.le_refl _))
            have HG6 := Lib.hid (HG5.out.ext hb6 (Nat.le_refl _))
            have HO6 := Lib.hid (own_ext HO5.out hb6 (Nat.le_refl _))
            obtain ⟨A6, c6, rfl, _, _, _, r6, _⟩ := own_rds hown2
            have HEQ := Lib.hid (bytesEqual_any w6 A6 b2.length c6 b2 rfl r6 A (k + 4) c bs HN.out (HRA5.out.ext hb6 (Nat.le_refl _)))
            have HL2 := Lib.hid hl2
            have hp6 : p + 1 ≤ w6.heap.size := Nat.le_trans hp5 hb6.size
            clear hb6 hown2 r6 hl2 HLA HR5 HO5 HRA5 HG5 HX5 HB5 f0 f1 f2 f3 f4 f5 f6 f7 f8 f9 f10 f11 f12
            by_cases hbb : b2 = bs
            · have HD : Hid (decR bs = some m) := Lib.hid (HDE.out.trans (if_pos ⟨by first | trivial | rfl, by first | trivial | rfl, by rw [HL2.out, hbb]⟩))
              rw [decide_eq_true hbb] at HEQ
              clear hbb HL2 HDE
              go_wp2_with fail
              refine HEQ.out.mono ?_
              rintro e w7 ⟨rfl, rfl⟩
              have f0 := HG6.out.cell (o := 0) rfl
              have f1 := HG6.out.cell (o := 1) rfl
              have f2 := HG6.out.cell (o := 2) rfl
              have f3 := HG6.out.cell (o := 3) rfl
              have f4 := HG6.out.cell (o := 4) rfl
              have f5 := HG6.out.cell (o := 5) rfl
              have f6 := HG6.out.cell (o := 6) rfl
              have f7 := HG6.out.cell (o := 7) rfl
              have f8 := HG6.out.cell (o := 8) rfl
              have f9 := HG6.out.cell (o := 9) rfl
              have f10 := HG6.out.cell (o := 10) rfl
              have f11 := HG6.out.cell (o := 11) rfl
              have f12 := HG6.out.cell (o := 12) rfl
              have z0 := HB6.out.cell (o := 0) rfl
              have z1 := HB6.out.cell (o := 1) rfl
              have z2 := HB6.out.cell (o := 2) rfl
              have z3 := HB6.out.cell (o := 3) rfl
              have z4 := HB6.out.cell (o := 4) rfl
              have z5 := HB6.out.cell (o := 5) rfl
              have z6 := HB6.out.cell (o := 6) rfl
              have z7 := HB6.out.cell (o := 7) rfl
              have z8 := HB6.out.cell (o := 8) rfl
              have z9 := HB6.out.cell (o := 9) rfl
              have z10 := HB6.out.cell (o := 10) rfl
              have z11 := HB6.out.cell (o := 11) rfl
              have z12 := HB6.out.cell (o := 12) rfl
              have y0 := HB6.out.froz 0
              have y1 := HB6.out.froz 1
              have y2 := HB6.out.froz 2
              have y3 := HB6.out.froz 3
              have y4 := HB6.out.froz 4
              have y5 := HB6.out.froz 5
              have y6 := HB6.out.froz 6
              have y7 := HB6.out.froz 7
              have y8 := HB6.out.froz 8
              have y9 := HB6.out.froz 9
              have y10 := HB6.out.froz 10
              have y11 := HB6.out.froz 11
              have y12 := HB6.out.froz 12
              have HE9 := Lib.hid (put13_blk (.int .i64 m.knd) (.int .i64 m.frm) (.int .i64 m.tto) (.int .i64 m.trm) (.int .i64 m.idx) (.int .i64 m.lgt) (.int .i64 m.com) (.int .i64 m.rnd) (.bool m.ok) (.slice AV m.ents.length cV) (.int .i64 m.att) (.string m.dat) (.bool m.don) HB6.out)
              have e0 := HE9.out.cell (o := 0) rfl
              have e1 := HE9.out.cell (o := 1) rfl
              have e2 := HE9.out.cell (o := 2) rfl
              have e3 := HE9.out.cell (o := 3) rfl
              have e4 := HE9.out.cell (o := 4) rfl
              have e5 := HE9.out.cell (o := 5) rfl
              have e6 := HE9.out.cell (o := 6) rfl
              have e7 := HE9.out.cell (o := 7) rfl
              have e8 := HE9.out.cell (o := 8) rfl
              have e9 := HE9.out.cell (o := 9) rfl
              have e10 := HE9.out.cell (o := 10) rfl
              have e11 := HE9.out.cell (o := 11) rfl
              have e12 := HE9.out.cell (o := 12) rfl
              unfold put13 at e0 e1 e2 e3 e4 e5 e6 e7 e8 e9 e10 e11 e12
              have HF9 : Hid (∀ w8, w8 = put13 w6 p (.int .i64 m.knd) (.int .i64 m.frm) (.int .i64 m.tto) (.int .i64 m.trm) (.int .i64 m.idx) (.int .i64 m.lgt) (.int .i64 m.com) (.int .i64 m.rnd) (.bool m.ok) (.slice AV m.ents.length cV) (.int .i64 m.att) (.string m.dat) (.bool m.don) → Below w.heap.size w w8 ∧ w8.ownsRow w.heap.size 41 3 (.slice AV m.ents.length cV) m.ents.length (entsC m.ents)) := Lib.hid (fun w8 e8 => by
                rw [e8, ← HPP.out]
                have hch := (put13_chg w6 p (.int .i64 m.knd) (.int .i64 m.frm) (.int .i64 m.tto) (.int .i64 m.trm) (.int .i64 m.idx) (.int .i64 m.lgt) (.int .i64 m.com) (.int .i64 m.rnd) (.bool m.ok) (.slice AV m.ents.length cV) (.int .i64 m.att) (.string m.dat) (.bool m.don)).1
                exact ⟨HX6.out.grown hch (by omega) (fun k hk => by cases hk; omega), own_lower (own_grown HO6.out hch (fun z hz e => by have := (HO6.out.lt z hz).1; have e2 := Option.some.inj e; omega)) (by omega)⟩)
              unfold put13 at HF9
              clear HE9 HB6 HG6
              go_wp2_with fail
              show bodyPost Try.prog Try.f6 _ _ _ _
              refine bodyPost_ret (v := .tuple #[rpcV m (.slice AV m.ents.length cV), .int .i64 0]) (by simp [results, rpcV, Try.results6, go_sem, *]) rfl ?_
              have h9 := HF9.out _ rfl
              exact ⟨h9.1, .inr ⟨m, _, HD.out, rfl, h9.2⟩⟩
            · have HD : Hid (decR bs = none) := Lib.hid (HDE.out.trans (if_neg (fun h => hbb (by have := h.2.2; rw [HL2.out] at this; exact Option.some.inj this))))
              rw [decide_eq_false hbb] at HEQ
              clear hbb HL2 HDE HO6 HG6
              go_wp2_with fail
              refine HEQ.out.mono ?_
              rintro e w7 ⟨rfl, rfl⟩
              have z0 := HB6.out.cell (o := 0) rfl
              have z1 := HB6.out.cell (o := 1) rfl
              have z2 := HB6.out.cell (o := 2) rfl
              have z3 := HB6.out.cell (o := 3) rfl
              have z4 := HB6.out.cell (o := 4) rfl
              have z5 := HB6.out.cell (o := 5) rfl
              have z6 := HB6.out.cell (o := 6) rfl
              have z7 := HB6.out.cell (o := 7) rfl
              have z8 := HB6.out.cell (o := 8) rfl
              have z9 := HB6.out.cell (o := 9) rfl
              have z10 := HB6.out.cell (o := 10) rfl
              have z11 := HB6.out.cell (o := 11) rfl
              have z12 := HB6.out.cell (o := 12) rfl
              have y0 := HB6.out.froz 0
              have y1 := HB6.out.froz 1
              have y2 := HB6.out.froz 2
              have y3 := HB6.out.froz 3
              have y4 := HB6.out.froz 4
              have y5 := HB6.out.froz 5
              have y6 := HB6.out.froz 6
              have y7 := HB6.out.froz 7
              have y8 := HB6.out.froz 8
              have y9 := HB6.out.froz 9
              have y10 := HB6.out.froz 10
              have y11 := HB6.out.froz 11
              have y12 := HB6.out.froz 12
              have HE9 := Lib.hid (put13_blk (.int .i64 0) (.int .i64 0) (.int .i64 0) (.int .i64 0) (.int .i64 0) (.int .i64 0) (.int .i64 0) (.int .i64 0) (.bool false) (.slice none 0 0) (.int .i64 0) (.string ⟨#[]⟩) (.bool false) HB6.out)
              have e0 := HE9.out.cell (o := 0) rfl
              have e1 := HE9.out.cell (o := 1) rfl
              have e2 := HE9.out.cell (o := 2) rfl
              have e3 := HE9.out.cell (o := 3) rfl
              have e4 := HE9.out.cell (o := 4) rfl
              have e5 := HE9.out.cell (o := 5) rfl
              have e6 := HE9.out.cell (o := 6) rfl
              have e7 := HE9.out.cell (o := 7) rfl
              have e8 := HE9.out.cell (o := 8) rfl
              have e9 := HE9.out.cell (o := 9) rfl
              have e10 := HE9.out.cell (o := 10) rfl
              have e11 := HE9.out.cell (o := 11) rfl
              have e12 := HE9.out.cell (o := 12) rfl
              unfold put13 at e0 e1 e2 e3 e4 e5 e6 e7 e8 e9 e10 e11 e12
              have HF9 : Hid (∀ w8, w8 = put13 w6 p (.int .i64 0) (.int .i64 0) (.int .i64 0) (.int .i64 0) (.int .i64 0) (.int .i64 0) (.int .i64 0) (.int .i64 0) (.bool false) (.slice none 0 0) (.int .i64 0) (.string ⟨#[]⟩) (.bool false) → Below w.heap.size w w8) := Lib.hid (fun w8 e8 => by rw [e8, ← HPP.out]; exact HX6.out.grown (put13_chg w6 p (.int .i64 0) (.int .i64 0) (.int .i64 0) (.int .i64 0) (.int .i64 0) (.int .i64 0) (.int .i64 0) (.int .i64 0) (.bool false) (.slice none 0 0) (.int .i64 0) (.string ⟨#[]⟩) (.bool false)).1 (by have := HX6.out.size; have := HPP.out; omega) (fun k hk => by cases hk; omega))
              unfold put13 at HF9
              have HDN := HD
              clear HE9 HB6
              go_wp2_with fail
              show bodyPost Try.prog Try.f6 _ _ _ _
              refine bodyPost_ret (v := .tuple #[rpcV noR (.slice none 0 0), .int .i64 1]) (by simp [results, rpcV, noR, Try.results6, go_sem, *]) rfl ?_
              exact ⟨HF9.out _ rfl, .inl ⟨HDN.out, rfl⟩⟩
end Go.Proofs.Ytdbpgcaoakoojaa
