/- The walk of the law RpcGreat. -/
import Derived.Test.YtdbpgcaoakoojaaRpcG
import Derived.Test.YtdbpgcaoakoojaaRpcC
import Derived.Test.YtdbpgcaoakoojaaRpcD
import Derived.Test.YtdbpgcaoakoojaaRpcH
import Derived.Test.YtdbpgcaoakoojaaRpcV
import Derived.Test.YtdbpgcaoakoojaaAppAt
import Derived.Test.YtdbpgcaoakoojaaRgn
set_option linter.unusedVariables false
set_option linter.unusedSimpArgs false
namespace Go.Proofs.Ytdbpgcaoakoojaa
open Go.RowKit Lec
theorem wrap_idG {n : Int} (h : -9223372036854775808 ≤ n ∧ n ≤ 9223372036854775807) : IntKind.i64.wrap n = n := by
  rw [IntWalk.i64_left]; exact IntWalk.wrap64_in n h
theorem own_neG {w : World} {B : Nat} {e T : TypeId} {size : Nat} {v : Value} {n : Nat} {xs : List Value} {b : Nat} {cs : Array Value} {fr : Nat × Nat} (hown : w.ownsRow B e size v n xs) (hb : w.heap[b]? = some (.cells cs T fr)) (hTe : T ≠ e) : v.ownBlock ≠ some b := by
  rcases hown.2 with ⟨rfl, _⟩ | ⟨g, cap, cur, rfl, _, hg, _⟩
  · simp [Value.ownBlock]
  · intro h
    have hgb : g = b := by simpa [Value.ownBlock] using h
    subst hgb
    rw [hb] at hg
    injection hg with hg
    injection hg with _ h2 _
    exact hTe h2
theorem info_u8G : (Try.prog.info? 5).map (fun i => (i.zero, i.size, i.bytes)) = some (some (.int .u8 0), 1, 1) := by kernel_rfl
/-- make([]byte, n). -/
theorem mk_bytesG (n : Nat) (hn : n ≤ 1000000000) (w : World) : (Instr.makeSlice 23 (.int .i64 (n : Int)) (.int .i64 (n : Int))).run Try.prog w = .ok (.slice (some ⟨w.heap.size, 0, none⟩) n n) (w.alloc (.cells (Array.replicate n (Value.int .u8 0)) 5)) := by
  obtain ⟨i, hi, hz, hs, hy⟩ := info_parts info_u8G
  have h := run_make w 23 5 i (.int .u8 0) Try.underlying23 hi hz .i64 .i64 (n : Int) (n : Int) (by omega) (by omega) (by rw [hy]; omega) (by omega)
  rw [h, hs]
  simp only [Int.toNat_natCast, Nat.mul_one]
  rw [show madeCells (Value.int .u8 0).cells n = Array.replicate n (Value.int .u8 0) from by rw [show Array.replicate n (Value.int .u8 0) = (List.replicate n (Value.int .u8 0)).toArray by simp, ← toList_madeCells_one]; rfl]
theorem conv_bytesG (n : Nat) (w : World) : (convert 23 9 (.slice (some ⟨w.heap.size, 0, none⟩) n n)).run Try.prog (w.alloc (.cells (Array.replicate n (Value.int .u8 0)) 5)).drew = .ok (.string (zerosG n)) (w.alloc (.cells (Array.replicate n (Value.int .u8 0)) 5)).drew :=
  conv_str _ 23 9 5 Try.underlying23 Try.underlying5 Try.underlying9 _ n n (List.replicate n 0) (by simp) (by
    have h := (Blk.new w (Array.replicate n (Value.int .u8 0)) 5).rds
    have e : (Array.replicate n (Value.int .u8 0)).toList = bytesV (List.replicate n 0) := by unfold bytesV; rw [List.map_replicate, Array.toList_replicate]; rfl
    rw [e] at h
    exact h.ext (below_drewA (Below.refl _ _)) (Nat.le_refl _))
theorem conv_bytesH (n : Nat) (w : World) : (convert 23 9 (.slice (some ⟨w.heap.size, 0, none⟩) n n)).run Try.prog (w.alloc (.cells (Array.replicate n (Value.int .u8 0)) 5)) = .ok (.string (zerosG n)) (w.alloc (.cells (Array.replicate n (Value.int .u8 0)) 5)) :=
  conv_str _ 23 9 5 Try.underlying23 Try.underlying5 Try.underlying9 _ n n (List.replicate n 0) (by simp) (by
    have h := (Blk.new w (Array.replicate n (Value.int .u8 0)) 5).rds
    have e : (Array.replicate n (Value.int .u8 0)).toList = bytesV (List.replicate n 0) := by unfold bytesV; rw [List.map_replicate, Array.toList_replicate]; rfl
    rwa [e] at h)
set_option maxRecDepth 100000 in
set_option maxHeartbeats 16000000 in
theorem RpcGreat_walk (W : World) (LA : Option Addr) (LN LC : Nat) :
    Calls Try.prog 4 #[.slice LA LN LC] W fun e w' => e = .returned (.bool true) ∧ Below W.heap.size W w' := by
  go_enter Try.func4, Try.ntmps4
  go_upto_region 3 with (fail)
  obtain ⟨p, hp⟩ : ∃ z, z = W.heap.size := ⟨_, rfl⟩
  obtain ⟨w0, hw0⟩ : ∃ z, z = W.alloc (.cells #[.int .i64 3, .int .i64 7, .int .i64 1, .int .i64 1099511627775, .int .i64 1099511627759, .int .i64 1099511627775, .int .i64 1099511627775, .int .i64 1099511627775, .bool false, .slice none 0 0, .int .i64 0, .string ⟨#[]⟩, .bool false] 27) := ⟨_, rfl⟩
  have HX0 : Hid (Below p W w0) := Lib.hid (by rw [hw0, hp]; exact (Below.refl _ _).alloc (Nat.le_refl _) _)
  have HB0 : Hid (Blk w0 p 27 [.int .i64 3, .int .i64 7, .int .i64 1, .int .i64 1099511627775, .int .i64 1099511627759, .int .i64 1099511627775, .int .i64 1099511627775, .int .i64 1099511627775, .bool false, .slice none 0 0, .int .i64 0, .string ⟨#[]⟩, .bool false]) := Lib.hid (by rw [hw0, hp]; exact Blk.new _ _ _)
  have hs0 : p + 1 ≤ w0.heap.size := by rw [hw0, hp, World.size_alloc]; exact Nat.le_refl _
  rw [← hw0]
  rw [← hp]
  have HPP := Lib.hid hp
  clear hw0 hp
  go_wp2
  go_loopw [5] (fun i wx => ∃ k : Nat, k ≤ 16 ∧ i = .int .i64 ((k : Int) + 1) ∧ ∃ (AV : Option Addr) (cV : Nat), Hid (Blk wx p 27 [.int .i64 3, .int .i64 7, .int .i64 1, .int .i64 1099511627775, .int .i64 1099511627759, .int .i64 1099511627775, .int .i64 1099511627775, .int .i64 1099511627775, .bool false, .slice AV k cV, .int .i64 0, .string ⟨#[]⟩, .bool false]) ∧ Hid (wx.ownsRow (p + 1) 41 3 (.slice AV k cV) k (entsC (entsG k))) ∧ Hid (Below p W wx)) (fun i _ => 17 - (intOf i).toNat)
  case atStart => exact ⟨0, by omega, rfl, none, 0, HB0, Lib.hid (World.ownsRow_nil _ _ _ _), HX0⟩
  case round =>
    obtain ⟨k, hk, rfl, AV, cV, HB, HO, HX⟩ := hrel
    by_cases h8 : k < 16
    · have h8i : (k : Int) + 1 ≤ 16 := by omega
      have HTK := Lib.hid (entsG_step k)
      have c9 := HB.out.cell (o := 9) rfl
      have y9 := HB.out.froz 9
      obtain ⟨N, hN⟩ : ∃ N : Nat, N = 100 * (k + 1) := ⟨_, rfl⟩
      have HNN := Lib.hid hN
      have hmk : ∀ w, (Instr.makeSlice 23 (.int .i64 (100 * ((k : Int) + 1))) (.int .i64 (100 * ((k : Int) + 1)))).run Try.prog w = .ok (.slice (some ⟨w.heap.size, 0, none⟩) N N) (w.alloc (.cells (Array.replicate N (Value.int .u8 0)) 5)) := fun w => by
        have h := mk_bytesG N (by omega) w
        rwa [show ((N : Nat) : Int) = 100 * ((k : Int) + 1) by omega] at h
      have hcv := conv_bytesG N wr
      obtain ⟨z, hz⟩ : ∃ z, z = zerosG N := ⟨_, rfl⟩
      rw [← hz] at hcv
      have HTE : Hid (entsC (entsG (k + 1)) = entsC (entsG k) ++ [.int .i64 (1099511627759 + ((k : Int) + 1)), .int .i64 1099511627775, .string z]) := Lib.hid (by rw [HTK.out, entsC_app, hz, hN]; rfl)
      clear hN hz
      obtain ⟨wm, hwm⟩ : ∃ x, x = wr.alloc (.cells (Array.replicate N (Value.int .u8 0)) 5) := ⟨_, rfl⟩
      have HBM : Hid (Below wr.heap.size wr wm) := Lib.hid (by rw [hwm]; exact (Below.refl wr.heap.size wr).alloc (Nat.le_refl _) _)
      have hsm : wm.heap.size = wr.heap.size + 1 := by rw [hwm, World.size_alloc]
      have HWM : Hid (wr.alloc (.cells (Array.replicate N (Value.int .u8 0)) 5) = wm) := Lib.hid hwm.symm
      have HBN : Hid (Below wr.heap.size wr (wm.alloc (.cells #[.int .i64 (1099511627759 + ((k : Int) + 1)), .int .i64 1099511627775, .string z] 41)).drew) := Lib.hid (below_drewA (HBM.out.alloc (by omega) _))
      have HRN : Hid (Rds (wm.alloc (.cells #[.int .i64 (1099511627759 + ((k : Int) + 1)), .int .i64 1099511627775, .string z] 41)).drew (some ⟨wr.heap.size + 1, 0, none⟩) [.int .i64 (1099511627759 + ((k : Int) + 1)), .int .i64 1099511627775, .string z]) := Lib.hid (by rw [← hsm]; exact rds_litN wm #[.int .i64 (1099511627759 + ((k : Int) + 1)), .int .i64 1099511627775, .string z] 41)
      have HON := Lib.hid (own_ext HO.out HBN.out (Nat.le_refl _))
      have HBX := Lib.hid (HB.out.ext HBN.out (Nat.le_refl _))
      have hps : p + 1 ≤ wr.heap.size := Nat.succ_le_of_lt HB.out.lt
      have hsn : p + 1 ≤ (wm.alloc (.cells #[.int .i64 (1099511627759 + ((k : Int) + 1)), .int .i64 1099511627775, .string z] 41)).drew.heap.size := by show p + 1 ≤ (wm.alloc (.cells #[.int .i64 (1099511627759 + ((k : Int) + 1)), .int .i64 1099511627775, .string z] 41)).heap.size; rw [World.size_alloc]; omega
      have HNE := Lib.hid (fun q (h : (Value.slice AV k cV).ownBlock = some q) => (HO.out.lt q h).1)
      have c9m : wm.drew.cell? ⟨p, 9, none⟩ = _ := (HB.out.ext HBM.out (Nat.le_refl _)).cell (o := 9) rfl
      have c9n := HBX.out.cell (o := 9) rfl
      rw [hwm] at c9m c9n HRN HON HBX hsn
      have HBN2 : Hid (Below p W _) := Lib.hid (HX.out.trans (HBN.out.mono (show p ≤ wr.heap.size by omega)))
      rw [hwm] at HBN2
      clear hwm HWM HBN HBM
      have v0 : IntKind.i64.wrap 1099511627759 = 1099511627759 := wrap_idG (by omega)
      have v1 : IntKind.i64.wrap (100 * ((k : Int) + 1)) = 100 * ((k : Int) + 1) := wrap_idG (by omega)
      have v2 : IntKind.i64.wrap (1099511627759 + ((k : Int) + 1)) = 1099511627759 + ((k : Int) + 1) := wrap_idG (by omega)
      have hk2 : (k + 1) * 32 ≤ 140737488355328 := by omega
      go_upto_region 6 with (fail)
      go_region_law
        (first | (refine app_opN rfl _ _ 25 rfl (p + 1) 41 (.agg #[.int .i64 0, .int .i64 0, .string ⟨#[]⟩]) 3 32 Try.underlying25 info_ent rfl (by decide) (by decide) _ k _ rfl HON.out ⟨wr.heap.size + 1, 0, none⟩ 1 1 _ rfl rfl HRN.out (by intro u hu; simp at hu; rcases hu with rfl | rfl | rfl <;> rfl) hk2 hsn ?_
                  intro v7 w7 hown7 hg7
                  obtain ⟨A7, c7, rfl, _, _, _, _, _⟩ := own_rds hown7
                  have HB7 := Lib.hid (HBX.out.grown hg7 (fun e => by have := HNE.out p e; omega))
                  have HO7 := Lib.hid hown7
                  have HX7 : Hid (Below p W w7) := Lib.hid (HBN2.out.grown hg7 (by omega) (fun q h => by have := HNE.out q h; omega))
                  clear hown7 hg7 c9 y9 c9m c9n
                  have c9 := HB7.out.cell (o := 9) rfl
                  have y9 := HB7.out.froz 9))
      all_goals
        have HB8 := Lib.hid (HB7.out.set 9 (.slice A7 (k + 1) c7))
        have HCG := (Chg.set p w7 9 (.slice A7 (k + 1) c7)).1
        have HO8 := Lib.hid (own_grown HO7.out HCG (fun q h e => by have := (HO7.out.lt q h).1; have e2 := Option.some.inj e; omega))
        have HX8 : Hid (Below p W _) := Lib.hid (HX7.out.grown HCG (by have := HX7.out.size; have := HPP.out; omega) (fun q h => by cases h; exact Nat.le_refl _))
        rw [← HTE.out] at HO8
        clear HCG HB7 HO7 HX7 c9 y9 v0 v1 v2 hmk hcv
        go_wp2
        go_roundw
        case rel => exact ⟨k + 1, by omega, by go_num, A7, c7, HB8, HO8, HX8⟩
        case measure => first | (simp [intOf]; done) | (simp [intOf]; omega)
    · obtain rfl : k = 16 := by omega
      have h8i : ¬ (16 : Int) + 1 ≤ 16 := by omega
      have hl16 := entsG_len 16
      obtain ⟨G, hG⟩ : ∃ z, z = msgG (entsG 16) := ⟨_, rfl⟩
      obtain ⟨bG, hbG1, hbG2, hbG3⟩ := great_lay
      have HLG : Hid (mayR G = true ∧ layR G = some bG ∧ bG.length ≤ 100000 ∧ decR bG = some G ∧ G.dat.size ≤ 1024 ∧ G.ents.length = 16 ∧ (0 ≤ G.idx ∧ G.idx < 9223372036854775808)) := Lib.hid (by rw [hG]; exact ⟨msgG_may, hbG1, hbG2, hbG3, by decide, hl16, by decide, by decide⟩)
      have HEG : Hid (G.ents = entsG 16) := Lib.hid (by rw [hG]; rfl)
      have HGC : Hid (rpcC G (.slice AV 16 cV) = [.int .i64 3, .int .i64 7, .int .i64 1, .int .i64 1099511627775, .int .i64 1099511627759, .int .i64 1099511627775, .int .i64 1099511627775, .int .i64 1099511627775, .bool false, .slice AV 16 cV, .int .i64 0, .string ⟨#[]⟩, .bool false]) := Lib.hid (by rw [hG]; rfl)
      have HGE : Hid (G = msgG (entsG 16)) := Lib.hid hG
      obtain ⟨Z, HZ, hmk7, hcv7⟩ : ∃ Z : Nat, Hid (Z = 1024) ∧ (∀ w, (Instr.makeSlice 23 (.int .i64 1024) (.int .i64 1024)).run Try.prog w = .ok (.slice (some ⟨w.heap.size, 0, none⟩) Z Z) (w.alloc (.cells (Array.replicate Z (Value.int .u8 0)) 5))) ∧ (∀ w : World, (convert 23 9 (.slice (some ⟨w.heap.size, 0, none⟩) Z Z)).run Try.prog (w.alloc (.cells (Array.replicate Z (Value.int .u8 0)) 5)) = .ok (.string (zerosG Z)) (w.alloc (.cells (Array.replicate Z (Value.int .u8 0)) 5))) :=
        ⟨1024, Lib.hid rfl, fun w => mk_bytesG 1024 (by omega) w, fun w => conv_bytesH 1024 w⟩
      obtain ⟨bS, hbS1, hbS2, hbS3⟩ := snap_lay
      rw [← HZ.out] at hbS1 hbS3
      obtain ⟨ZB, hZB⟩ : ∃ z, z = zerosG Z := ⟨_, rfl⟩
      have HZS : Hid (ZB.size = 1024) := Lib.hid (by rw [hZB, zerosG_size, HZ.out])
      rw [← hZB] at hbS1 hbS3
      have hmS : mayR (msgS 1099511625728 524288 ZB) = true := by rw [hZB]; exact msgS_may (by rw [HZ.out]; omega)
      have hcv8 := fun w => (hcv7 w).trans (by rw [← hZB])
      clear hcv7 hZB HZ
      obtain ⟨S, hS⟩ : ∃ z, z = msgS 1099511625728 524288 ZB := ⟨_, rfl⟩
      have HLS : Hid (mayR S = true ∧ layR S = some bS ∧ bS.length ≤ 100000 ∧ decR bS = some S ∧ S.dat.size ≤ 1024 ∧ S.ents.length = 0 ∧ (0 ≤ S.idx ∧ S.idx < 9223372036854775808)) := Lib.hid (by rw [hS]; exact ⟨hmS, hbS1, hbS2, hbS3, by have := HZS.out; show ZB.size ≤ 1024; omega, rfl, by show (0:Int) ≤ 1099511625728; decide, by show (1099511625728 : Int) < _; decide⟩)
      have HSE : Hid (S = msgS 1099511625728 524288 ZB) := Lib.hid hS
      have HSC : Hid (rpcC S (.slice none 0 0) = [.int .i64 5, .int .i64 1, .int .i64 7, .int .i64 1099511627775, .int .i64 1099511625728, .int .i64 1099511627775, .int .i64 0, .int .i64 1099511627775, .bool false, .slice none 0 0, .int .i64 524288, .string ZB, .bool true]) := Lib.hid (by rw [hS]; rfl)
      clear hG hS hbG1 hbG2 hbG3 hbS1 hbS2 hbS3 hmS hl16
      go_upto_region 8 with (fail)
      obtain ⟨w1, hw1⟩ : ∃ z, z = (wr.alloc (.cells (Array.replicate Z (Value.int .u8 0)) 5)).alloc (.cells #[.int .i64 5, .int .i64 1, .int .i64 7, .int .i64 1099511627775, .int .i64 1099511625728, .int .i64 1099511627775, .int .i64 0, .int .i64 1099511627775, .bool false, .slice none 0 0, .int .i64 524288, .string ZB, .bool true] 27) := ⟨_, rfl⟩
      obtain ⟨g, hg⟩ : ∃ z, z = wr.heap.size + 1 := ⟨_, rfl⟩
      have hb1 : Below wr.heap.size wr w1 := by rw [hw1]; exact ((Below.refl _ _).alloc (Nat.le_refl _) _).alloc (by simp) _
      have hps : p + 1 ≤ wr.heap.size := Nat.succ_le_of_lt HB.out.lt
      have HX1 : Hid (Below p W w1) := Lib.hid (HX.out.trans (hb1.mono (by omega)))
      have HM1 : Hid (Blk w1 p 27 (rpcC G (.slice AV 16 cV))) := Lib.hid (by rw [HGC.out]; exact HB.out.ext hb1 (Nat.le_refl _))
      have HS1 : Hid (Blk w1 g 27 (rpcC S (.slice none 0 0))) := Lib.hid (by rw [HSC.out, hw1, hg]; have h := Blk.new (wr.alloc (.cells (Array.replicate Z (Value.int .u8 0)) 5)) #[.int .i64 5, .int .i64 1, .int .i64 7, .int .i64 1099511627775, .int .i64 1099511625728, .int .i64 1099511627775, .int .i64 0, .int .i64 1099511627775, .bool false, .slice none 0 0, .int .i64 524288, .string ZB, .bool true] 27; rwa [World.size_alloc] at h)
      have HRG : Hid (Rds w1 AV (entsC G.ents)) := Lib.hid (by
        rw [HEG.out]
        obtain ⟨A', c', e', _, _, _, r', _⟩ := own_rds HO.out
        obtain ⟨rfl, rfl⟩ : AV = A' ∧ cV = c' := by simpa using e'
        exact r'.ext hb1 (Nat.le_refl _))
      have HRS : Hid (Rds w1 none (entsC S.ents)) := Lib.hid (by have := HLS.out.2.2.2.2.2.1; rw [List.length_eq_zero_iff.1 this]; exact Rds.nil _ _)
      have hpg : p < g := by omega
      have hgs : g < w1.heap.size := HS1.out.lt
      rw [← hw1, ← hg]
      clear hw1 hg hb1 HX HB HO hmk7 hcv8 HSC HGC
      unfold rpcC at HM1 HS1
      go_wp2
      go_loopw [7] (fun i wx => ∃ k : Nat, k ≤ 2 ∧ i = .int .i64 (k : Int) ∧ Hid (Below w1.heap.size w1 wx)) (fun i _ => 2 - (intOf i).toNat)
      case atStart => exact ⟨0, by omega, rfl, Lib.hid (Below.refl _ _)⟩
      case round =>
        obtain ⟨k, hk, rfl, HW⟩ := hrel
        obtain ⟨w2, rfl⟩ : ∃ z, z = wr := ⟨_, rfl⟩
        have HM2 := Lib.hid (HM1.out.ext HW.out (Nat.le_refl _))
        have hs2 := HW.out.size
        have m0 := HM2.out.cell (o := 0) rfl
        have m1 := HM2.out.cell (o := 1) rfl
        have m2 := HM2.out.cell (o := 2) rfl
        have m3 := HM2.out.cell (o := 3) rfl
        have m4 := HM2.out.cell (o := 4) rfl
        have m5 := HM2.out.cell (o := 5) rfl
        have m6 := HM2.out.cell (o := 6) rfl
        have m7 := HM2.out.cell (o := 7) rfl
        have m8 := HM2.out.cell (o := 8) rfl
        have m9 := HM2.out.cell (o := 9) rfl
        have m10 := HM2.out.cell (o := 10) rfl
        have m11 := HM2.out.cell (o := 11) rfl
        have m12 := HM2.out.cell (o := 12) rfl
        by_cases h9 : k = 0
        · subst h9
          go_upto_region 14 with (fail)
          obtain ⟨w3, hw3⟩ : ∃ z, z = w2.alloc (.cells #[.int .i64 G.knd, .int .i64 G.frm, .int .i64 G.tto, .int .i64 G.trm, .int .i64 G.idx, .int .i64 G.lgt, .int .i64 G.com, .int .i64 G.rnd, .bool G.ok, .slice AV 16 cV, .int .i64 G.att, .string G.dat, .bool G.don] 27) := ⟨_, rfl⟩
          obtain ⟨x, hx⟩ : ∃ z, z = w2.heap.size := ⟨_, rfl⟩
          have HX3 : Hid (Below w1.heap.size w1 w3) := Lib.hid (by rw [hw3]; exact HW.out.alloc hs2 _)
          have HG3 : Hid (Blk w3 x 27 [.int .i64 G.knd, .int .i64 G.frm, .int .i64 G.tto, .int .i64 G.trm, .int .i64 G.idx, .int .i64 G.lgt, .int .i64 G.com, .int .i64 G.rnd, .bool G.ok, .slice AV 16 cV, .int .i64 G.att, .string G.dat, .bool G.don]) := Lib.hid (by rw [hw3, hx]; exact Blk.new _ _ _)
          have hx3 : w1.heap.size ≤ x := by rw [hx]; exact hs2
          rw [← hw3, ← hx]
          clear hw3 hx HW HM2 hs2 m0 m1 m2 m3 m4 m5 m6 m7 m8 m9 m10 m11 m12
          have HLN9 := HLG.out.2.2.2.2.2.1
          have HEN : Hid (Calls Try.prog 10 #[.agg #[.int .i64 G.knd, .int .i64 G.frm, .int .i64 G.tto, .int .i64 G.trm, .int .i64 G.idx, .int .i64 G.lgt, .int .i64 G.com, .int .i64 G.rnd, .bool G.ok, (.slice AV 16 cV), .int .i64 G.att, .string G.dat, .bool G.don]] w3 (LayPostR w3 G)) := Lib.hid (by
            have h := rpcEncode_any w3 G AV cV (HRG.out.ext HX3.out (Nat.le_refl _)) HLG.out.1 (by have := HLG.out.2.2.2.2.1; omega)
            rw [HLN9] at h
            exact h)
          have f0 := HG3.out.cell (o := 0) rfl
          have f1 := HG3.out.cell (o := 1) rfl
          have f2 := HG3.out.cell (o := 2) rfl
          have f3 := HG3.out.cell (o := 3) rfl
          have f4 := HG3.out.cell (o := 4) rfl
          have f5 := HG3.out.cell (o := 5) rfl
          have f6 := HG3.out.cell (o := 6) rfl
          have f7 := HG3.out.cell (o := 7) rfl
          have f8 := HG3.out.cell (o := 8) rfl
          have f9 := HG3.out.cell (o := 9) rfl
          have f10 := HG3.out.cell (o := 10) rfl
          have f11 := HG3.out.cell (o := 11) rfl
          have f12 := HG3.out.cell (o := 12) rfl
          have hs3 := HX3.out.size
          go_wp2_with fail
          refine HEN.out.mono ?_
          rintro e w4 ⟨hb4, ⟨hno, _⟩ | ⟨b, vb, hl, rfl, hown4⟩⟩
          · rw [HLG.out.2.1] at hno; cases hno
          obtain rfl : bG = b := by have h := hl; rw [HLG.out.2.1] at h; exact Option.some.inj h
          obtain ⟨A4, c4', rfl, p4, _, _, r4, _⟩ := own_rds hown4
          have HX4 : Hid (Below w1.heap.size w1 w4) := Lib.hid (HX3.out.trans (hb4.mono hs3))
          have HG4 := Lib.hid (HG3.out.ext hb4 (Nat.le_refl _))
          have HDC := Lib.hid (rpcDecode_any w4 A4 bG.length c4' bG rfl p4 (by have := HLG.out.2.2.1; omega) r4)
          clear hb4 hl hown4 p4 r4 HEN HG3 HX3 f0 f1 f2 f3 f4 f5 f6 f7 f8 f9 f10 f11 f12
          go_wp2_with fail
          refine HDC.out.mono ?_
          rintro e w5 ⟨hb5, ⟨hno, _⟩ | ⟨m, v5, hd, rfl, hown5⟩⟩
          · rw [HLG.out.2.2.2.1] at hno; cases hno
          obtain rfl : G = m := by rw [HLG.out.2.2.2.1] at hd; exact Option.some.inj hd
          obtain ⟨A5, c5', rfl, _, _, _, r5, _⟩ := own_rds hown5
          have hs4 := HX4.out.size
          have HX5 : Hid (Below w1.heap.size w1 w5) := Lib.hid (HX4.out.trans (hb5.mono hs4))
          have HG5 := Lib.hid (HG4.out.ext hb5 (Nat.le_refl _))
          have HR5 := Lib.hid r5
          clear hb5 hd hown5 HDC HG4 HX4 r5
          rw [HLN9]
          unfold rpcV
          go_upto_region 16 with (fail)
          obtain ⟨w6, hw6⟩ : ∃ z, z = w5.alloc (.cells #[.int .i64 G.knd, .int .i64 G.frm, .int .i64 G.tto, .int .i64 G.trm, .int .i64 G.idx, .int .i64 G.lgt, .int .i64 G.com, .int .i64 G.rnd, .bool G.ok, .slice A5 16 c5', .int .i64 G.att, .string G.dat, .bool G.don] 27) := ⟨_, rfl⟩
          obtain ⟨y, hy⟩ : ∃ z, z = w5.heap.size := ⟨_, rfl⟩
          have hb6 : Below w5.heap.size w5 w6 := by rw [hw6]; exact (Below.refl _ _).alloc (Nat.le_refl _) _
          have hs5 := HX5.out.size
          have HX6 : Hid (Below w1.heap.size w1 w6) := Lib.hid (HX5.out.trans (hb6.mono hs5))
          have HG6 := Lib.hid (HG5.out.ext hb6 (Nat.le_refl _))
          have HY6 : Hid (Blk w6 y 27 [.int .i64 G.knd, .int .i64 G.frm, .int .i64 G.tto, .int .i64 G.trm, .int .i64 G.idx, .int .i64 G.lgt, .int .i64 G.com, .int .i64 G.rnd, .bool G.ok, .slice A5 16 c5', .int .i64 G.att, .string G.dat, .bool G.don]) := Lib.hid (by rw [hw6, hy]; exact Blk.new _ _ _)
          have HEQ : Hid (Calls Try.prog 9 #[.agg #[.int .i64 G.knd, .int .i64 G.frm, .int .i64 G.tto, .int .i64 G.trm, .int .i64 G.idx, .int .i64 G.lgt, .int .i64 G.com, .int .i64 G.rnd, .bool G.ok, (.slice AV 16 cV), .int .i64 G.att, .string G.dat, .bool G.don], .agg #[.int .i64 G.knd, .int .i64 G.frm, .int .i64 G.tto, .int .i64 G.trm, .int .i64 G.idx, .int .i64 G.lgt, .int .i64 G.com, .int .i64 G.rnd, .bool G.ok, .slice A5 16 c5', .int .i64 G.att, .string G.dat, .bool G.don]] w6 fun e w' => e = .returned (.bool true) ∧ Below w6.heap.size w6 w') := Lib.hid (EqRpc_eq w6 G 16 HLN9 AV cV (HRG.out.ext HX6.out (Nat.le_refl _)) A5 c5' (HR5.out.ext hb6 (Nat.le_refl _)) (by omega))
          have HCK : Hid (∀ wz, Below w6.heap.size w6 wz → Calls Try.prog 13 #[.agg #[.int .i64 G.knd, .int .i64 G.frm, .int .i64 G.tto, .int .i64 G.trm, .int .i64 G.idx, .int .i64 G.lgt, .int .i64 G.com, .int .i64 G.rnd, .bool G.ok, (.slice AV 16 cV), .int .i64 G.att, .string G.dat, .bool G.don]] wz fun e w' => e = .returned (.int .i64 0) ∧ Below wz.heap.size wz w') := Lib.hid (fun wz hz => by
            have h := Check_any wz G 16 HLN9 AV cV ((HRG.out.ext HX6.out (Nat.le_refl _)).ext hz (Nat.le_refl _)) (by omega) HLG.out.2.2.2.2.2.2
            rw [HLG.out.1] at h
            exact h)
          rw [← hw6, ← hy]
          have hs6 := HX6.out.size
          clear hw6 hy hb6 HG5 HX5 HR5
          have f0 := HG6.out.cell (o := 0) rfl
          have f1 := HG6.out.cell (o := 1) rfl
          have f2 := HG6.out.cell (o := 2) rfl
          have f3 := HG6.out.cell (o := 3) rfl
          have f4 := HG6.out.cell (o := 4) rfl
          have f5 := HG6.out.cell (o := 5) rfl
          have f6 := HG6.out.cell (o := 6) rfl
          have f7 := HG6.out.cell (o := 7) rfl
          have f8 := HG6.out.cell (o := 8) rfl
          have f9 := HG6.out.cell (o := 9) rfl
          have f10 := HG6.out.cell (o := 10) rfl
          have f11 := HG6.out.cell (o := 11) rfl
          have f12 := HG6.out.cell (o := 12) rfl
          have v0 := HY6.out.cell (o := 0) rfl
          have v1 := HY6.out.cell (o := 1) rfl
          have v2 := HY6.out.cell (o := 2) rfl
          have v3 := HY6.out.cell (o := 3) rfl
          have v4 := HY6.out.cell (o := 4) rfl
          have v5 := HY6.out.cell (o := 5) rfl
          have v6 := HY6.out.cell (o := 6) rfl
          have v7 := HY6.out.cell (o := 7) rfl
          have v8 := HY6.out.cell (o := 8) rfl
          have v9 := HY6.out.cell (o := 9) rfl
          have v10 := HY6.out.cell (o := 10) rfl
          have v11 := HY6.out.cell (o := 11) rfl
          have v12 := HY6.out.cell (o := 12) rfl
          go_wp2_with (first
            | (go_at_call 8; refine (num25 _ _).mono ?_; rintro e wq ⟨rfl, rfl⟩)
            | (go_at_call 9; (with_reducible refine HEQ.out.mono ?_); rintro e w7 ⟨rfl, hb7⟩
               have HG7 := Lib.hid (HG6.out.ext hb7 (Nat.le_refl _))
               have HK7 := Lib.hid (HCK.out w7 hb7)
               have HX7 : Hid (Below w1.heap.size w1 w7) := Lib.hid (HX6.out.trans (hb7.mono hs6))
               clear hb7 HCK HEQ f0 f1 f2 f3 f4 f5 f6 f7 f8 f9 f10 f11 f12
               have f0 := HG7.out.cell (o := 0) rfl
               have f1 := HG7.out.cell (o := 1) rfl
               have f2 := HG7.out.cell (o := 2) rfl
               have f3 := HG7.out.cell (o := 3) rfl
               have f4 := HG7.out.cell (o := 4) rfl
               have f5 := HG7.out.cell (o := 5) rfl
               have f6 := HG7.out.cell (o := 6) rfl
               have f7 := HG7.out.cell (o := 7) rfl
               have f8 := HG7.out.cell (o := 8) rfl
               have f9 := HG7.out.cell (o := 9) rfl
               have f10 := HG7.out.cell (o := 10) rfl
               have f11 := HG7.out.cell (o := 11) rfl
               have f12 := HG7.out.cell (o := 12) rfl)
            | (go_at_call 13; (with_reducible refine HK7.out.mono ?_); rintro e w8 ⟨rfl, hb8⟩))
          go_roundw
          case rel => exact ⟨0 + 1, by omega, by go_num, Lib.hid (HX7.out.trans (hb8.mono HX7.out.size))⟩
          case measure => first | (simp [intOf]; done) | (simp [intOf]; omega)
        · by_cases h10 : k = 1
          · subst h10
            have HS2 := Lib.hid (HS1.out.ext HW.out (Nat.le_refl _))
            go_upto_region 13 with (fail)
            obtain ⟨wa, hwa⟩ : ∃ z, z = w2.alloc (.cells #[.int .i64 G.knd, .int .i64 G.frm, .int .i64 G.tto, .int .i64 G.trm, .int .i64 G.idx, .int .i64 G.lgt, .int .i64 G.com, .int .i64 G.rnd, .bool G.ok, .slice AV 16 cV, .int .i64 G.att, .string G.dat, .bool G.don] 27) := ⟨_, rfl⟩
            obtain ⟨x, hx⟩ : ∃ z, z = w2.heap.size := ⟨_, rfl⟩
            have HXA : Hid (Below w1.heap.size w1 wa) := Lib.hid (by rw [hwa]; exact HW.out.alloc hs2 _)
            have HGA : Hid (Blk wa x 27 [.int .i64 G.knd, .int .i64 G.frm, .int .i64 G.tto, .int .i64 G.trm, .int .i64 G.idx, .int .i64 G.lgt, .int .i64 G.com, .int .i64 G.rnd, .bool G.ok, .slice AV 16 cV, .int .i64 G.att, .string G.dat, .bool G.don]) := Lib.hid (by rw [hwa, hx]; exact Blk.new _ _ _)
            have HSA : Hid (Blk wa g 27 [.int .i64 S.knd, .int .i64 S.frm, .int .i64 S.tto, .int .i64 S.trm, .int .i64 S.idx, .int .i64 S.lgt, .int .i64 S.com, .int .i64 S.rnd, .bool S.ok, .slice none 0 0, .int .i64 S.att, .string S.dat, .bool S.don]) := Lib.hid (by rw [hwa]; exact HS2.out.ext ((Below.refl _ _).alloc (Nat.le_refl _) _) (Nat.le_refl _))
            have hx3 : w1.heap.size ≤ x := by rw [hx]; exact hs2
            rw [← hwa, ← hx]
            clear hwa hx HW HM2 HS2 hs2 m0 m1 m2 m3 m4 m5 m6 m7 m8 m9 m10 m11 m12
            have s0 := HSA.out.cell (o := 0) rfl
            have s1 := HSA.out.cell (o := 1) rfl
            have s2 := HSA.out.cell (o := 2) rfl
            have s3 := HSA.out.cell (o := 3) rfl
            have s4 := HSA.out.cell (o := 4) rfl
            have s5 := HSA.out.cell (o := 5) rfl
            have s6 := HSA.out.cell (o := 6) rfl
            have s7 := HSA.out.cell (o := 7) rfl
            have s8 := HSA.out.cell (o := 8) rfl
            have s9 := HSA.out.cell (o := 9) rfl
            have s10 := HSA.out.cell (o := 10) rfl
            have s11 := HSA.out.cell (o := 11) rfl
            have s12 := HSA.out.cell (o := 12) rfl
            have z0 := HGA.out.cell (o := 0) rfl
            have z1 := HGA.out.cell (o := 1) rfl
            have z2 := HGA.out.cell (o := 2) rfl
            have z3 := HGA.out.cell (o := 3) rfl
            have z4 := HGA.out.cell (o := 4) rfl
            have z5 := HGA.out.cell (o := 5) rfl
            have z6 := HGA.out.cell (o := 6) rfl
            have z7 := HGA.out.cell (o := 7) rfl
            have z8 := HGA.out.cell (o := 8) rfl
            have z9 := HGA.out.cell (o := 9) rfl
            have z10 := HGA.out.cell (o := 10) rfl
            have z11 := HGA.out.cell (o := 11) rfl
            have z12 := HGA.out.cell (o := 12) rfl
            have y0 := HGA.out.froz 0
            have y1 := HGA.out.froz 1
            have y2 := HGA.out.froz 2
            have y3 := HGA.out.froz 3
            have y4 := HGA.out.froz 4
            have y5 := HGA.out.froz 5
            have y6 := HGA.out.froz 6
            have y7 := HGA.out.froz 7
            have y8 := HGA.out.froz 8
            have y9 := HGA.out.froz 9
            have y10 := HGA.out.froz 10
            have y11 := HGA.out.froz 11
            have y12 := HGA.out.froz 12
            go_upto_region 14 with (fail)
            obtain ⟨w3, hw3⟩ : ∃ z, z = put13 wa x (.int .i64 S.knd) (.int .i64 S.frm) (.int .i64 S.tto) (.int .i64 S.trm) (.int .i64 S.idx) (.int .i64 S.lgt) (.int .i64 S.com) (.int .i64 S.rnd) (.bool S.ok) (.slice none 0 0) (.int .i64 S.att) (.string S.dat) (.bool S.don) := ⟨_, rfl⟩
            have HX3 : Hid (Below w1.heap.size w1 w3) := Lib.hid (by rw [hw3]; exact HXA.out.grown (put13_chg wa x (.int .i64 S.knd) (.int .i64 S.frm) (.int .i64 S.tto) (.int .i64 S.trm) (.int .i64 S.idx) (.int .i64 S.lgt) (.int .i64 S.com) (.int .i64 S.rnd) (.bool S.ok) (.slice none 0 0) (.int .i64 S.att) (.string S.dat) (.bool S.don)).1 HXA.out.size (fun q h => by cases h; exact hx3))
            have HG3 : Hid (Blk w3 x 27 [.int .i64 S.knd, .int .i64 S.frm, .int .i64 S.tto, .int .i64 S.trm, .int .i64 S.idx, .int .i64 S.lgt, .int .i64 S.com, .int .i64 S.rnd, .bool S.ok, .slice none 0 0, .int .i64 S.att, .string S.dat, .bool S.don]) := Lib.hid (by rw [hw3]; exact put13_blk (.int .i64 S.knd) (.int .i64 S.frm) (.int .i64 S.tto) (.int .i64 S.trm) (.int .i64 S.idx) (.int .i64 S.lgt) (.int .i64 S.com) (.int .i64 S.rnd) (.bool S.ok) (.slice none 0 0) (.int .i64 S.att) (.string S.dat) (.bool S.don) HGA.out)
            unfold put13 at hw3
            rw [← hw3]
            clear hw3 HXA HGA HSA s0 s1 s2 s3 s4 s5 s6 s7 s8 s9 s10 s11 s12 z0 z1 z2 z3 z4 z5 z6 z7 z8 z9 z10 z11 z12 y0 y1 y2 y3 y4 y5 y6 y7 y8 y9 y10 y11 y12
            have HLN9 := HLS.out.2.2.2.2.2.1
            have HEN : Hid (Calls Try.prog 10 #[.agg #[.int .i64 S.knd, .int .i64 S.frm, .int .i64 S.tto, .int .i64 S.trm, .int .i64 S.idx, .int .i64 S.lgt, .int .i64 S.com, .int .i64 S.rnd, .bool S.ok, (.slice none 0 0), .int .i64 S.att, .string S.dat, .bool S.don]] w3 (LayPostR w3 S)) := Lib.hid (by
              have h := rpcEncode_any w3 S none 0 (HRS.out.ext HX3.out (Nat.le_refl _)) HLS.out.1 (by have := HLS.out.2.2.2.2.1; omega)
              rw [HLN9] at h
              exact h)
            have f0 := HG3.out.cell (o := 0) rfl
            have f1 := HG3.out.cell (o := 1) rfl
            have f2 := HG3.out.cell (o := 2) rfl
            have f3 := HG3.out.cell (o := 3) rfl
            have f4 := HG3.out.cell (o := 4) rfl
            have f5 := HG3.out.cell (o := 5) rfl
            have f6 := HG3.out.cell (o := 6) rfl
            have f7 := HG3.out.cell (o := 7) rfl
            have f8 := HG3.out.cell (o := 8) rfl
            have f9 := HG3.out.cell (o := 9) rfl
            have f10 := HG3.out.cell (o := 10) rfl
            have f11 := HG3.out.cell (o := 11) rfl
            have f12 := HG3.out.cell (o := 12) rfl
            have hs3 := HX3.out.size
            go_wp2_with fail
            refine HEN.out.mono ?_
            rintro e w4 ⟨hb4, ⟨hno, _⟩ | ⟨b, vb, hl, rfl, hown4⟩⟩
            · rw [HLS.out.2.1] at hno; cases hno
            obtain rfl : bS = b := by have h := hl; rw [HLS.out.2.1] at h; exact Option.some.inj h
            obtain ⟨A4, c4', rfl, p4, _, _, r4, _⟩ := own_rds hown4
            have HX4 : Hid (Below w1.heap.size w1 w4) := Lib.hid (HX3.out.trans (hb4.mono hs3))
            have HG4 := Lib.hid (HG3.out.ext hb4 (Nat.le_refl _))
            have HDC := Lib.hid (rpcDecode_any w4 A4 bS.length c4' bS rfl p4 (by have := HLS.out.2.2.1; omega) r4)
            clear hb4 hl hown4 p4 r4 HEN HG3 HX3 f0 f1 f2 f3 f4 f5 f6 f7 f8 f9 f10 f11 f12
            go_wp2_with fail
            refine HDC.out.mono ?_
            rintro e w5 ⟨hb5, ⟨hno, _⟩ | ⟨m, v5, hd, rfl, hown5⟩⟩
            · rw [HLS.out.2.2.2.1] at hno; cases hno
            obtain rfl : S = m := by rw [HLS.out.2.2.2.1] at hd; exact Option.some.inj hd
            obtain ⟨A5, c5', rfl, _, _, _, r5, _⟩ := own_rds hown5
            have hs4 := HX4.out.size
            have HX5 : Hid (Below w1.heap.size w1 w5) := Lib.hid (HX4.out.trans (hb5.mono hs4))
            have HG5 := Lib.hid (HG4.out.ext hb5 (Nat.le_refl _))
            have HR5 := Lib.hid r5
            clear hb5 hd hown5 HDC HG4 HX4 r5
            rw [HLN9]
            unfold rpcV
            go_upto_region 16 with (fail)
            obtain ⟨w6, hw6⟩ : ∃ z, z = w5.alloc (.cells #[.int .i64 S.knd, .int .i64 S.frm, .int .i64 S.tto, .int .i64 S.trm, .int .i64 S.idx, .int .i64 S.lgt, .int .i64 S.com, .int .i64 S.rnd, .bool S.ok, .slice A5 0 c5', .int .i64 S.att, .string S.dat, .bool S.don] 27) := ⟨_, rfl⟩
            obtain ⟨y, hy⟩ : ∃ z, z = w5.heap.size := ⟨_, rfl⟩
            have hb6 : Below w5.heap.size w5 w6 := by rw [hw6]; exact (Below.refl _ _).alloc (Nat.le_refl _) _
            have hs5 := HX5.out.size
            have HX6 : Hid (Below w1.heap.size w1 w6) := Lib.hid (HX5.out.trans (hb6.mono hs5))
            have HG6 := Lib.hid (HG5.out.ext hb6 (Nat.le_refl _))
            have HY6 : Hid (Blk w6 y 27 [.int .i64 S.knd, .int .i64 S.frm, .int .i64 S.tto, .int .i64 S.trm, .int .i64 S.idx, .int .i64 S.lgt, .int .i64 S.com, .int .i64 S.rnd, .bool S.ok, .slice A5 0 c5', .int .i64 S.att, .string S.dat, .bool S.don]) := Lib.hid (by rw [hw6, hy]; exact Blk.new _ _ _)
            have HEQ : Hid (Calls Try.prog 9 #[.agg #[.int .i64 S.knd, .int .i64 S.frm, .int .i64 S.tto, .int .i64 S.trm, .int .i64 S.idx, .int .i64 S.lgt, .int .i64 S.com, .int .i64 S.rnd, .bool S.ok, (.slice none 0 0), .int .i64 S.att, .string S.dat, .bool S.don], .agg #[.int .i64 S.knd, .int .i64 S.frm, .int .i64 S.tto, .int .i64 S.trm, .int .i64 S.idx, .int .i64 S.lgt, .int .i64 S.com, .int .i64 S.rnd, .bool S.ok, .slice A5 0 c5', .int .i64 S.att, .string S.dat, .bool S.don]] w6 fun e w' => e = .returned (.bool true) ∧ Below w6.heap.size w6 w') := Lib.hid (EqRpc_eq w6 S 0 HLN9 none 0 (HRS.out.ext HX6.out (Nat.le_refl _)) A5 c5' (HR5.out.ext hb6 (Nat.le_refl _)) (by omega))
            have HCK : Hid (∀ wz, Below w6.heap.size w6 wz → Calls Try.prog 13 #[.agg #[.int .i64 S.knd, .int .i64 S.frm, .int .i64 S.tto, .int .i64 S.trm, .int .i64 S.idx, .int .i64 S.lgt, .int .i64 S.com, .int .i64 S.rnd, .bool S.ok, (.slice none 0 0), .int .i64 S.att, .string S.dat, .bool S.don]] wz fun e w' => e = .returned (.int .i64 0) ∧ Below wz.heap.size wz w') := Lib.hid (fun wz hz => by
              have h := Check_any wz S 0 HLN9 none 0 ((HRS.out.ext HX6.out (Nat.le_refl _)).ext hz (Nat.le_refl _)) (by omega) HLS.out.2.2.2.2.2.2
              rw [HLS.out.1] at h
              exact h)
            rw [← hw6, ← hy]
            have hs6 := HX6.out.size
            clear hw6 hy hb6 HG5 HX5 HR5
            have f0 := HG6.out.cell (o := 0) rfl
            have f1 := HG6.out.cell (o := 1) rfl
            have f2 := HG6.out.cell (o := 2) rfl
            have f3 := HG6.out.cell (o := 3) rfl
            have f4 := HG6.out.cell (o := 4) rfl
            have f5 := HG6.out.cell (o := 5) rfl
            have f6 := HG6.out.cell (o := 6) rfl
            have f7 := HG6.out.cell (o := 7) rfl
            have f8 := HG6.out.cell (o := 8) rfl
            have f9 := HG6.out.cell (o := 9) rfl
            have f10 := HG6.out.cell (o := 10) rfl
            have f11 := HG6.out.cell (o := 11) rfl
            have f12 := HG6.out.cell (o := 12) rfl
            have v0 := HY6.out.cell (o := 0) rfl
            have v1 := HY6.out.cell (o := 1) rfl
            have v2 := HY6.out.cell (o := 2) rfl
            have v3 := HY6.out.cell (o := 3) rfl
            have v4 := HY6.out.cell (o := 4) rfl
            have v5 := HY6.out.cell (o := 5) rfl
            have v6 := HY6.out.cell (o := 6) rfl
            have v7 := HY6.out.cell (o := 7) rfl
            have v8 := HY6.out.cell (o := 8) rfl
            have v9 := HY6.out.cell (o := 9) rfl
            have v10 := HY6.out.cell (o := 10) rfl
            have v11 := HY6.out.cell (o := 11) rfl
            have v12 := HY6.out.cell (o := 12) rfl
            go_wp2_with (first
              | (go_at_call 8; refine (num25 _ _).mono ?_; rintro e wq ⟨rfl, rfl⟩)
              | (go_at_call 9; (with_reducible refine HEQ.out.mono ?_); rintro e w7 ⟨rfl, hb7⟩
                 have HG7 := Lib.hid (HG6.out.ext hb7 (Nat.le_refl _))
                 have HK7 := Lib.hid (HCK.out w7 hb7)
                 have HX7 : Hid (Below w1.heap.size w1 w7) := Lib.hid (HX6.out.trans (hb7.mono hs6))
                 clear hb7 HCK HEQ f0 f1 f2 f3 f4 f5 f6 f7 f8 f9 f10 f11 f12
                 have f0 := HG7.out.cell (o := 0) rfl
                 have f1 := HG7.out.cell (o := 1) rfl
                 have f2 := HG7.out.cell (o := 2) rfl
                 have f3 := HG7.out.cell (o := 3) rfl
                 have f4 := HG7.out.cell (o := 4) rfl
                 have f5 := HG7.out.cell (o := 5) rfl
                 have f6 := HG7.out.cell (o := 6) rfl
                 have f7 := HG7.out.cell (o := 7) rfl
                 have f8 := HG7.out.cell (o := 8) rfl
                 have f9 := HG7.out.cell (o := 9) rfl
                 have f10 := HG7.out.cell (o := 10) rfl
                 have f11 := HG7.out.cell (o := 11) rfl
                 have f12 := HG7.out.cell (o := 12) rfl)
              | (go_at_call 13; (with_reducible refine HK7.out.mono ?_); rintro e w8 ⟨rfl, hb8⟩))
            go_roundw
            case rel => exact ⟨1 + 1, by omega, by go_num, Lib.hid (HX7.out.trans (hb8.mono HX7.out.size))⟩
            case measure => first | (simp [intOf]; done) | (simp [intOf]; omega)
          · obtain rfl : k = 2 := by omega
            clear m0 m1 m2 m3 m4 m5 m6 m7 m8 m9 m10 m11 m12
            have HS2 := Lib.hid (HS1.out.ext HW.out (Nat.le_refl _))
            have HXW : Hid (Below p W w2) := Lib.hid (HX1.out.trans (HW.out.mono (by omega)))
            have HRW := Lib.hid (HRG.out.ext HW.out (Nat.le_refl _))
            go_upto_region 18 with (fail)
            refine wp_region_held_drew (S := fun w' => Blk w' p 27 [.int .i64 G.knd, .int .i64 G.frm, .int .i64 G.tto, .int .i64 G.trm, .int .i64 G.idx, .int .i64 G.lgt, .int .i64 G.com, .int .i64 G.rnd, .bool G.ok, .slice AV 16 cV, .int .i64 G.att, .string G.dat, .bool G.don] ∧ Blk w' g 27 [.int .i64 S.knd, .int .i64 S.frm, .int .i64 S.tto, .int .i64 S.trm, .int .i64 S.idx, .int .i64 S.lgt, .int .i64 S.com, .int .i64 S.rnd, .bool S.ok, .slice none 0 0, .int .i64 S.att, .string S.dat, .bool S.don]) rfl ⟨HM2.out, HS2.out⟩ (fun hHeld => ?_)
            refine wpAnyH_take (i := 0) (oi := { dst := some 87, op := .load 27 (.tmp 4), type := 27, pos := "more.go:28", after := #[], guard := none }) (v := .agg #[.int .i64 G.knd, .int .i64 G.frm, .int .i64 G.tto, .int .i64 G.trm, .int .i64 G.idx, .int .i64 G.lgt, .int .i64 G.com, .int .i64 G.rnd, .bool G.ok, .slice AV 16 cV, .int .i64 G.att, .string G.dat, .bool G.don]) rfl (by kernel_rfl) (by kernel_rfl) (by kernel_rfl) (fun _ _ _ h => h) (Or.inl ⟨by rfl, ?_⟩) hHeld ?_
            · intro w hSw
              have hcm := Lib.hid hSw.1
              clear hSw
              have m0 := hcm.out.cell (o := 0) rfl
              have m1 := hcm.out.cell (o := 1) rfl
              have m2 := hcm.out.cell (o := 2) rfl
              have m3 := hcm.out.cell (o := 3) rfl
              have m4 := hcm.out.cell (o := 4) rfl
              have m5 := hcm.out.cell (o := 5) rfl
              have m6 := hcm.out.cell (o := 6) rfl
              have m7 := hcm.out.cell (o := 7) rfl
              have m8 := hcm.out.cell (o := 8) rfl
              have m9 := hcm.out.cell (o := 9) rfl
              have m10 := hcm.out.cell (o := 10) rfl
              have m11 := hcm.out.cell (o := 11) rfl
              have m12 := hcm.out.cell (o := 12) rfl
              go_simp
              (try with_reducible rfl)
            simp only [Act.put, List.setIfInBounds_toArray, List.set_cons_zero, List.set_cons_succ]
            refine wpAnyH_take (i := 2) (oi := { dst := some 89, op := .load 27 (.tmp 6), type := 27, pos := "more.go:28", after := #[], guard := none }) (v := .agg #[.int .i64 S.knd, .int .i64 S.frm, .int .i64 S.tto, .int .i64 S.trm, .int .i64 S.idx, .int .i64 S.lgt, .int .i64 S.com, .int .i64 S.rnd, .bool S.ok, .slice none 0 0, .int .i64 S.att, .string S.dat, .bool S.don]) rfl (by kernel_rfl) (by kernel_rfl) (by kernel_rfl) (fun _ _ _ h => h) (Or.inl ⟨by rfl, ?_⟩) hHeld ?_
            · intro w hSw
              have hcm := Lib.hid hSw.2
              clear hSw
              have m0 := hcm.out.cell (o := 0) rfl
              have m1 := hcm.out.cell (o := 1) rfl
              have m2 := hcm.out.cell (o := 2) rfl
              have m3 := hcm.out.cell (o := 3) rfl
              have m4 := hcm.out.cell (o := 4) rfl
              have m5 := hcm.out.cell (o := 5) rfl
              have m6 := hcm.out.cell (o := 6) rfl
              have m7 := hcm.out.cell (o := 7) rfl
              have m8 := hcm.out.cell (o := 8) rfl
              have m9 := hcm.out.cell (o := 9) rfl
              have m10 := hcm.out.cell (o := 10) rfl
              have m11 := hcm.out.cell (o := 11) rfl
              have m12 := hcm.out.cell (o := 12) rfl
              go_simp
              (try with_reducible rfl)
            simp only [Act.put, List.setIfInBounds_toArray, List.set_cons_zero, List.set_cons_succ]
            refine wpAnyH_take (i := 4) (oi := { dst := some 91, op := .load 27 (.tmp 6), type := 27, pos := "more.go:28", after := #[], guard := none }) (v := .agg #[.int .i64 S.knd, .int .i64 S.frm, .int .i64 S.tto, .int .i64 S.trm, .int .i64 S.idx, .int .i64 S.lgt, .int .i64 S.com, .int .i64 S.rnd, .bool S.ok, .slice none 0 0, .int .i64 S.att, .string S.dat, .bool S.don]) rfl (by kernel_rfl) (by kernel_rfl) (by kernel_rfl) (fun _ _ _ h => h) (Or.inl ⟨by rfl, ?_⟩) hHeld ?_
            · intro w hSw
              have hcm := Lib.hid hSw.2
              clear hSw
              have m0 := hcm.out.cell (o := 0) rfl
              have m1 := hcm.out.cell (o := 1) rfl
              have m2 := hcm.out.cell (o := 2) rfl
              have m3 := hcm.out.cell (o := 3) rfl
              have m4 := hcm.out.cell (o := 4) rfl
              have m5 := hcm.out.cell (o := 5) rfl
              have m6 := hcm.out.cell (o := 6) rfl
              have m7 := hcm.out.cell (o := 7) rfl
              have m8 := hcm.out.cell (o := 8) rfl
              have m9 := hcm.out.cell (o := 9) rfl
              have m10 := hcm.out.cell (o := 10) rfl
              have m11 := hcm.out.cell (o := 11) rfl
              have m12 := hcm.out.cell (o := 12) rfl
              go_simp
              (try with_reducible rfl)
            simp only [Act.put, List.setIfInBounds_toArray, List.set_cons_zero, List.set_cons_succ]
            refine wpAnyH_take (i := 6) (oi := { dst := some 93, op := .load 27 (.tmp 6), type := 27, pos := "more.go:28", after := #[], guard := none }) (v := .agg #[.int .i64 S.knd, .int .i64 S.frm, .int .i64 S.tto, .int .i64 S.trm, .int .i64 S.idx, .int .i64 S.lgt, .int .i64 S.com, .int .i64 S.rnd, .bool S.ok, .slice none 0 0, .int .i64 S.att, .string S.dat, .bool S.don]) rfl (by kernel_rfl) (by kernel_rfl) (by kernel_rfl) (fun _ _ _ h => h) (Or.inl ⟨by rfl, ?_⟩) hHeld ?_
            · intro w hSw
              have hcm := Lib.hid hSw.2
              clear hSw
              have m0 := hcm.out.cell (o := 0) rfl
              have m1 := hcm.out.cell (o := 1) rfl
              have m2 := hcm.out.cell (o := 2) rfl
              have m3 := hcm.out.cell (o := 3) rfl
              have m4 := hcm.out.cell (o := 4) rfl
              have m5 := hcm.out.cell (o := 5) rfl
              have m6 := hcm.out.cell (o := 6) rfl
              have m7 := hcm.out.cell (o := 7) rfl
              have m8 := hcm.out.cell (o := 8) rfl
              have m9 := hcm.out.cell (o := 9) rfl
              have m10 := hcm.out.cell (o := 10) rfl
              have m11 := hcm.out.cell (o := 11) rfl
              have m12 := hcm.out.cell (o := 12) rfl
              go_simp
              (try with_reducible rfl)
            simp only [Act.put, List.setIfInBounds_toArray, List.set_cons_zero, List.set_cons_succ]
            have HCP1 : Hid (∀ w, Below w2.drew.heap.size w2.drew w → Calls Try.prog 14 #[.agg #[.int .i64 G.knd, .int .i64 G.frm, .int .i64 G.tto, .int .i64 G.trm, .int .i64 G.idx, .int .i64 G.lgt, .int .i64 G.com, .int .i64 G.rnd, .bool G.ok, .slice AV 16 cV, .int .i64 G.att, .string G.dat, .bool G.don]] w fun e w' => ∃ B d, e = .returned (rpcV G (.slice B 16 d)) ∧ w'.ownsRow w.heap.size 41 3 (.slice B 16 d) 16 (entsC G.ents) ∧ Below w.heap.size w w') := Lib.hid (fun w h => CopyRpc_any w G 16 HLG.out.2.2.2.2.2.1 AV cV ((HRW.out.ext (below_drewA (Below.refl _ _)) (Nat.le_refl _)).ext h (Nat.le_refl _)) (by omega))
            have HCP2 : Hid (∀ w, Calls Try.prog 14 #[.agg #[.int .i64 S.knd, .int .i64 S.frm, .int .i64 S.tto, .int .i64 S.trm, .int .i64 S.idx, .int .i64 S.lgt, .int .i64 S.com, .int .i64 S.rnd, .bool S.ok, .slice none 0 0, .int .i64 S.att, .string S.dat, .bool S.don]] w fun e w' => ∃ B d, e = .returned (rpcV S (.slice B 0 d)) ∧ w'.ownsRow w.heap.size 41 3 (.slice B 0 d) 0 (entsC S.ents) ∧ Below w.heap.size w w') := Lib.hid (fun w => CopyRpc_any w S 0 HLS.out.2.2.2.2.2.1 none 0 (by rw [List.length_eq_zero_iff.1 HLS.out.2.2.2.2.2.1]; exact Rds.nil _ _) (by omega))
            refine region18 _ 27 #[.int .i64 0, .int .i64 0, .int .i64 0, .int .i64 0, .int .i64 0, .int .i64 0, .int .i64 0, .int .i64 0, .bool false, .slice none 0 0, .int .i64 0, .string ⟨#[]⟩, .bool false] w2.drew (.agg #[.int .i64 G.knd, .int .i64 G.frm, .int .i64 G.tto, .int .i64 G.trm, .int .i64 G.idx, .int .i64 G.lgt, .int .i64 G.com, .int .i64 G.rnd, .bool G.ok, .slice AV 16 cV, .int .i64 G.att, .string G.dat, .bool G.don]) (.agg #[.int .i64 S.knd, .int .i64 S.frm, .int .i64 S.tto, .int .i64 S.trm, .int .i64 S.idx, .int .i64 S.lgt, .int .i64 S.com, .int .i64 S.rnd, .bool S.ok, .slice none 0 0, .int .i64 S.att, .string S.dat, .bool S.don]) (fun w v => ∃ B d, v = rpcV G (.slice B 16 d) ∧ w.ownsRow w2.drew.heap.size 41 3 (.slice B 16 d) 16 (entsC G.ents)) (fun w v => ∃ B d, v = rpcV S (.slice B 0 d)) (by show 94 < 146; decide) ?_ ?_ rfl rfl rfl rfl ?_ ?_ ?_ ?_ ?_ ?_ ?_ ?_ ?_ ?_ ?_
            · rintro w w' v hb ⟨B, d, e, ho⟩
              exact ⟨B, d, e, own_ext ho hb (Nat.le_refl _)⟩
            · rintro w w' v hb ⟨B, d, e⟩
              exact ⟨B, d, e⟩
            · intro a w K hb ha hK
              have ha2 : a.tmps.getD 87 undef = .agg #[.int .i64 G.knd, .int .i64 G.frm, .int .i64 G.tto, .int .i64 G.trm, .int .i64 G.idx, .int .i64 G.lgt, .int .i64 G.com, .int .i64 G.rnd, .bool G.ok, .slice AV 16 cV, .int .i64 G.att, .string G.dat, .bool G.don] := ha
              refine wpOp_step (o := _) rfl (fun K' hK' => ?_)
              clear ha
              have HK9 := Lib.hid hK
              have HK8 := Lib.hid hK'
              clear hK hK' hHeld
              obtain ⟨tm, df⟩ := a
              dsimp only at ha2 HK9
              go_simp
              refine (HCP1.out w hb).mono ?_
              rintro e w' ⟨B, d, rfl, ho, hb'⟩
              exact HK8.out _ _ (HK9.out _ w' hb' ⟨B, d, rfl, own_lower ho hb.size⟩)
            · intro a w K hb ha hK
              have ha2 : a.tmps.getD 89 undef = .agg #[.int .i64 S.knd, .int .i64 S.frm, .int .i64 S.tto, .int .i64 S.trm, .int .i64 S.idx, .int .i64 S.lgt, .int .i64 S.com, .int .i64 S.rnd, .bool S.ok, .slice none 0 0, .int .i64 S.att, .string S.dat, .bool S.don] := ha
              refine wpOp_step (o := _) rfl (fun K' hK' => ?_)
              clear ha
              have HK9 := Lib.hid hK
              have HK8 := Lib.hid hK'
              clear hK hK' hHeld
              obtain ⟨tm, df⟩ := a
              dsimp only at ha2 HK9
              go_simp
              refine (HCP2.out w).mono ?_
              rintro e w' ⟨B, d, rfl, ho, hb'⟩
              exact HK8.out _ _ (HK9.out _ w' hb' ⟨B, d, rfl⟩)
            · intro a w K hb ha hK
              have ha2 : a.tmps.getD 91 undef = .agg #[.int .i64 S.knd, .int .i64 S.frm, .int .i64 S.tto, .int .i64 S.trm, .int .i64 S.idx, .int .i64 S.lgt, .int .i64 S.com, .int .i64 S.rnd, .bool S.ok, .slice none 0 0, .int .i64 S.att, .string S.dat, .bool S.don] := ha
              refine wpOp_step (o := _) rfl (fun K' hK' => ?_)
              clear ha
              have HK9 := Lib.hid hK
              have HK8 := Lib.hid hK'
              clear hK hK' hHeld
              obtain ⟨tm, df⟩ := a
              dsimp only at ha2 HK9
              go_simp
              refine (HCP2.out w).mono ?_
              rintro e w' ⟨B, d, rfl, ho, hb'⟩
              exact HK8.out _ _ (HK9.out _ w' hb' ⟨B, d, rfl⟩)
            · intro a w K hb ha hK
              have ha2 : a.tmps.getD 93 undef = .agg #[.int .i64 S.knd, .int .i64 S.frm, .int .i64 S.tto, .int .i64 S.trm, .int .i64 S.idx, .int .i64 S.lgt, .int .i64 S.com, .int .i64 S.rnd, .bool S.ok, .slice none 0 0, .int .i64 S.att, .string S.dat, .bool S.don] := ha
              refine wpOp_step (o := _) rfl (fun K' hK' => ?_)
              clear ha
              have HK9 := Lib.hid hK
              have HK8 := Lib.hid hK'
              clear hK hK' hHeld
              obtain ⟨tm, df⟩ := a
              dsimp only at ha2 HK9
              go_simp
              refine (HCP2.out w).mono ?_
              rintro e w' ⟨B, d, rfl, ho, hb'⟩
              exact HK8.out _ _ (HK9.out _ w' hb' ⟨B, d, rfl⟩)
            · intro a w K hK
              refine wpOp_step (o := _) rfl (fun K' hK' => ?_)
              have HK9 := Lib.hid hK
              have HK8 := Lib.hid hK'
              clear hK hK' hHeld
              obtain ⟨tm, df⟩ := a
              go_simp
              exact HK8.out _ _ HK9.out
            · intro a w K hK
              refine wpOp_step (o := _) rfl (fun K' hK' => ?_)
              have HK9 := Lib.hid hK
              have HK8 := Lib.hid hK'
              clear hK hK' hHeld
              obtain ⟨tm, df⟩ := a
              go_simp
              exact HK8.out _ _ HK9.out
            · intro a w K hK
              refine wpOp_step (o := _) rfl (fun K' hK' => ?_)
              have HK9 := Lib.hid hK
              have HK8 := Lib.hid hK'
              clear hK hK' hHeld
              obtain ⟨tm, df⟩ := a
              go_simp
              exact HK8.out _ _ HK9.out
            · intro a w K hK
              refine wpOp_step (o := _) rfl (fun K' hK' => ?_)
              have HK9 := Lib.hid hK
              have HK8 := Lib.hid hK'
              clear hK hK' hHeld
              obtain ⟨tm, df⟩ := a
              go_simp
              exact HK8.out _ _ HK9.out
            · intro c b8 b9 b10 b11 hc hpos
              have h5 : c = 0 ∨ c = 1 ∨ c = 2 ∨ c = 3 ∨ c = 4 := by omega
              clear hHeld
              rcases h5 with rfl | rfl | rfl | rfl | rfl <;> cases b8 <;> cases b9 <;> cases b10 <;> cases b11 <;> first | (exact absurd hpos (by decide)) | (show _ = _; kernel_rfl)
            · intro w hb
              exact ⟨Blk.ext (w := w2.drew) HM2.out hb (Nat.le_refl _), Blk.ext (w := w2.drew) HS2.out hb (Nat.le_refl _)⟩
            · rintro s1 s3 s5 s7 s8 s9 s10 s11 w3 hb3 ⟨B1, d1, rfl, ho1⟩ ⟨B3, d3, rfl⟩ ⟨B5, d5, rfl⟩ ⟨B7, d7, rfl⟩ ⟨g8, rfl, hg8, hB8⟩ ⟨g9, rfl, hg9, hB9⟩ ⟨g10, rfl, hg10, hB10⟩ ⟨g11, rfl, hg11, hB11⟩ n1 n2 n3 n4 n5 n6
              clear hHeld
              have m1 : g8 ≠ g9 := fun e => n1 (by rw [e])
              have m2 : g8 ≠ g10 := fun e => n2 (by rw [e])
              have m3 : g8 ≠ g11 := fun e => n3 (by rw [e])
              have m4 : g9 ≠ g10 := fun e => n4 (by rw [e])
              have m5 : g9 ≠ g11 := fun e => n5 (by rw [e])
              have m6 : g10 ≠ g11 := fun e => n6 (by rw [e])
              clear n1 n2 n3 n4 n5 n6
              have HO3 := Lib.hid ho1
              have HB8 := Lib.hid hB8
              have HB9 := Lib.hid hB9
              have HB10 := Lib.hid hB10
              have HB11 := Lib.hid hB11
              have HM3 := Lib.hid (Blk.ext (w := w2.drew) HM2.out hb3 (Nat.le_refl _))
              have HS3 := Lib.hid (Blk.ext (w := w2.drew) HS2.out hb3 (Nat.le_refl _))
              have hs23 : w1.heap.size ≤ w2.heap.size := HW.out.size
              have e22 : w2.drew.heap.size = w2.heap.size := rfl
              have HX3 : Hid (Below p W w3) := Lib.hid (HXW.out.trans ((Below.trans (below_drewA (Below.refl w2.heap.size w2)) hb3).mono (by omega)))
              rw [e22] at hg8 hg9 hg10 hg11 HO3
              clear ho1 hB8 hB9 hB10 hB11 hb3 HCP1 HCP2 HM2 HS2 HRW
              simp only [FR, rpcV, List.setIfInBounds_toArray, List.set_cons_zero, List.set_cons_succ]
              have z0 := HB8.out.cell (o := 0) rfl
              have z1 := HB8.out.cell (o := 1) rfl
              have z2 := HB8.out.cell (o := 2) rfl
              have z3 := HB8.out.cell (o := 3) rfl
              have z4 := HB8.out.cell (o := 4) rfl
              have z5 := HB8.out.cell (o := 5) rfl
              have z6 := HB8.out.cell (o := 6) rfl
              have z7 := HB8.out.cell (o := 7) rfl
              have z8 := HB8.out.cell (o := 8) rfl
              have z9 := HB8.out.cell (o := 9) rfl
              have z10 := HB8.out.cell (o := 10) rfl
              have z11 := HB8.out.cell (o := 11) rfl
              have z12 := HB8.out.cell (o := 12) rfl
              have y0 := HB8.out.froz 0
              have y1 := HB8.out.froz 1
              have y2 := HB8.out.froz 2
              have y3 := HB8.out.froz 3
              have y4 := HB8.out.froz 4
              have y5 := HB8.out.froz 5
              have y6 := HB8.out.froz 6
              have y7 := HB8.out.froz 7
              have y8 := HB8.out.froz 8
              have y9 := HB8.out.froz 9
              have y10 := HB8.out.froz 10
              have y11 := HB8.out.froz 11
              have y12 := HB8.out.froz 12
              obtain ⟨w4, hw4⟩ : ∃ z, z = put13 w3 g8 (.int .i64 G.knd) (.int .i64 G.frm) (.int .i64 G.tto) (.int .i64 G.trm) (.int .i64 G.idx) (.int .i64 G.lgt) (.int .i64 G.com) (.int .i64 G.rnd) (.bool G.ok) (.slice B1 16 d1) (.int .i64 G.att) (.string G.dat) (.bool G.don) := ⟨_, rfl⟩
              have HCw4 := Lib.hid (put13_chg w3 g8 (.int .i64 G.knd) (.int .i64 G.frm) (.int .i64 G.tto) (.int .i64 G.trm) (.int .i64 G.idx) (.int .i64 G.lgt) (.int .i64 G.com) (.int .i64 G.rnd) (.bool G.ok) (.slice B1 16 d1) (.int .i64 G.att) (.string G.dat) (.bool G.don))
              rw [← hw4] at HCw4
              have HN8 : Hid (Blk w4 g8 27 [.int .i64 G.knd, .int .i64 G.frm, .int .i64 G.tto, .int .i64 G.trm, .int .i64 G.idx, .int .i64 G.lgt, .int .i64 G.com, .int .i64 G.rnd, .bool G.ok, .slice B1 16 d1, .int .i64 G.att, .string G.dat, .bool G.don]) := Lib.hid (by rw [hw4]; exact put13_blk (.int .i64 G.knd) (.int .i64 G.frm) (.int .i64 G.tto) (.int .i64 G.trm) (.int .i64 G.idx) (.int .i64 G.lgt) (.int .i64 G.com) (.int .i64 G.rnd) (.bool G.ok) (.slice B1 16 d1) (.int .i64 G.att) (.string G.dat) (.bool G.don) HB8.out)
              have HN9 := Lib.hid (HCw4.out.blk HB9.out (Ne.symm m1))
              have HN10 := Lib.hid (HCw4.out.blk HB10.out (Ne.symm m2))
              have HN11 := Lib.hid (HCw4.out.blk HB11.out (Ne.symm m3))
              have HNM := Lib.hid (HCw4.out.blk HM3.out (by omega))
              have HNS := Lib.hid (HCw4.out.blk HS3.out (by omega))
              have HNX : Hid (Below p W w4) := Lib.hid (HX3.out.grown HCw4.out.1 (by have := HX3.out.size; have := HPP.out; omega) (fun q h => by cases h; omega))
              have HNO := Lib.hid (own_grown HO3.out HCw4.out.1 (fun q h e => own_neG HO3.out HB8.out (by decide) (h.trans e.symm)))
              refine wpAnyH_ready (rs := [12]) (by show _ = _; kernel_rfl) (by simp) ?_
              refine AllReadyH.cons (o := _) rfl (fun K hK => ?_) AllReadyH.nil
              unfold put13 at hw4
              go_simp
              rw [← hw4]
              refine hK.out _ _ ⟨HNM.out, HNS.out⟩ (fun _ => ?_)
              clear hK K HCw4 hw4 HB8 HB9 HB10 HB11 HM3 HS3 HX3 HO3 z0 y0 z1 y1 z2 y2 z3 y3 z4 y4 z5 y5 z6 y6 z7 y7 z8 y8 z9 y9 z10 y10 z11 y11 z12 y12
              have HB8 := HN8
              have HB9 := HN9
              have HB10 := HN10
              have HB11 := HN11
              have HM3 := HNM
              have HS3 := HNS
              have HX3 := HNX
              have HO3 := HNO
              clear HN8 HN9 HN10 HN11 HNM HNS HNX HNO
              try simp only [Act.put, List.setIfInBounds_toArray, List.set_cons_zero, List.set_cons_succ]
              have z0 := HB9.out.cell (o := 0) rfl
              have z1 := HB9.out.cell (o := 1) rfl
              have z2 := HB9.out.cell (o := 2) rfl
              have z3 := HB9.out.cell (o := 3) rfl
              have z4 := HB9.out.cell (o := 4) rfl
              have z5 := HB9.out.cell (o := 5) rfl
              have z6 := HB9.out.cell (o := 6) rfl
              have z7 := HB9.out.cell (o := 7) rfl
              have z8 := HB9.out.cell (o := 8) rfl
              have z9 := HB9.out.cell (o := 9) rfl
              have z10 := HB9.out.cell (o := 10) rfl
              have z11 := HB9.out.cell (o := 11) rfl
              have z12 := HB9.out.cell (o := 12) rfl
              have y0 := HB9.out.froz 0
              have y1 := HB9.out.froz 1
              have y2 := HB9.out.froz 2
              have y3 := HB9.out.froz 3
              have y4 := HB9.out.froz 4
              have y5 := HB9.out.froz 5
              have y6 := HB9.out.froz 6
              have y7 := HB9.out.froz 7
              have y8 := HB9.out.froz 8
              have y9 := HB9.out.froz 9
              have y10 := HB9.out.froz 10
              have y11 := HB9.out.froz 11
              have y12 := HB9.out.froz 12
              obtain ⟨w5, hw5⟩ : ∃ z, z = put13 w4 g9 (.int .i64 S.knd) (.int .i64 S.frm) (.int .i64 S.tto) (.int .i64 S.trm) (.int .i64 S.idx) (.int .i64 S.lgt) (.int .i64 S.com) (.int .i64 S.rnd) (.bool S.ok) (.slice B3 0 d3) (.int .i64 S.att) (.string S.dat) (.bool S.don) := ⟨_, rfl⟩
              have HCw5 := Lib.hid (put13_chg w4 g9 (.int .i64 S.knd) (.int .i64 S.frm) (.int .i64 S.tto) (.int .i64 S.trm) (.int .i64 S.idx) (.int .i64 S.lgt) (.int .i64 S.com) (.int .i64 S.rnd) (.bool S.ok) (.slice B3 0 d3) (.int .i64 S.att) (.string S.dat) (.bool S.don))
              rw [← hw5] at HCw5
              have HN9 : Hid (Blk w5 g9 27 [.int .i64 S.knd, .int .i64 S.frm, .int .i64 S.tto, .int .i64 S.trm, .int .i64 S.idx, .int .i64 S.lgt, .int .i64 S.com, .int .i64 S.rnd, .bool S.ok, .slice B3 0 d3, .int .i64 S.att, .string S.dat, .bool S.don]) := Lib.hid (by rw [hw5]; exact put13_blk (.int .i64 S.knd) (.int .i64 S.frm) (.int .i64 S.tto) (.int .i64 S.trm) (.int .i64 S.idx) (.int .i64 S.lgt) (.int .i64 S.com) (.int .i64 S.rnd) (.bool S.ok) (.slice B3 0 d3) (.int .i64 S.att) (.string S.dat) (.bool S.don) HB9.out)
              have HN8 := Lib.hid (HCw5.out.blk HB8.out m1)
              have HN10 := Lib.hid (HCw5.out.blk HB10.out (Ne.symm m4))
              have HN11 := Lib.hid (HCw5.out.blk HB11.out (Ne.symm m5))
              have HNM := Lib.hid (HCw5.out.blk HM3.out (by omega))
              have HNS := Lib.hid (HCw5.out.blk HS3.out (by omega))
              have HNX : Hid (Below p W w5) := Lib.hid (HX3.out.grown HCw5.out.1 (by have := HX3.out.size; have := HPP.out; omega) (fun q h => by cases h; omega))
              have HNO := Lib.hid (own_grown HO3.out HCw5.out.1 (fun q h e => own_neG HO3.out HB9.out (by decide) (h.trans e.symm)))
              refine wpAnyH_ready (rs := [13]) (by show _ = _; kernel_rfl) (by simp) ?_
              refine AllReadyH.cons (o := _) rfl (fun K hK => ?_) AllReadyH.nil
              unfold put13 at hw5
              go_simp
              rw [← hw5]
              refine hK.out _ _ ⟨HNM.out, HNS.out⟩ (fun _ => ?_)
              clear hK K HCw5 hw5 HB8 HB9 HB10 HB11 HM3 HS3 HX3 HO3 z0 y0 z1 y1 z2 y2 z3 y3 z4 y4 z5 y5 z6 y6 z7 y7 z8 y8 z9 y9 z10 y10 z11 y11 z12 y12
              have HB8 := HN8
              have HB9 := HN9
              have HB10 := HN10
              have HB11 := HN11
              have HM3 := HNM
              have HS3 := HNS
              have HX3 := HNX
              have HO3 := HNO
              clear HN8 HN9 HN10 HN11 HNM HNS HNX HNO
              try simp only [Act.put, List.setIfInBounds_toArray, List.set_cons_zero, List.set_cons_succ]
              have z0 := HB10.out.cell (o := 0) rfl
              have z1 := HB10.out.cell (o := 1) rfl
              have z2 := HB10.out.cell (o := 2) rfl
              have z3 := HB10.out.cell (o := 3) rfl
              have z4 := HB10.out.cell (o := 4) rfl
              have z5 := HB10.out.cell (o := 5) rfl
              have z6 := HB10.out.cell (o := 6) rfl
              have z7 := HB10.out.cell (o := 7) rfl
              have z8 := HB10.out.cell (o := 8) rfl
              have z9 := HB10.out.cell (o := 9) rfl
              have z10 := HB10.out.cell (o := 10) rfl
              have z11 := HB10.out.cell (o := 11) rfl
              have z12 := HB10.out.cell (o := 12) rfl
              have y0 := HB10.out.froz 0
              have y1 := HB10.out.froz 1
              have y2 := HB10.out.froz 2
              have y3 := HB10.out.froz 3
              have y4 := HB10.out.froz 4
              have y5 := HB10.out.froz 5
              have y6 := HB10.out.froz 6
              have y7 := HB10.out.froz 7
              have y8 := HB10.out.froz 8
              have y9 := HB10.out.froz 9
              have y10 := HB10.out.froz 10
              have y11 := HB10.out.froz 11
              have y12 := HB10.out.froz 12
              obtain ⟨w6, hw6⟩ : ∃ z, z = put13 w5 g10 (.int .i64 S.knd) (.int .i64 S.frm) (.int .i64 S.tto) (.int .i64 S.trm) (.int .i64 S.idx) (.int .i64 S.lgt) (.int .i64 S.com) (.int .i64 S.rnd) (.bool S.ok) (.slice B5 0 d5) (.int .i64 S.att) (.string S.dat) (.bool S.don) := ⟨_, rfl⟩
              have HCw6 := Lib.hid (put13_chg w5 g10 (.int .i64 S.knd) (.int .i64 S.frm) (.int .i64 S.tto) (.int .i64 S.trm) (.int .i64 S.idx) (.int .i64 S.lgt) (.int .i64 S.com) (.int .i64 S.rnd) (.bool S.ok) (.slice B5 0 d5) (.int .i64 S.att) (.string S.dat) (.bool S.don))
              rw [← hw6] at HCw6
              have HN10 : Hid (Blk w6 g10 27 [.int .i64 S.knd, .int .i64 S.frm, .int .i64 S.tto, .int .i64 S.trm, .int .i64 S.idx, .int .i64 S.lgt, .int .i64 S.com, .int .i64 S.rnd, .bool S.ok, .slice B5 0 d5, .int .i64 S.att, .string S.dat, .bool S.don]) := Lib.hid (by rw [hw6]; exact put13_blk (.int .i64 S.knd) (.int .i64 S.frm) (.int .i64 S.tto) (.int .i64 S.trm) (.int .i64 S.idx) (.int .i64 S.lgt) (.int .i64 S.com) (.int .i64 S.rnd) (.bool S.ok) (.slice B5 0 d5) (.int .i64 S.att) (.string S.dat) (.bool S.don) HB10.out)
              have HN8 := Lib.hid (HCw6.out.blk HB8.out m2)
              have HN9 := Lib.hid (HCw6.out.blk HB9.out m4)
              have HN11 := Lib.hid (HCw6.out.blk HB11.out (Ne.symm m6))
              have HNM := Lib.hid (HCw6.out.blk HM3.out (by omega))
              have HNS := Lib.hid (HCw6.out.blk HS3.out (by omega))
              have HNX : Hid (Below p W w6) := Lib.hid (HX3.out.grown HCw6.out.1 (by have := HX3.out.size; have := HPP.out; omega) (fun q h => by cases h; omega))
              have HNO := Lib.hid (own_grown HO3.out HCw6.out.1 (fun q h e => own_neG HO3.out HB10.out (by decide) (h.trans e.symm)))
              refine wpAnyH_ready (rs := [14]) (by show _ = _; kernel_rfl) (by simp) ?_
              refine AllReadyH.cons (o := _) rfl (fun K hK => ?_) AllReadyH.nil
              unfold put13 at hw6
              go_simp
              rw [← hw6]
              refine hK.out _ _ ⟨HNM.out, HNS.out⟩ (fun _ => ?_)
              clear hK K HCw6 hw6 HB8 HB9 HB10 HB11 HM3 HS3 HX3 HO3 z0 y0 z1 y1 z2 y2 z3 y3 z4 y4 z5 y5 z6 y6 z7 y7 z8 y8 z9 y9 z10 y10 z11 y11 z12 y12
              have HB8 := HN8
              have HB9 := HN9
              have HB10 := HN10
              have HB11 := HN11
              have HM3 := HNM
              have HS3 := HNS
              have HX3 := HNX
              have HO3 := HNO
              clear HN8 HN9 HN10 HN11 HNM HNS HNX HNO
              try simp only [Act.put, List.setIfInBounds_toArray, List.set_cons_zero, List.set_cons_succ]
              have z0 := HB11.out.cell (o := 0) rfl
              have z1 := HB11.out.cell (o := 1) rfl
              have z2 := HB11.out.cell (o := 2) rfl
              have z3 := HB11.out.cell (o := 3) rfl
              have z4 := HB11.out.cell (o := 4) rfl
              have z5 := HB11.out.cell (o := 5) rfl
              have z6 := HB11.out.cell (o := 6) rfl
              have z7 := HB11.out.cell (o := 7) rfl
              have z8 := HB11.out.cell (o := 8) rfl
              have z9 := HB11.out.cell (o := 9) rfl
              have z10 := HB11.out.cell (o := 10) rfl
              have z11 := HB11.out.cell (o := 11) rfl
              have z12 := HB11.out.cell (o := 12) rfl
              have y0 := HB11.out.froz 0
              have y1 := HB11.out.froz 1
              have y2 := HB11.out.froz 2
              have y3 := HB11.out.froz 3
              have y4 := HB11.out.froz 4
              have y5 := HB11.out.froz 5
              have y6 := HB11.out.froz 6
              have y7 := HB11.out.froz 7
              have y8 := HB11.out.froz 8
              have y9 := HB11.out.froz 9
              have y10 := HB11.out.froz 10
              have y11 := HB11.out.froz 11
              have y12 := HB11.out.froz 12
              obtain ⟨w7, hw7⟩ : ∃ z, z = put13 w6 g11 (.int .i64 S.knd) (.int .i64 S.frm) (.int .i64 S.tto) (.int .i64 S.trm) (.int .i64 S.idx) (.int .i64 S.lgt) (.int .i64 S.com) (.int .i64 S.rnd) (.bool S.ok) (.slice B7 0 d7) (.int .i64 S.att) (.string S.dat) (.bool S.don) := ⟨_, rfl⟩
              have HCw7 := Lib.hid (put13_chg w6 g11 (.int .i64 S.knd) (.int .i64 S.frm) (.int .i64 S.tto) (.int .i64 S.trm) (.int .i64 S.idx) (.int .i64 S.lgt) (.int .i64 S.com) (.int .i64 S.rnd) (.bool S.ok) (.slice B7 0 d7) (.int .i64 S.att) (.string S.dat) (.bool S.don))
              rw [← hw7] at HCw7
              have HN11 : Hid (Blk w7 g11 27 [.int .i64 S.knd, .int .i64 S.frm, .int .i64 S.tto, .int .i64 S.trm, .int .i64 S.idx, .int .i64 S.lgt, .int .i64 S.com, .int .i64 S.rnd, .bool S.ok, .slice B7 0 d7, .int .i64 S.att, .string S.dat, .bool S.don]) := Lib.hid (by rw [hw7]; exact put13_blk (.int .i64 S.knd) (.int .i64 S.frm) (.int .i64 S.tto) (.int .i64 S.trm) (.int .i64 S.idx) (.int .i64 S.lgt) (.int .i64 S.com) (.int .i64 S.rnd) (.bool S.ok) (.slice B7 0 d7) (.int .i64 S.att) (.string S.dat) (.bool S.don) HB11.out)
              have HN8 := Lib.hid (HCw7.out.blk HB8.out m3)
              have HN9 := Lib.hid (HCw7.out.blk HB9.out m5)
              have HN10 := Lib.hid (HCw7.out.blk HB10.out m6)
              have HNM := Lib.hid (HCw7.out.blk HM3.out (by omega))
              have HNS := Lib.hid (HCw7.out.blk HS3.out (by omega))
              have HNX : Hid (Below p W w7) := Lib.hid (HX3.out.grown HCw7.out.1 (by have := HX3.out.size; have := HPP.out; omega) (fun q h => by cases h; omega))
              have HNO := Lib.hid (own_grown HO3.out HCw7.out.1 (fun q h e => own_neG HO3.out HB11.out (by decide) (h.trans e.symm)))
              refine wpAnyH_ready (rs := [15]) (by show _ = _; kernel_rfl) (by simp) ?_
              refine AllReadyH.cons (o := _) rfl (fun K hK => ?_) AllReadyH.nil
              unfold put13 at hw7
              go_simp
              rw [← hw7]
              refine hK.out _ _ ⟨HNM.out, HNS.out⟩ (fun _ => ?_)
              clear hK K HCw7 hw7 HB8 HB9 HB10 HB11 HM3 HS3 HX3 HO3 z0 y0 z1 y1 z2 y2 z3 y3 z4 y4 z5 y5 z6 y6 z7 y7 z8 y8 z9 y9 z10 y10 z11 y11 z12 y12
              have HB8 := HN8
              have HB9 := HN9
              have HB10 := HN10
              have HB11 := HN11
              have HM3 := HNM
              have HS3 := HNS
              have HX3 := HNX
              have HO3 := HNO
              clear HN8 HN9 HN10 HN11 HNM HNS HNX HNO
              try simp only [Act.put, List.setIfInBounds_toArray, List.set_cons_zero, List.set_cons_succ]
              refine wpAnyH_done (by show _ = _; kernel_rfl) ?_ 0
              clear HM3 HS3
              go_upto_region 19 with (fail)
              have hs7 : w2.heap.size ≤ w7.heap.size := by have := HB8.out.lt; omega
              have hps7 : p ≤ w7.heap.size := by have := HX3.out.size; have := HPP.out; omega
              obtain ⟨K, hK⟩ : ∃ z, z = w2.heap.size := ⟨_, rfl⟩
              rw [← hK] at hs7 HO3 hg8 hg9 hg10 hg11
              have hKp : p + 1 ≤ K := by omega
              clear hK
              have HAL : Hid (Below w7.heap.size w7 (w7.alloc (.cells #[.int .i64 1099511627776, .int .i64 1099511627775, .string ⟨#[]⟩] 41))) := Lib.hid ((Below.refl _ _).alloc (Nat.le_refl _) _)
              have HOA := Lib.hid (own_ext HO3.out HAL.out (Nat.le_refl _))
              have z9 := HB8.out.cell (o := 9) rfl
              go_upto_region 20 with (at_builtin; refine wp_app1 (w0 := w7) rfl rfl _ _ 25 rfl K 41 (.agg #[.int .i64 0, .int .i64 0, .string ⟨#[]⟩]) 3 32 Try.underlying25 info_ent rfl (by decide) (by decide) _ 16 _ rfl HO3.out rfl rfl (by intro u hu; simp at hu; rcases hu with rfl | rfl | rfl <;> rfl) (by omega) hs7 ?_
                                      intro v8 w8 hown8 hgr8 hbb8
                                      obtain ⟨A8, c8, rfl, _, _, _, _, _⟩ := own_rds hown8
                                      have HO8 := Lib.hid hown8
                                      have HN8 := Lib.hid ((HB8.out.ext HAL.out (Nat.le_refl _)).grown hgr8 (own_neG HOA.out (HB8.out.ext HAL.out (Nat.le_refl _)) (by decide)))
                                      have HN9 := Lib.hid ((HB9.out.ext HAL.out (Nat.le_refl _)).grown hgr8 (own_neG HOA.out (HB9.out.ext HAL.out (Nat.le_refl _)) (by decide)))
                                      have HN10 := Lib.hid ((HB10.out.ext HAL.out (Nat.le_refl _)).grown hgr8 (own_neG HOA.out (HB10.out.ext HAL.out (Nat.le_refl _)) (by decide)))
                                      have HN11 := Lib.hid ((HB11.out.ext HAL.out (Nat.le_refl _)).grown hgr8 (own_neG HOA.out (HB11.out.ext HAL.out (Nat.le_refl _)) (by decide)))
                                      have HNX : Hid (Below p W w8) := Lib.hid (HX3.out.trans (hbb8.mono (by omega)))
                                      have hs8 : K ≤ w8.heap.size := Nat.le_trans hs7 hbb8.size
                                      clear hown8 hgr8 hbb8 z9
                                      have z9 := HN8.out.cell (o := 9) rfl
                                      have y9 := HN8.out.froz 9)
              clear HB8 HB9 HB10 HB11 HX3 HO3 HOA HAL hs7
              obtain ⟨w9, hw9⟩ : ∃ z, z = World.setCell w8 ⟨g8, 9, none⟩ (.slice A8 (16 + 1) c8) := ⟨_, rfl⟩
              have HCH := Lib.hid (Chg.set g8 w8 9 (.slice A8 (16 + 1) c8))
              have HM8 := Lib.hid (HN8.out.set 9 (.slice A8 (16 + 1) c8))
              rw [← hw9] at HCH HM8
              have HM9 := Lib.hid (HCH.out.blk HN9.out (Ne.symm m1))
              have HM10 := Lib.hid (HCH.out.blk HN10.out (Ne.symm m2))
              have HM11 := Lib.hid (HCH.out.blk HN11.out (Ne.symm m3))
              have HOM := Lib.hid (own_grown HO8.out HCH.out.1 (fun q h e => own_neG HO8.out HN8.out (by decide) (h.trans e.symm)))
              have HXM : Hid (Below p W w9) := Lib.hid (HNX.out.grown HCH.out.1 (by omega) (fun q h => by cases h; omega))
              have hsm : K ≤ w9.heap.size := by rw [HCH.out.2]; exact hs8
              rw [← hw9]
              clear hw9 HCH HN8 HN9 HN10 HN11 HO8 HNX hs8 z9 y9
              have HN8 := HM8
              have HN9 := HM9
              have HN10 := HM10
              have HN11 := HM11
              have HO8 := HOM
              have HNX := HXM
              have hs8 := hsm
              clear HM8 HM9 HM10 HM11 HOM HXM hsm
              have z4 : w9.cell? ⟨g9, 4, none⟩ = some (.int .i64 1099511625728) := by have h := HN9.out.cell (o := 4) rfl; rw [HSE.out] at h; exact h
              have y4 := HN9.out.froz 4
              go_upto_region 21 with (fail)
              obtain ⟨w10, hw10⟩ : ∃ z, z = World.setCell w9 ⟨g9, 4, none⟩ (.int .i64 1099511625729) := ⟨_, rfl⟩
              have HCH := Lib.hid (Chg.set g9 w9 4 (.int .i64 1099511625729))
              have HM9 := Lib.hid (HN9.out.set 4 (.int .i64 1099511625729))
              rw [← hw10] at HCH HM9
              have HM8 := Lib.hid (HCH.out.blk HN8.out m1)
              have HM10 := Lib.hid (HCH.out.blk HN10.out (Ne.symm m4))
              have HM11 := Lib.hid (HCH.out.blk HN11.out (Ne.symm m5))
              have HOM := Lib.hid (own_grown HO8.out HCH.out.1 (fun q h e => own_neG HO8.out HN9.out (by decide) (h.trans e.symm)))
              have HXM : Hid (Below p W w10) := Lib.hid (HNX.out.grown HCH.out.1 (by omega) (fun q h => by cases h; omega))
              have hsm : K ≤ w10.heap.size := by rw [HCH.out.2]; exact hs8
              rw [← hw10]
              clear hw10 HCH HN8 HN9 HN10 HN11 HO8 HNX hs8 z4 y4
              have HN8 := HM8
              have HN9 := HM9
              have HN10 := HM10
              have HN11 := HM11
              have HO8 := HOM
              have HNX := HXM
              have hs8 := hsm
              clear HM8 HM9 HM10 HM11 HOM HXM hsm
              have z11 : w10.cell? ⟨g10, 11, none⟩ = some (.string ZB) := by have h := HN10.out.cell (o := 11) rfl; rw [HSE.out] at h; exact h
              have y11 := HN10.out.froz 11
              have hzz : ¬ 9223372036854775807 < ZB.size + 1 := by have := HZS.out; omega
              go_upto_region 22 with (fail)
              obtain ⟨w11, hw11⟩ : ∃ z, z = World.setCell w10 ⟨g10, 11, none⟩ (.string (ZB ++ ⟨#[120]⟩)) := ⟨_, rfl⟩
              have HCH := Lib.hid (Chg.set g10 w10 11 (.string (ZB ++ ⟨#[120]⟩)))
              have HM10 := Lib.hid (HN10.out.set 11 (.string (ZB ++ ⟨#[120]⟩)))
              rw [← hw11] at HCH HM10
              have HM8 := Lib.hid (HCH.out.blk HN8.out m2)
              have HM9 := Lib.hid (HCH.out.blk HN9.out m4)
              have HM11 := Lib.hid (HCH.out.blk HN11.out (Ne.symm m6))
              have HOM := Lib.hid (own_grown HO8.out HCH.out.1 (fun q h e => own_neG HO8.out HN10.out (by decide) (h.trans e.symm)))
              have HXM : Hid (Below p W w11) := Lib.hid (HNX.out.grown HCH.out.1 (by omega) (fun q h => by cases h; omega))
              have hsm : K ≤ w11.heap.size := by rw [HCH.out.2]; exact hs8
              rw [← hw11]
              clear hw11 HCH HN8 HN9 HN10 HN11 HO8 HNX hs8 z11 y11
              have HN8 := HM8
              have HN9 := HM9
              have HN10 := HM10
              have HN11 := HM11
              have HO8 := HOM
              have HNX := HXM
              have hs8 := hsm
              clear HM8 HM9 HM10 HM11 HOM HXM hsm
              have z10 : w11.cell? ⟨g11, 10, none⟩ = some (.int .i64 524288) := by have h := HN11.out.cell (o := 10) rfl; rw [HSE.out] at h; exact h
              have y10 := HN11.out.froz 10
              go_upto_region 23 with (fail)
              obtain ⟨w12, hw12⟩ : ∃ z, z = World.setCell w11 ⟨g11, 10, none⟩ (.int .i64 524289) := ⟨_, rfl⟩
              have HCH := Lib.hid (Chg.set g11 w11 10 (.int .i64 524289))
              have HM11 := Lib.hid (HN11.out.set 10 (.int .i64 524289))
              rw [← hw12] at HCH HM11
              have HM8 := Lib.hid (HCH.out.blk HN8.out m3)
              have HM9 := Lib.hid (HCH.out.blk HN9.out m5)
              have HM10 := Lib.hid (HCH.out.blk HN10.out m6)
              have HOM := Lib.hid (own_grown HO8.out HCH.out.1 (fun q h e => own_neG HO8.out HN11.out (by decide) (h.trans e.symm)))
              have HXM : Hid (Below p W w12) := Lib.hid (HNX.out.grown HCH.out.1 (by omega) (fun q h => by cases h; omega))
              have hsm : K ≤ w12.heap.size := by rw [HCH.out.2]; exact hs8
              rw [← hw12]
              clear hw12 HCH HN8 HN9 HN10 HN11 HO8 HNX hs8 z10 y10
              have HN8 := HM8
              have HN9 := HM9
              have HN10 := HM10
              have HN11 := HM11
              have HO8 := HOM
              have HNX := HXM
              have hs8 := hsm
              clear HM8 HM9 HM10 HM11 HOM HXM hsm
              have HK8 : Hid (∀ wz, Below w12.heap.size w12 wz → Calls Try.prog 13 #[.agg #[.int .i64 G.knd, .int .i64 G.frm, .int .i64 G.tto, .int .i64 G.trm, .int .i64 G.idx, .int .i64 G.lgt, .int .i64 G.com, .int .i64 G.rnd, .bool G.ok, .slice A8 (16 + 1) c8, .int .i64 G.att, .string G.dat, .bool G.don]] wz fun e w' => e = .returned (.int .i64 1) ∧ Below wz.heap.size wz w') := Lib.hid (fun wz hz => by
                obtain ⟨A', c', e', _, _, _, r', _⟩ := own_rds HO8.out
                obtain ⟨rfl, rfl⟩ : A8 = A' ∧ c8 = c' := by simpa using e'
                rw [HEG.out] at r'
                have h := Check_any wz (msgG (entsG 16 ++ ([(1099511627776, 1099511627775, ⟨#[]⟩)] : List Ent))) 17 (by show (entsG 16 ++ ([(1099511627776, 1099511627775, ⟨#[]⟩)] : List Ent)).length = 17; rw [List.length_append, entsG_len]; rfl) A8 c8 (by show Rds wz A8 (entsC (entsG 16 ++ ([(1099511627776, 1099511627775, ⟨#[]⟩)] : List Ent))); rw [entsC_app]; exact r'.ext hz (Nat.le_refl _)) (by omega) ⟨by show (0 : Int) ≤ 1099511627759; omega, by show (1099511627759 : Int) < _; omega⟩
                rw [msgG_no _ (by rw [List.length_append, entsG_len]; decide)] at h
                rw [HGE.out]
                exact h)
              have HK9 : Hid (∀ wz, Below w12.heap.size w12 wz → Calls Try.prog 13 #[.agg #[.int .i64 S.knd, .int .i64 S.frm, .int .i64 S.tto, .int .i64 S.trm, .int .i64 1099511625729, .int .i64 S.lgt, .int .i64 S.com, .int .i64 S.rnd, .bool S.ok, .slice B3 0 d3, .int .i64 S.att, .string S.dat, .bool S.don]] wz fun e w' => e = .returned (.int .i64 1) ∧ Below wz.heap.size wz w') := Lib.hid (fun wz hz => by
                have h := Check_any wz (msgS 1099511625729 524288 ZB) 0 rfl B3 d3 (Rds.nil _ _) (by omega) ⟨by show (0 : Int) ≤ 1099511625729; decide, by show (1099511625729 : Int) < 9223372036854775808; decide⟩
                rw [msgS_no (.inl (by omega))] at h
                rw [HSE.out]
                exact h)
              have HK10 : Hid (∀ wz, Below w12.heap.size w12 wz → Calls Try.prog 13 #[.agg #[.int .i64 S.knd, .int .i64 S.frm, .int .i64 S.tto, .int .i64 S.trm, .int .i64 S.idx, .int .i64 S.lgt, .int .i64 S.com, .int .i64 S.rnd, .bool S.ok, .slice B5 0 d5, .int .i64 S.att, .string (ZB ++ ⟨#[120]⟩), .bool S.don]] wz fun e w' => e = .returned (.int .i64 1) ∧ Below wz.heap.size wz w') := Lib.hid (fun wz hz => by
                have h := Check_any wz (msgS 1099511625728 524288 (ZB ++ ⟨#[120]⟩)) 0 rfl B5 d5 (Rds.nil _ _) (by omega) ⟨by show (0 : Int) ≤ 1099511625728; decide, by show (1099511625728 : Int) < 9223372036854775808; decide⟩
                rw [msgS_no (.inr (.inr (by rw [ByteArray.size_append]; have := HZS.out; show 1024 < ZB.size + 1; omega)))] at h
                rw [HSE.out]
                exact h)
              have HK11 : Hid (∀ wz, Below w12.heap.size w12 wz → Calls Try.prog 13 #[.agg #[.int .i64 S.knd, .int .i64 S.frm, .int .i64 S.tto, .int .i64 S.trm, .int .i64 S.idx, .int .i64 S.lgt, .int .i64 S.com, .int .i64 S.rnd, .bool S.ok, .slice B7 0 d7, .int .i64 524289, .string S.dat, .bool S.don]] wz fun e w' => e = .returned (.int .i64 1) ∧ Below wz.heap.size wz w') := Lib.hid (fun wz hz => by
                have h := Check_any wz (msgS 1099511625728 524289 ZB) 0 rfl B7 d7 (Rds.nil _ _) (by omega) ⟨by show (0 : Int) ≤ 1099511625728; decide, by show (1099511625728 : Int) < 9223372036854775808; decide⟩
                rw [msgS_no (.inr (.inl (by omega)))] at h
                rw [HSE.out]
                exact h)
              clear HO8 hzz
              have z0 := HN8.out.cell (o := 0) rfl
              have z1 := HN8.out.cell (o := 1) rfl
              have z2 := HN8.out.cell (o := 2) rfl
              have z3 := HN8.out.cell (o := 3) rfl
              have z4 := HN8.out.cell (o := 4) rfl
              have z5 := HN8.out.cell (o := 5) rfl
              have z6 := HN8.out.cell (o := 6) rfl
              have z7 := HN8.out.cell (o := 7) rfl
              have z8 := HN8.out.cell (o := 8) rfl
              have z9 := HN8.out.cell (o := 9) rfl
              have z10 := HN8.out.cell (o := 10) rfl
              have z11 := HN8.out.cell (o := 11) rfl
              have z12 := HN8.out.cell (o := 12) rfl
              go_wp2_with (first
                | (go_at_call 8; refine (num25 _ _).mono ?_; rintro e wq ⟨rfl, rfl⟩)
                | (go_at_call 13; (with_reducible refine (HK8.out w12 (Below.refl _ _)).mono ?_); rintro e w13 ⟨rfl, hbw13⟩
                   have HBw13 : Hid (Below w12.heap.size w12 w13) := Lib.hid hbw13
                   clear hbw13 z0 z1 z2 z3 z4 z5 z6 z7 z8 z9 z10 z11 z12
                   have HF9 := Lib.hid (HN9.out.ext HBw13.out (Nat.le_refl _))
                   have z0 := HF9.out.cell (o := 0) rfl
                   have z1 := HF9.out.cell (o := 1) rfl
                   have z2 := HF9.out.cell (o := 2) rfl
                   have z3 := HF9.out.cell (o := 3) rfl
                   have z4 := HF9.out.cell (o := 4) rfl
                   have z5 := HF9.out.cell (o := 5) rfl
                   have z6 := HF9.out.cell (o := 6) rfl
                   have z7 := HF9.out.cell (o := 7) rfl
                   have z8 := HF9.out.cell (o := 8) rfl
                   have z9 := HF9.out.cell (o := 9) rfl
                   have z10 := HF9.out.cell (o := 10) rfl
                   have z11 := HF9.out.cell (o := 11) rfl
                   have z12 := HF9.out.cell (o := 12) rfl)
                | (go_at_call 13; (with_reducible refine (HK9.out w13 HBw13.out).mono ?_); rintro e w14 ⟨rfl, hbw14⟩
                   have HBw14 : Hid (Below w12.heap.size w12 w14) := Lib.hid (HBw13.out.trans (hbw14.mono HBw13.out.size))
                   clear hbw14 z0 z1 z2 z3 z4 z5 z6 z7 z8 z9 z10 z11 z12
                   have HF10 := Lib.hid (HN10.out.ext HBw14.out (Nat.le_refl _))
                   have z0 := HF10.out.cell (o := 0) rfl
                   have z1 := HF10.out.cell (o := 1) rfl
                   have z2 := HF10.out.cell (o := 2) rfl
                   have z3 := HF10.out.cell (o := 3) rfl
                   have z4 := HF10.out.cell (o := 4) rfl
                   have z5 := HF10.out.cell (o := 5) rfl
                   have z6 := HF10.out.cell (o := 6) rfl
                   have z7 := HF10.out.cell (o := 7) rfl
                   have z8 := HF10.out.cell (o := 8) rfl
                   have z9 := HF10.out.cell (o := 9) rfl
                   have z10 := HF10.out.cell (o := 10) rfl
                   have z11 := HF10.out.cell (o := 11) rfl
                   have z12 := HF10.out.cell (o := 12) rfl)
                | (go_at_call 13; (with_reducible refine (HK10.out w14 HBw14.out).mono ?_); rintro e w15 ⟨rfl, hbw15⟩
                   have HBw15 : Hid (Below w12.heap.size w12 w15) := Lib.hid (HBw14.out.trans (hbw15.mono HBw14.out.size))
                   clear hbw15 z0 z1 z2 z3 z4 z5 z6 z7 z8 z9 z10 z11 z12
                   have HF11 := Lib.hid (HN11.out.ext HBw15.out (Nat.le_refl _))
                   have z0 := HF11.out.cell (o := 0) rfl
                   have z1 := HF11.out.cell (o := 1) rfl
                   have z2 := HF11.out.cell (o := 2) rfl
                   have z3 := HF11.out.cell (o := 3) rfl
                   have z4 := HF11.out.cell (o := 4) rfl
                   have z5 := HF11.out.cell (o := 5) rfl
                   have z6 := HF11.out.cell (o := 6) rfl
                   have z7 := HF11.out.cell (o := 7) rfl
                   have z8 := HF11.out.cell (o := 8) rfl
                   have z9 := HF11.out.cell (o := 9) rfl
                   have z10 := HF11.out.cell (o := 10) rfl
                   have z11 := HF11.out.cell (o := 11) rfl
                   have z12 := HF11.out.cell (o := 12) rfl)
                | (go_at_call 13; (with_reducible refine (HK11.out w15 HBw15.out).mono ?_); rintro e w16 ⟨rfl, hbw16⟩
                   have HBw16 : Hid (Below w12.heap.size w12 w16) := Lib.hid (HBw15.out.trans (hbw16.mono HBw15.out.size))
                   clear hbw16 z0 z1 z2 z3 z4 z5 z6 z7 z8 z9 z10 z11 z12)
                | (go_at_call 12; refine (wakes25 _).mono ?_; rintro e w17 ⟨rfl, hb17⟩))
              go_ret
              have hz := HNX.out.trans ((HBw16.out.trans (hb17.mono HBw16.out.size)).mono (by omega))
              rw [HPP.out] at hz
              exact ⟨rfl, hz⟩
end Go.Proofs.Ytdbpgcaoakoojaa
