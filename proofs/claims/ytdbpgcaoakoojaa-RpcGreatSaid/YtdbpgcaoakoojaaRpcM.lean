/- The walk of rpc's reader.message. -/
import Derived.Test.YtdbpgcaoakoojaaRpcN
import Derived.Test.YtdbpgcaoakoojaaEntC
set_option linter.unusedVariables false
set_option linter.unusedSimpArgs false
namespace Lec
open Go Go.RowKit
def rpcV (m : Rpc) (v : Value) : Value := .agg #[.int .i64 m.knd, .int .i64 m.frm, .int .i64 m.tto, .int .i64 m.trm, .int .i64 m.idx, .int .i64 m.lgt, .int .i64 m.com, .int .i64 m.rnd, .bool m.ok, v, .int .i64 m.att, .string m.dat, .bool m.don]
def rpcC (m : Rpc) (v : Value) : List Value := [.int .i64 m.knd, .int .i64 m.frm, .int .i64 m.tto, .int .i64 m.trm, .int .i64 m.idx, .int .i64 m.lgt, .int .i64 m.com, .int .i64 m.rnd, .bool m.ok, v, .int .i64 m.att, .string m.dat, .bool m.don]
def lenC (w : World) (a : Addr) : Nat := match w.cell? a with | some (.slice _ n _) => n | _ => 0
theorem Txt.lenC {w : World} {p : Nat} {T : TypeId} {st : St} (h : Txt w p T st) : lenC w ⟨p, 0, none⟩ = st.1.length := by
  obtain ⟨A, c, h1, _⟩ := h.ex
  unfold Lec.lenC
  rw [h1.cell (o := 0) rfl]
theorem list11 {xs : List Int} (h : xs.length = 11) : xs = [xs.getD 0 0, xs.getD 1 0, xs.getD 2 0, xs.getD 3 0, xs.getD 4 0, xs.getD 5 0, xs.getD 6 0, xs.getD 7 0, xs.getD 8 0, xs.getD 9 0, xs.getD 10 0] := by
  match xs, h with
  | [_, _, _, _, _, _, _, _, _, _, _], _ => rfl
theorem list2 {xs : List Int} (h : xs.length = 2) : xs = [xs.getD 0 0, xs.getD 1 0] := by
  match xs, h with
  | [_, _], _ => rfl
theorem entsT_fuel : ∀ (f : Nat) (st : St), st.1.length ≤ f → entsT f st = entsT st.1.length st
  | 0, st, h => by rw [show st.1.length = 0 by omega]
  | f + 1, st, h => by
    by_cases hz : (st.1.isEmpty || st.2) = true
    · rw [entsT, if_pos hz]
      cases hs : st.1.length with
      | zero => rfl
      | succ n => rw [entsT, if_pos hz]
    · have hl := entOne_lt hz
      obtain ⟨n, hn⟩ : ∃ n, st.1.length = n + 1 := ⟨st.1.length - 1, by omega⟩
      rw [hn, entsT, if_neg hz, entsT, if_neg hz, entsT_fuel f _ (by omega), entsT_fuel n _ (by omega)]
termination_by f => f
theorem entsT_step {st : St} (h : ¬ (st.1.isEmpty || st.2) = true) : entsT st.1.length st = ((entOne st).1 :: (entsT (entOne st).2.1.length (entOne st).2).1, (entsT (entOne st).2.1.length (entOne st).2).2) := by
  have hl := entOne_lt h
  obtain ⟨n, hn⟩ : ∃ n, st.1.length = n + 1 := ⟨st.1.length - 1, by omega⟩
  rw [hn, entsT, if_neg h, entsT_fuel n _ (by omega)]
theorem entsT_stop {st : St} (h : (st.1.isEmpty || st.2) = true) : entsT st.1.length st = ([], st) := by
  cases hs : st.1.length with
  | zero => rfl
  | succ n => rw [entsT, if_pos h]
theorem Chs.grown {p : Nat} {az : List Addr} {a b : World} (h : Chs p az a b) (hz : ∀ x ∈ az, a.heap.size ≤ x.block) : a.grownBy b (some p) :=
  ⟨h.os, h.tape, h.output, h.size, fun k hk hne => h.block k hk (fun e => hne (by rw [e])) (fun x hx e => by have := hz x hx; omega)⟩
theorem Chs.own {p : Nat} {az : List Addr} {a b : World} (h : Chs p az a b) {base : Nat} {e : TypeId} {size : Nat} {v : Value} {n : Nat} {xs : List Value} (ho : a.ownsRow base e size v n xs) (hp : p < base) (hz : ∀ x ∈ az, a.heap.size ≤ x.block) : b.ownsRow base e size v n xs :=
  ho.kept (h.grown hz) (by cases hv : v.ownBlock with
    | none => exact .inl rfl
    | some k => right; have := (ho.lt k hv).1; intro e; cases e; omega)
def azM (h : Nat) : List Addr := [⟨h, 0, none⟩, ⟨h, 1, none⟩, ⟨h, 2, none⟩, ⟨h, 3, none⟩, ⟨h, 4, none⟩, ⟨h, 5, none⟩, ⟨h, 6, none⟩, ⟨h, 7, none⟩, ⟨h, 10, none⟩, ⟨h + 1, 0, none⟩, ⟨h + 2, 0, none⟩]
theorem azM_mem {h : Nat} {a : Addr} (ha : a ∈ azM h) : (a.block = h ∧ a = ⟨h, a.off, none⟩ ∧ a.off < 13) ∨ a = ⟨h + 1, 0, none⟩ ∨ a = ⟨h + 2, 0, none⟩ := by
  simp only [azM, List.mem_cons, List.not_mem_nil, or_false] at ha
  rcases ha with rfl | rfl | rfl | rfl | rfl | rfl | rfl | rfl | rfl | rfl | rfl
  all_goals first | exact .inl ⟨rfl, rfl, by dsimp only; omega⟩ | exact .inr (.inl rfl) | exact .inr (.inr rfl)
theorem azM_blk {h : Nat} {a : Addr} (ha : a ∈ azM h) : h ≤ a.block ∧ a.block < h + 3 := by
  rcases azM_mem ha with ⟨h1, _, _⟩ | h1 | h1
  · omega
  · rw [h1]; dsimp only; omega
  · rw [h1]; dsimp only; omega
theorem azM_ok {w : World} {h p : Nat} {T I : TypeId} {cs d1 d2 : List Value} (hp : p < h) (hc : 13 ≤ cs.length) (h1 : Blk w h T cs) (h2 : Blk w (h + 1) I d1) (h3 : Blk w (h + 2) I d2) (l1 : 0 < d1.length) (l2 : 0 < d2.length) :
    ∀ a ∈ azM h, p < a.block ∧ a = ⟨a.block, a.off, none⟩ ∧ ∃ T cs, Blk w a.block T cs ∧ a.off < cs.length := by
  intro a ha
  rcases azM_mem ha with ⟨e1, e2, e3⟩ | e | e
  · exact ⟨by omega, by rw [e1]; exact e2, T, cs, by rw [e1]; exact h1, by omega⟩
  · rw [e]; exact ⟨by dsimp only; omega, rfl, I, d1, h2, l1⟩
  · rw [e]; exact ⟨by dsimp only; omega, rfl, I, d2, h3, l2⟩
theorem azM_sets (h : Nat) (xs : List Int) (hx : xs.length = 11) (cs : List Value) : setsF h ((azM h).zip xs) cs = ((((((((cs.set 0 (.int .i64 (xs.getD 0 0))).set 1 (.int .i64 (xs.getD 1 0))).set 2 (.int .i64 (xs.getD 2 0))).set 3 (.int .i64 (xs.getD 3 0))).set 4 (.int .i64 (xs.getD 4 0))).set 5 (.int .i64 (xs.getD 5 0))).set 6 (.int .i64 (xs.getD 6 0))).set 7 (.int .i64 (xs.getD 7 0))).set 10 (.int .i64 (xs.getD 8 0)) := by
  have e1 : ¬ (h + 1 = h) := by omega
  have e2 : ¬ (h + 2 = h) := by omega
  match xs, hx with
  | [_, _, _, _, _, _, _, _, _, _, _], _ => simp only [azM, setsF, List.zip_cons_cons, List.zip_nil_right, List.foldl_cons, List.foldl_nil, if_true, if_neg e1, if_neg e2]; rfl
theorem azM_sets1 (h : Nat) (xs : List Int) (hx : xs.length = 11) (v : Value) : setsF (h + 1) ((azM h).zip xs) [v] = [.int .i64 (xs.getD 9 0)] := by
  have e1 : ¬ (h = h + 1) := by omega
  have e2 : ¬ (h + 2 = h + 1) := by omega
  match xs, hx with
  | [_, _, _, _, _, _, _, _, _, _, _], _ => simp only [azM, setsF, List.zip_cons_cons, List.zip_nil_right, List.foldl_cons, List.foldl_nil, if_true, if_neg e1, if_neg e2]; rfl
theorem azM_sets2 (h : Nat) (xs : List Int) (hx : xs.length = 11) (v : Value) : setsF (h + 2) ((azM h).zip xs) [v] = [.int .i64 (xs.getD 10 0)] := by
  have e1 : ¬ (h = h + 2) := by omega
  have e2 : ¬ (h + 1 = h + 2) := by omega
  match xs, hx with
  | [_, _, _, _, _, _, _, _, _, _, _], _ => simp only [azM, setsF, List.zip_cons_cons, List.zip_nil_right, List.foldl_cons, List.foldl_nil, if_true, if_neg e1, if_neg e2]; rfl
def put13 (w : World) (h : Nat) (v0 v1 v2 v3 v4 v5 v6 v7 v8 v9 v10 v11 v12 : Value) : World := (((((((((((((w.setCell ⟨h, 0, none⟩ v0).setCell ⟨h, 1, none⟩ v1).setCell ⟨h, 2, none⟩ v2).setCell ⟨h, 3, none⟩ v3).setCell ⟨h, 4, none⟩ v4).setCell ⟨h, 5, none⟩ v5).setCell ⟨h, 6, none⟩ v6).setCell ⟨h, 7, none⟩ v7).setCell ⟨h, 8, none⟩ v8).setCell ⟨h, 9, none⟩ v9).setCell ⟨h, 10, none⟩ v10).setCell ⟨h, 11, none⟩ v11).setCell ⟨h, 12, none⟩ v12)
theorem put13_blk {w : World} {h : Nat} {T : TypeId} {u0 u1 u2 u3 u4 u5 u6 u7 u8 u9 u10 u11 u12 : Value} (v0 v1 v2 v3 v4 v5 v6 v7 v8 v9 v10 v11 v12 : Value) (hb : Blk w h T [u0, u1, u2, u3, u4, u5, u6, u7, u8, u9, u10, u11, u12]) : Blk (put13 w h v0 v1 v2 v3 v4 v5 v6 v7 v8 v9 v10 v11 v12) h T [v0, v1, v2, v3, v4, v5, v6, v7, v8, v9, v10, v11, v12] := (((((((((((((hb.set 0 v0).set 1 v1).set 2 v2).set 3 v3).set 4 v4).set 5 v5).set 6 v6).set 7 v7).set 8 v8).set 9 v9).set 10 v10).set 11 v11).set 12 v12)
theorem put13_chg (w : World) (h : Nat) (v0 v1 v2 v3 v4 v5 v6 v7 v8 v9 v10 v11 v12 : Value) : Chg h w (put13 w h v0 v1 v2 v3 v4 v5 v6 v7 v8 v9 v10 v11 v12) := (((((((((((((Chg.refl h w).trans (Chg.set h _ 0 v0)).trans (Chg.set h _ 1 v1)).trans (Chg.set h _ 2 v2)).trans (Chg.set h _ 3 v3)).trans (Chg.set h _ 4 v4)).trans (Chg.set h _ 5 v5)).trans (Chg.set h _ 6 v6)).trans (Chg.set h _ 7 v7)).trans (Chg.set h _ 8 v8)).trans (Chg.set h _ 9 v9)).trans (Chg.set h _ 10 v10)).trans (Chg.set h _ 11 v11)).trans (Chg.set h _ 12 v12)
theorem put13_txt {w : World} {p h : Nat} {T : TypeId} {st : St} (ht : Txt w p T st) (hp : p < h) (v0 v1 v2 v3 v4 v5 v6 v7 v8 v9 v10 v11 v12 : Value) : Txt (put13 w h v0 v1 v2 v3 v4 v5 v6 v7 v8 v9 v10 v11 v12) p T st := (((((((((((((ht.far hp v0).far hp v1).far hp v2).far hp v3).far hp v4).far hp v5).far hp v6).far hp v7).far hp v8).far hp v9).far hp v10).far hp v11).far hp v12)
theorem own_mono13 {w : World} {base base' : Nat} {e : TypeId} {size : Nat} {v : Value} {n : Nat} {xs : List Value} (h : w.ownsRow base e size v n xs) (hb : base' ≤ base) : w.ownsRow base' e size v n xs :=
  ⟨h.1, h.2.imp_right fun ⟨g, c, cur, a, b, r⟩ => ⟨g, c, cur, a, by omega, r⟩⟩
theorem Txt.extlt {w w' : World} {p B : Nat} {T : TypeId} {st : St} (h : Txt w p T st) (hb : Below B w w') (hp : p < B) : Txt w' p T st := by
  obtain ⟨A, c, h1, h2, h3, h4⟩ := h.ex
  refine ⟨A, c, h1.extlt hb hp, h2, ?_, h4⟩
  intro i v hv
  obtain ⟨a, e, hc⟩ := h3 i v hv
  have hl : 0 < st.1.length := by have := (List.getElem?_eq_some_iff.1 hv).1; rw [List.length_map] at this; omega
  refine ⟨a, e, ?_⟩
  rw [← hc]
  exact World.cell?_of_block (hb.block _ (by rw [add_block]; have := h4 a e hl; omega))
def azE (g : Nat) : List Addr := [⟨g, 0, none⟩, ⟨g, 1, none⟩]
theorem azE_mem {g : Nat} {a : Addr} (ha : a ∈ azE g) : a.block = g ∧ a = ⟨g, a.off, none⟩ ∧ a.off < 2 := by
  simp only [azE, List.mem_cons, List.not_mem_nil, or_false] at ha
  rcases ha with rfl | rfl <;> exact ⟨rfl, rfl, by dsimp only; omega⟩
theorem azE_sets (g : Nat) (xs : List Int) (hx : xs.length = 2) (a b c : Value) : setsF g ((azE g).zip xs) [a, b, c] = [.int .i64 (xs.getD 0 0), .int .i64 (xs.getD 1 0), c] := by
  match xs, hx with
  | [_, _], _ => simp only [azE, setsF, List.zip_cons_cons, List.zip_nil_right, List.foldl_cons, List.foldl_nil, if_true]; rfl
end Lec
namespace Go.Proofs.Ytdbpgcaoakoojaa
open Go.RowKit Lec
set_option maxRecDepth 100000 in
set_option maxHeartbeats 4000000 in
theorem message_any (w : World) (p : Nat) (st : St) (hl : st.1.length ≤ 1000000) (hsz : ∀ s ∈ st.1, s.size ≤ 140737488351232) (h : Tx w p st) :
    Calls Try.prog 16 #[.pointer (some ⟨p, 0, none⟩)] w fun e w' => ∃ v, e = .returned (rpcV (msgT st).1 v) ∧ w'.ownsRow w.heap.size 41 3 v (msgT st).1.ents.length (entsC (msgT st).1.ents) ∧ Tx w' p (msgT st).2 ∧ w.grownBy w' (some p) := by
  have HSZ := Lib.hid hsz
  have HTX := Lib.hid h
  have hpw : p < w.heap.size := by obtain ⟨A, c, h1, _⟩ := h.ex; exact h1.lt
  clear hsz h
  go_enter Try.func16, Try.ntmps16
  go_upto_region 2 with (fail)
  obtain ⟨w1, hw1⟩ : ∃ z, z = ((w.alloc (.cells #[.int .i64 0, .int .i64 0, .int .i64 0, .int .i64 0, .int .i64 0, .int .i64 0, .int .i64 0, .int .i64 0, .bool false, .slice none 0 0, .int .i64 0, .string ⟨#[]⟩, .bool false] 27)).alloc (.cells #[.int .i64 0] 3)).alloc (.cells #[.int .i64 0] 3) := ⟨_, rfl⟩
  rw [← hw1]
  have HX1 : Hid (Below w.heap.size w w1) := Lib.hid (by rw [hw1]; exact (((Below.refl _ _).alloc (Nat.le_refl _) _).alloc (by simp) _).alloc (by simp; omega) _)
  have HB1 : Hid (Blk w1 w.heap.size 27 (rpcC noR (.slice none 0 0))) := Lib.hid (by rw [hw1]; exact ((Blk.new w _ _).ext ((Below.refl _ _).alloc (Nat.le_refl _) _) (Nat.le_refl _)).ext ((Below.refl _ _).alloc (Nat.le_refl _) _) (Nat.le_refl _))
  have HO1 : Hid (Blk w1 (w.heap.size + 1) 3 [.int .i64 0]) := Lib.hid (by
    rw [hw1]
    have := (Blk.new (w.alloc (.cells #[.int .i64 0, .int .i64 0, .int .i64 0, .int .i64 0, .int .i64 0, .int .i64 0, .int .i64 0, .int .i64 0, .bool false, .slice none 0 0, .int .i64 0, .string ⟨#[]⟩, .bool false] 27)) #[.int .i64 0] 3).ext ((Below.refl _ _).alloc (Nat.le_refl _) (.cells #[.int .i64 0] 3)) (Nat.le_refl _)
    rwa [World.size_alloc] at this)
  have HP1 : Hid (Blk w1 (w.heap.size + 2) 3 [.int .i64 0]) := Lib.hid (by
    rw [hw1]
    have := Blk.new ((w.alloc (.cells #[.int .i64 0, .int .i64 0, .int .i64 0, .int .i64 0, .int .i64 0, .int .i64 0, .int .i64 0, .int .i64 0, .bool false, .slice none 0 0, .int .i64 0, .string ⟨#[]⟩, .bool false] 27)).alloc (.cells #[.int .i64 0] 3)) #[.int .i64 0] 3
    rwa [World.size_alloc, World.size_alloc] at this)
  have hs1 : w1.heap.size = w.heap.size + 3 := by rw [hw1, World.size_alloc, World.size_alloc, World.size_alloc]
  have HT1 : Hid (Tx w1 p st) := Lib.hid (HTX.out.ext HX1.out)
  clear hw1 HTX
  obtain ⟨h, hh⟩ : ∃ z, w.heap.size = z := ⟨_, rfl⟩
  have hhw := hh
  rw [hh] at HX1 HB1 HO1 HP1 hs1 hpw
  rw [hh]
  go_wp2_with fail
  have hb2 := (Below.refl w1.heap.size w1).alloc (Nat.le_refl _) (.cells #[ptrC ⟨h, 0, none⟩, ptrC ⟨h, 1, none⟩, ptrC ⟨h, 2, none⟩, ptrC ⟨h, 3, none⟩, ptrC ⟨h, 4, none⟩, ptrC ⟨h, 5, none⟩, ptrC ⟨h, 6, none⟩, ptrC ⟨h, 7, none⟩, ptrC ⟨h, 10, none⟩, ptrC ⟨h + 1, 0, none⟩, ptrC ⟨h + 2, 0, none⟩] 64)
  have hr2 := (Blk.new w1 #[ptrC ⟨h, 0, none⟩, ptrC ⟨h, 1, none⟩, ptrC ⟨h, 2, none⟩, ptrC ⟨h, 3, none⟩, ptrC ⟨h, 4, none⟩, ptrC ⟨h, 5, none⟩, ptrC ⟨h, 6, none⟩, ptrC ⟨h, 7, none⟩, ptrC ⟨h, 10, none⟩, ptrC ⟨h + 1, 0, none⟩, ptrC ⟨h + 2, 0, none⟩] 64).rds
  rw [hs1] at hr2
  have hN := numbers_any _ p st hl HSZ.out (HT1.out.ext hb2) (some ⟨h + 3, 0, none⟩) 11 (azM h) (by simp [azM]) hr2 (by
      intro b hb _; cases hb
      refine ⟨by dsimp only; omega, fun a ha => ?_⟩
      have := azM_blk ha
      dsimp only
      omega) (azM_ok hpw (by decide) (HB1.out.ext hb2 (Nat.le_refl _)) (HO1.out.ext hb2 (Nat.le_refl _)) (HP1.out.ext hb2 (Nat.le_refl _)) (by decide) (by decide))
  have hlen : (azM h).length = 11 := rfl
  rw [hlen] at hN
  refine hN.mono ?_
  clear hN hr2
  rintro e w3 ⟨rfl, htx, hch, hset⟩
  have hn11 := numsT_len 11 st
  obtain ⟨xs, hxs⟩ : ∃ z, (numsT 11 st).1 = z := ⟨_, rfl⟩
  obtain ⟨s1, hs1e⟩ : ∃ z, (numsT 11 st).2 = z := ⟨_, rfl⟩
  have hle1 : s1.1.length ≤ st.1.length := by rw [← hs1e]; exact numsT_le 11 st
  have hsz1 : ∀ s ∈ s1.1, s.size ≤ 140737488351232 := by rw [← hs1e]; exact fun s hs => HSZ.out s (numsT_mem 11 hs)
  rw [hxs] at hset hn11
  rw [hs1e] at htx
  have HB3 : Hid (Blk w3 h 27 _) := Lib.hid (hset h _ _ (by omega) (HB1.out.ext hb2 (Nat.le_refl _)))
  have HO3 : Hid (Blk w3 (h + 1) 3 _) := Lib.hid (hset (h + 1) _ _ (by omega) (HO1.out.ext hb2 (Nat.le_refl _)))
  have HP3 : Hid (Blk w3 (h + 2) 3 _) := Lib.hid (hset (h + 2) _ _ (by omega) (HP1.out.ext hb2 (Nat.le_refl _)))
  rw [azM_sets h xs hn11] at HB3
  rw [azM_sets1 h xs hn11] at HO3
  rw [azM_sets2 h xs hn11] at HP3
  have HG3 : Hid (w.grownBy w3 (some p)) := Lib.hid ⟨hch.os.trans (hb2.os.trans HX1.out.os), hch.tape.trans (hb2.tape.trans HX1.out.tape), hch.output.trans (hb2.output.trans HX1.out.output), Nat.le_trans (Nat.le_trans (by omega) hb2.size) hch.size, fun k hk hne => (hch.block k (by rw [World.size_alloc]; omega) (fun e => hne (by rw [e])) (fun x hx e => by have := azM_blk hx; omega)).trans ((hb2.block k (by omega)).trans (HX1.out.block k (by omega)))⟩
  have hs3 : h + 3 ≤ w3.heap.size := by have := hb2.size; have := hch.size; omega
  have HT3 := Lib.hid htx
  clear htx hch hset hb2 HB1 HO1 HP1 HT1 HX1 hs1
  obtain ⟨a0, g0⟩ : ∃ z, xs.getD 0 0 = z := ⟨_, rfl⟩
  obtain ⟨a1, g1⟩ : ∃ z, xs.getD 1 0 = z := ⟨_, rfl⟩
  obtain ⟨a2, g2⟩ : ∃ z, xs.getD 2 0 = z := ⟨_, rfl⟩
  obtain ⟨a3, g3⟩ : ∃ z, xs.getD 3 0 = z := ⟨_, rfl⟩
  obtain ⟨a4, g4⟩ : ∃ z, xs.getD 4 0 = z := ⟨_, rfl⟩
  obtain ⟨a5, g5⟩ : ∃ z, xs.getD 5 0 = z := ⟨_, rfl⟩
  obtain ⟨a6, g6⟩ : ∃ z, xs.getD 6 0 = z := ⟨_, rfl⟩
  obtain ⟨a7, g7⟩ : ∃ z, xs.getD 7 0 = z := ⟨_, rfl⟩
  obtain ⟨a8, g8⟩ : ∃ z, xs.getD 8 0 = z := ⟨_, rfl⟩
  obtain ⟨a9, g9⟩ : ∃ z, xs.getD 9 0 = z := ⟨_, rfl⟩
  obtain ⟨a10, g10⟩ : ∃ z, xs.getD 10 0 = z := ⟨_, rfl⟩
  have HM : Hid (∀ d es, msgOf xs d es = ⟨a0, a1, a2, a3, a4, a5, a6, a7, a9 == 1, es, a8, d, a10 == 1⟩) := Lib.hid (fun d es => by unfold msgOf; rw [g0, g1, g2, g3, g4, g5, g6, g7, g8, g9, g10])
  rw [g0, g1, g2, g3, g4, g5, g6, g7, g8] at HB3
  rw [g9] at HO3
  rw [g10] at HP3
  clear g0 g1 g2 g3 g4 g5 g6 g7 g8 g9 g10
  have HB3' : Hid (Blk w3 h 27 [.int .i64 a0, .int .i64 a1, .int .i64 a2, .int .i64 a3, .int .i64 a4, .int .i64 a5, .int .i64 a6, .int .i64 a7, .bool false, .slice none 0 0, .int .i64 a8, .string ⟨#[]⟩, .bool false]) := HB3
  clear HB3
  have k0 := HO3.out.cell (o := 0) rfl
  have k1 := HP3.out.cell (o := 0) rfl
  have f8 := HB3'.out.froz 8
  have f12 := HB3'.out.froz 12
  have d8 := HB3'.out.cell (o := 8) rfl
  have d12 := HB3'.out.cell (o := 12) rfl
  go_upto_region 4 with (fail)
  obtain ⟨w4, hw4⟩ : ∃ z, z = (w3.setCell ⟨h, 8, none⟩ (.bool (a9 == 1))).setCell ⟨h, 12, none⟩ (.bool (a10 == 1)) := ⟨_, rfl⟩
  rw [← hw4]
  have HB4 : Hid (Blk w4 h 27 [.int .i64 a0, .int .i64 a1, .int .i64 a2, .int .i64 a3, .int .i64 a4, .int .i64 a5, .int .i64 a6, .int .i64 a7, .bool (a9 == 1), .slice none 0 0, .int .i64 a8, .string ⟨#[]⟩, .bool (a10 == 1)]) := Lib.hid (by rw [hw4]; exact (HB3'.out.set 8 _).set 12 _)
  have HT4 : Hid (Tx w4 p s1) := Lib.hid (by rw [hw4]; exact (HT3.out.far (by dsimp only; omega) _).far (by dsimp only; omega) _)
  have HC4 : Hid (Chg h w3 w4) := Lib.hid (by rw [hw4]; exact (Chg.set _ _ _ _).trans (Chg.set _ _ _ _))
  have HG4 : Hid (w.grownBy w4 (some p)) := Lib.hid (HG3.out.andThen HC4.out.1 (fun j hj => by cases hj; exact .inl (by omega)))
  have hs4 : h + 3 ≤ w4.heap.size := by rw [HC4.out.2]; exact hs3
  clear hw4 HC4 k0 k1 f8 f12 d8 d12 HT3 HG3 HB3' HO3 HP3 hs3
  have HNX := Lib.hid (next_any w4 p s1 (by omega) HT4.out)
  obtain ⟨dt, hdt⟩ : ∃ z, (nextT s1).1 = z := ⟨_, rfl⟩
  obtain ⟨s2, hs2⟩ : ∃ z, (nextT s1).2 = z := ⟨_, rfl⟩
  have hle2 : s2.1.length ≤ st.1.length := by rw [← hs2]; exact Nat.le_trans (nextT_le s1) hle1
  have hsz2 : ∀ s ∈ s2.1, s.size ≤ 140737488351232 := by rw [← hs2]; exact fun s hs => hsz1 s (nextT_mem hs)
  have HMT : Hid (msgT st = (⟨a0, a1, a2, a3, a4, a5, a6, a7, a9 == 1, (entsT s2.1.length s2).1, a8, dt, a10 == 1⟩, (entsT s2.1.length s2).2)) := Lib.hid (by unfold msgT; rw [hxs, hs1e, hdt, hs2, HM.out])
  rw [hdt, hs2] at HNX
  clear hdt hs2 HM hxs hs1e hsz1 hle1 hn11
  go_wp2_with fail
  refine HNX.out.mono ?_
  rintro e w5 ⟨rfl, htx, hch⟩
  have HT5 := Lib.hid htx
  have HB5 := Lib.hid (hch.blk HB4.out (by omega))
  have HG5 : Hid (w.grownBy w5 (some p)) := Lib.hid (HG4.out.trans hch.1)
  have hs5 : h + 3 ≤ w5.heap.size := by rw [hch.2]; exact hs4
  clear htx hch HNX HB4 HG4 HT4 hs4
  have f11 := HB5.out.froz 11
  have d11 := HB5.out.cell (o := 11) rfl
  go_upto_region 5 with (fail)
  obtain ⟨w6, hw6⟩ : ∃ z, z = w5.setCell ⟨h, 11, none⟩ (.string dt) := ⟨_, rfl⟩
  rw [← hw6]
  have HB6 : Hid (Blk w6 h 27 [.int .i64 a0, .int .i64 a1, .int .i64 a2, .int .i64 a3, .int .i64 a4, .int .i64 a5, .int .i64 a6, .int .i64 a7, .bool (a9 == 1), .slice none 0 0, .int .i64 a8, .string dt, .bool (a10 == 1)]) := Lib.hid (by rw [hw6]; exact HB5.out.set 11 _)
  have HT6 : Hid (Tx w6 p s2) := Lib.hid (by rw [hw6]; exact HT5.out.far (by dsimp only; omega) _)
  have HG6 : Hid (w.grownBy w6 (some p)) := Lib.hid (by rw [hw6]; exact HG5.out.andThen (Chg.set h w5 _ _).1 (fun j hj => by cases hj; exact .inl (by omega)))
  have hs6 : h + 3 ≤ w6.heap.size := by rw [hw6, World.size_setCell]; exact hs5
  clear hw6 HB5 HT5 HG5 hs5 f11 d11
  obtain ⟨ts, hts⟩ : ∃ z, z = st.1.length := ⟨_, rfl⟩
  rw [← hts] at hl hle2
  clear HSZ hts
  go_loopw [] (fun wr => ∃ (acc : List Ent) (v : Value) (sq : St), Hid (Tx wr p sq) ∧ Hid (∀ s ∈ sq.1, s.size ≤ 140737488351232) ∧ Hid (Blk wr h 27 [.int .i64 a0, .int .i64 a1, .int .i64 a2, .int .i64 a3, .int .i64 a4, .int .i64 a5, .int .i64 a6, .int .i64 a7, .bool (a9 == 1), v, .int .i64 a8, .string dt, .bool (a10 == 1)]) ∧ Hid (wr.ownsRow (h + 1) 41 3 v acc.length (entsC acc)) ∧ Hid (w.grownBy wr (some p)) ∧ Hid (h + 3 ≤ wr.heap.size) ∧ Hid (entsT s2.1.length s2 = (acc ++ (entsT sq.1.length sq).1, (entsT sq.1.length sq).2)) ∧ Hid (acc.length + sq.1.length ≤ ts)) (fun wr => lenC wr ⟨p, 0, none⟩)
  case atStart => exact ⟨[], _, s2, HT6, Lib.hid hsz2, HB6, Lib.hid (World.ownsRow_nil _ _ _ _), HG6, Lib.hid hs6, Lib.hid rfl, Lib.hid (by simpa using hle2)⟩
  case round =>
    obtain ⟨acc, v, sq, HT, HSQ, HB, HO, HG, HS, HE, HL⟩ := hrel
    clear HB6 HT6 HG6 hs6 hsz2
    obtain ⟨A1, c1, rfl⟩ : ∃ A1 c1, v = .slice A1 acc.length c1 := by
      rcases HO.out.2 with ⟨e, e2⟩ | ⟨g, c, cur, e, _⟩
      · exact ⟨none, 0, by rw [e2]; exact e⟩
      · exact ⟨_, _, e⟩
    obtain ⟨A, c, hT, hlc, hr, hA⟩ := HT.out.ex
    have x0 := hT.cell (o := 0) rfl
    have x1 := hT.cell (o := 1) rfl
    have HLC : Hid (lenC wr ⟨p, 0, none⟩ = sq.1.length) := Lib.hid HT.out.lenC
    clear hT hr hA
    by_cases hz : (sq.1.isEmpty || sq.2) = true
    · have HSTOP := Lib.hid (entsT_stop hz)
      have HZ := Lib.hid hz
      rw [HSTOP.out, List.append_nil] at HE
      have q0 := HB.out.cell (o := 0) rfl
      have z0 := HB.out.froz 0
      have q1 := HB.out.cell (o := 1) rfl
      have z1 := HB.out.froz 1
      have q2 := HB.out.cell (o := 2) rfl
      have z2 := HB.out.froz 2
      have q3 := HB.out.cell (o := 3) rfl
      have z3 := HB.out.froz 3
      have q4 := HB.out.cell (o := 4) rfl
      have z4 := HB.out.froz 4
      have q5 := HB.out.cell (o := 5) rfl
      have z5 := HB.out.froz 5
      have q6 := HB.out.cell (o := 6) rfl
      have z6 := HB.out.froz 6
      have q7 := HB.out.cell (o := 7) rfl
      have z7 := HB.out.froz 7
      have q8 := HB.out.cell (o := 8) rfl
      have z8 := HB.out.froz 8
      have q9 := HB.out.cell (o := 9) rfl
      have z9 := HB.out.froz 9
      have q10 := HB.out.cell (o := 10) rfl
      have z10 := HB.out.froz 10
      have q11 := HB.out.cell (o := 11) rfl
      have z11 := HB.out.froz 11
      have q12 := HB.out.cell (o := 12) rfl
      have z12 := HB.out.froz 12
      have HB9 := Lib.hid (put13_blk (.int .i64 a0) (.int .i64 a1) (.int .i64 a2) (.int .i64 a3) (.int .i64 a4) (.int .i64 a5) (.int .i64 a6) (.int .i64 a7) (.bool (a9 == 1)) (.slice A1 acc.length c1) (.int .i64 a8) (.string dt) (.bool (a10 == 1)) HB.out)
      have HC9 := Lib.hid (put13_chg wr h (.int .i64 a0) (.int .i64 a1) (.int .i64 a2) (.int .i64 a3) (.int .i64 a4) (.int .i64 a5) (.int .i64 a6) (.int .i64 a7) (.bool (a9 == 1)) (.slice A1 acc.length c1) (.int .i64 a8) (.string dt) (.bool (a10 == 1)))
      have HT9 := Lib.hid (put13_txt HT.out hpw (.int .i64 a0) (.int .i64 a1) (.int .i64 a2) (.int .i64 a3) (.int .i64 a4) (.int .i64 a5) (.int .i64 a6) (.int .i64 a7) (.bool (a9 == 1)) (.slice A1 acc.length c1) (.int .i64 a8) (.string dt) (.bool (a10 == 1)))
      have HRES : Hid ((msgT st) = (⟨a0, a1, a2, a3, a4, a5, a6, a7, a9 == 1, acc, a8, dt, a10 == 1⟩, sq)) := Lib.hid (by rw [HMT.out, HE.out])
      have HFIN : Hid (∀ w9, w9 = put13 wr h (.int .i64 a0) (.int .i64 a1) (.int .i64 a2) (.int .i64 a3) (.int .i64 a4) (.int .i64 a5) (.int .i64 a6) (.int .i64 a7) (.bool (a9 == 1)) (.slice A1 acc.length c1) (.int .i64 a8) (.string dt) (.bool (a10 == 1)) → ∃ v', Ending.returned (.agg #[.int .i64 a0, .int .i64 a1, .int .i64 a2, .int .i64 a3, .int .i64 a4, .int .i64 a5, .int .i64 a6, .int .i64 a7, .bool (a9 == 1), .slice A1 acc.length c1, .int .i64 a8, .string dt, .bool (a10 == 1)]) = Ending.returned (rpcV (msgT st).1 v') ∧ World.ownsRow w9 h 41 3 v' (msgT st).1.ents.length (entsC (msgT st).1.ents) ∧ Tx w9 p (msgT st).2 ∧ w.grownBy w9 (some p)) := Lib.hid (by
        intro w9 h9
        rw [h9, HRES.out]
        refine ⟨_, rfl, own_mono13 (World.ownsRow.kept HO.out HC9.out.1 ?_) (by omega), HT9.out, HG.out.andThen HC9.out.1 (fun j hj => by cases hj; exact .inl (by omega))⟩
        cases hv : (Value.slice A1 acc.length c1).ownBlock with
        | none => exact .inl rfl
        | some k => right; have := (HO.out.lt k hv).1; intro e; cases e; omega)
      have e0 := HB9.out.cell (o := 0) rfl
      have e1 := HB9.out.cell (o := 1) rfl
      have e2 := HB9.out.cell (o := 2) rfl
      have e3 := HB9.out.cell (o := 3) rfl
      have e4 := HB9.out.cell (o := 4) rfl
      have e5 := HB9.out.cell (o := 5) rfl
      have e6 := HB9.out.cell (o := 6) rfl
      have e7 := HB9.out.cell (o := 7) rfl
      have e8 := HB9.out.cell (o := 8) rfl
      have e9 := HB9.out.cell (o := 9) rfl
      have e10 := HB9.out.cell (o := 10) rfl
      have e11 := HB9.out.cell (o := 11) rfl
      have e12 := HB9.out.cell (o := 12) rfl
      unfold put13 at e0 e1 e2 e3 e4 e5 e6 e7 e8 e9 e10 e11 e12
      clear hz HSTOP
      obtain ⟨l, b⟩ := sq
      cases l with
      | nil =>
        go_wp2
        show bodyPost Try.prog Try.f16 _ _ _ _
        refine bodyPost_ret (v := .agg #[.int .i64 a0, .int .i64 a1, .int .i64 a2, .int .i64 a3, .int .i64 a4, .int .i64 a5, .int .i64 a6, .int .i64 a7, .bool (a9 == 1), .slice A1 acc.length c1, .int .i64 a8, .string dt, .bool (a10 == 1)]) (by simp [results, Try.results16, go_sem, *]) rfl ?_
        exact HFIN.out _ rfl
      | cons s l =>
        obtain rfl : b = true := by have := HZ.out; simpa using this
        have hpos : (0 : Int) < (l.length : Int) + 1 := by omega
        go_wp2
        show bodyPost Try.prog Try.f16 _ _ _ _
        refine bodyPost_ret (v := .agg #[.int .i64 a0, .int .i64 a1, .int .i64 a2, .int .i64 a3, .int .i64 a4, .int .i64 a5, .int .i64 a6, .int .i64 a7, .bool (a9 == 1), .slice A1 acc.length c1, .int .i64 a8, .string dt, .bool (a10 == 1)]) (by simp [results, Try.results16, go_sem, *]) rfl ?_
        exact HFIN.out _ rfl
    · have HSTEP := Lib.hid (entsT_step hz)
      have HLT := Lib.hid (entOne_lt hz)
      have HSB : Hid (0 < sq.1.length ∧ sq.2 = false) := Lib.hid (by
        obtain ⟨l, b⟩ := sq
        cases l with
        | nil => exact absurd rfl hz
        | cons s l => exact ⟨by simp, by simpa using hz⟩)
      have hpos : (0 : Int) < (sq.1.length : Int) := by have := HSB.out.1; omega
      rw [HSB.out.2] at x1
      clear hz
      go_upto_region 7 with (fail)
      obtain ⟨wa, hwa⟩ : ∃ z, z = wr.alloc (.cells #[.int .i64 0, .int .i64 0, .string ⟨#[]⟩] 41) := ⟨_, rfl⟩
      rw [← hwa]
      have hba : Below wr.heap.size wr wa := by rw [hwa]; exact (Below.refl _ _).alloc (Nat.le_refl _) _
      have HBA : Hid (Blk wa wr.heap.size 41 [.int .i64 0, .int .i64 0, .string ⟨#[]⟩]) := Lib.hid (by rw [hwa]; exact Blk.new wr _ _)
      have hsa : wa.heap.size = wr.heap.size + 1 := by rw [hwa, World.size_alloc]
      obtain ⟨g, hg⟩ : ∃ z, wr.heap.size = z := ⟨_, rfl⟩
      rw [hg] at hba HBA hsa HS
      rw [hg]
      have hgh : h + 3 ≤ g := HS.out
      clear hwa x0 x1
      go_wp2_with fail
      have hb2 := (Below.refl wa.heap.size wa).alloc (Nat.le_refl _) (.cells #[ptrC ⟨g, 0, none⟩, ptrC ⟨g, 1, none⟩] 64)
      have hr2 := (Blk.new wa #[ptrC ⟨g, 0, none⟩, ptrC ⟨g, 1, none⟩] 64).rds
      rw [hsa] at hr2
      have hN := numbers_any _ p sq (by have := HL.out; omega) HSQ.out ((HT.out.ext (by rw [hg]; exact hba)).ext hb2) (some ⟨g + 1, 0, none⟩) 2 (azE g) (by simp [azE]) hr2 (by
          intro b hb _; cases hb
          refine ⟨by dsimp only; omega, fun a ha => ?_⟩
          have := (azE_mem ha).1
          dsimp only
          omega) (by
          intro a ha
          have ha3 := azE_mem ha
          exact ⟨by omega, by rw [ha3.1]; exact ha3.2.1, _, _, by rw [ha3.1]; exact HBA.out.ext hb2 (Nat.le_refl _), by have := ha3.2.2; simp; omega⟩)
      have hlen2 : (azE g).length = 2 := rfl
      rw [hlen2] at hN
      refine hN.mono ?_
      clear hN hr2
      rintro e wb ⟨rfl, htx, hch, hset⟩
      have hn2 := numsT_len 2 sq
      have hle3 : (numsT 2 sq).2.1.length ≤ sq.1.length := numsT_le 2 sq
      have hsz3 : ∀ s ∈ (numsT 2 sq).2.1, s.size ≤ 140737488351232 := fun s hs => HSQ.out s (numsT_mem 2 hs)
      have hE1 : entOne sq = (((numsT 2 sq).1.getD 0 0, (numsT 2 sq).1.getD 1 0, (nextT (numsT 2 sq).2).1), (nextT (numsT 2 sq).2).2) := rfl
      obtain ⟨ys, hys⟩ : ∃ z, (numsT 2 sq).1 = z := ⟨_, rfl⟩
      obtain ⟨s3, hs3e⟩ : ∃ z, (numsT 2 sq).2 = z := ⟨_, rfl⟩
      rw [hys] at hset hn2 hE1
      rw [hs3e] at htx hle3 hsz3 hE1
      have HBB : Hid (Blk wb g 41 _) := Lib.hid (hset g _ _ (by omega) (HBA.out.ext hb2 (Nat.le_refl _)))
      rw [azE_sets g ys hn2] at HBB
      have HGW : Hid (wr.grownBy wb (some p)) := Lib.hid ⟨hch.os.trans (hb2.os.trans hba.os), hch.tape.trans (hb2.tape.trans hba.tape), hch.output.trans (hb2.output.trans hba.output), by have := hb2.size; have := hch.size; omega, fun k hk hne => (hch.block k (by rw [World.size_alloc]; omega) (fun e => hne (by rw [e])) (fun x hx e => by have := (azE_mem hx).1; omega)).trans ((hb2.block k (by omega)).trans (hba.block k (by omega)))⟩
      have hsb : g + 2 ≤ wb.heap.size := by have h1 := hch.size; rw [World.size_alloc] at h1; omega
      have HNP : Hid ((Value.slice A1 acc.length c1).ownBlock = none ∨ (Value.slice A1 acc.length c1).ownBlock ≠ some p) := Lib.hid (by
        cases hv : (Value.slice A1 acc.length c1).ownBlock with
        | none => exact .inl rfl
        | some k => right; have := (HO.out.lt k hv).1; intro e; cases e; omega)
      have HRB := Lib.hid (HB.out.grown HGW.out (by intro e; cases e; omega))
      have HOB := Lib.hid (HO.out.kept HGW.out HNP.out)
      have HGB := Lib.hid (HG.out.trans HGW.out)
      have HTB := Lib.hid htx
      obtain ⟨n0, hn0⟩ : ∃ z, ys.getD 0 0 = z := ⟨_, rfl⟩
      obtain ⟨n1, hn1⟩ : ∃ z, ys.getD 1 0 = z := ⟨_, rfl⟩
      rw [hn0, hn1] at HBB hE1
      clear htx hch hset hb2 hba HBA hsa HGW hys hs3e hn2 hn0 hn1
      have HNX := Lib.hid (next_any wb p s3 (by have := HL.out; omega) HTB.out)
      obtain ⟨tx, htxe⟩ : ∃ z, (nextT s3).1 = z := ⟨_, rfl⟩
      obtain ⟨s4, hs4⟩ : ∃ z, (nextT s3).2 = z := ⟨_, rfl⟩
      have HSZ4 : Hid (∀ s ∈ s4.1, s.size ≤ 140737488351232) := Lib.hid (by rw [← hs4]; exact fun s hs => hsz3 s (nextT_mem hs))
      rw [htxe, hs4] at HNX hE1
      clear htxe hs4 hsz3
      rw [hE1] at HSTEP HLT
      dsimp only at HSTEP HLT
      clear hE1
      go_wp2_with fail
      refine HNX.out.mono ?_
      rintro e wc ⟨rfl, htx, hch⟩
      have HTC := Lib.hid htx
      have HBC := Lib.hid (hch.blk HBB.out (by omega))
      have HRC := Lib.hid (hch.blk HRB.out (by omega))
      have HOC := Lib.hid (HOB.out.kept hch.1 HNP.out)
      have HGC : Hid (w.grownBy wc (some p)) := Lib.hid (HGB.out.trans hch.1)
      have hsc : g + 2 ≤ wc.heap.size := by rw [hch.2]; exact hsb
      clear htx hch HNX HBB HRB HOB HGB HTB hsb
      have f2 := HBC.out.froz 2
      have d2 := HBC.out.cell (o := 2) rfl
      go_upto_region 9 with (fail)
      obtain ⟨wd, hwd⟩ : ∃ z, z = wc.setCell ⟨g, 2, none⟩ (.string tx) := ⟨_, rfl⟩
      rw [← hwd]
      have HBD : Hid (Blk wd g 41 [.int .i64 n0, .int .i64 n1, .string tx]) := Lib.hid (by rw [hwd]; exact HBC.out.set 2 _)
      have HRD := HRC
      have HRD : Hid (Blk wd h 27 _) := Lib.hid (by rw [hwd]; exact HRC.out.far _ (by omega))
      have HTD : Hid (Tx wd p s4) := Lib.hid (by rw [hwd]; exact HTC.out.far (by dsimp only; omega) _)
      have hcg : Chg g wc wd := by rw [hwd]; exact Chg.set _ _ _ _
      have HOD : Hid (wd.ownsRow (h + 1) 41 3 (.slice A1 acc.length c1) acc.length (entsC acc)) := Lib.hid (HOC.out.kept hcg.1 (by
        cases hv : (Value.slice A1 acc.length c1).ownBlock with
        | none => exact .inl rfl
        | some k => right; have := (HO.out.lt k hv).2; intro e; cases e; omega))
      have HGD : Hid (w.grownBy wd (some p)) := Lib.hid (HGC.out.andThen hcg.1 (fun j hj => by cases hj; exact .inl (by omega)))
      have hsd : g + 2 ≤ wd.heap.size := by rw [hcg.2]; exact hsc
      have e0 := HBD.out.cell (o := 0) rfl
      have e1 := HBD.out.cell (o := 1) rfl
      have e2 := HBD.out.cell (o := 2) rfl
      have d9 := HRD.out.cell (o := 9) rfl
      clear hwd hcg HBC HRC HTC HOC HGC hsc f2 d2
      have hlim : (acc.length + 1) * 32 ≤ 140737488355328 := by have := HL.out; have := HSB.out.1; omega
      have hbase : h + 1 ≤ wd.heap.size := by omega
      have HL4 : Hid (s4.1.length < sq.1.length) := Lib.hid HLT.out
      go_wp2_with (at_builtin; go_loud (refine wp_app1 (w0 := wd) rfl rfl _ _ 25 rfl (h + 1) 41 (.agg #[.int .i64 0, .int .i64 0, .string ⟨#[]⟩]) 3 32 Try.underlying25 info_ent rfl (by decide) (by decide) _ acc.length _ rfl HOD.out rfl rfl (by intro u hu; simp at hu; rcases hu with rfl | rfl | rfl <;> rfl) hlim hbase ?_; intro v' w' hown' hg' hb'; have f9 := (HRD.out.extlt hb' (Nat.lt_succ_self h)).froz 9; have d9' := (HRD.out.extlt hb' (Nat.lt_succ_self h)).cell (o := 9) rfl; obtain ⟨A2, c2, rfl⟩ : ∃ A2 c2, v' = .slice A2 (acc.length + 1) c2 := (by
          rcases hown'.2 with ⟨e, e2⟩ | ⟨g, c, cur, e, _⟩
          · exact absurd e2 (by omega)
          · exact ⟨_, _, e⟩)))
      have HBF : Hid (Blk (w'.setCell ⟨h, 9, none⟩ (.slice A2 (acc.length + 1) c2)) h 27 _) := Lib.hid ((HRD.out.extlt hb' (Nat.lt_succ_self h)).set 9 _)
      have HTF : Hid (Tx (w'.setCell ⟨h, 9, none⟩ (.slice A2 (acc.length + 1) c2)) p s4) := Lib.hid ((HTD.out.extlt hb' (by omega)).far (by dsimp only; omega) _)
      have HOF : Hid ((w'.setCell ⟨h, 9, none⟩ (.slice A2 (acc.length + 1) c2)).ownsRow (h + 1) 41 3 (.slice A2 (acc.length + 1) c2) (acc.length + 1) (entsC acc ++ [.int .i64 n0, .int .i64 n1, .string tx])) := Lib.hid (World.ownsRow.kept hown' (Chg.set h w' 9 _).1 (by
        cases hv : (Value.slice A2 (acc.length + 1) c2).ownBlock with
        | none => exact .inl rfl
        | some k => right; have := (World.ownsRow.lt hown' k hv).1; intro e; cases e; omega))
      have HGF : Hid (w.grownBy (w'.setCell ⟨h, 9, none⟩ (.slice A2 (acc.length + 1) c2)) (some p)) := Lib.hid (World.grownBy.andThen (b' := w') (row := some p) (row' := some h) ⟨hb'.os.trans HGD.out.os, hb'.tape.trans HGD.out.tape, hb'.output.trans HGD.out.output, Nat.le_trans HGD.out.size hb'.size, fun k hk hne => (hb'.block k (by omega)).trans (HGD.out.block k hk hne)⟩ (Chg.set h w' 9 _).1 (fun j hj => by cases hj; exact .inl (by omega)))
      refine ⟨⟨acc ++ [(n0, n1, tx)], _, s4, HTF, HSZ4, HBF, ?_, HGF, ?_, ?_, ?_⟩, ?_⟩
      · exact Lib.hid (by rw [List.length_append, entsC_app]; exact HOF.out)
      · exact Lib.hid (by rw [World.size_setCell]; have := hb'.size; omega)
      · exact Lib.hid (by rw [HE.out, HSTEP.out]; simp)
      · exact Lib.hid (by rw [List.length_append]; have := HL.out; have := HL4.out; simp; omega)
      · show lenC _ _ < lenC _ _
        rw [HTF.out.lenC, HLC.out]
        exact HL4.out
end Go.Proofs.Ytdbpgcaoakoojaa
