/- The walks of rpc's texts.next, reader.numbers. -/
import Derived.Test.YtdbpgcaoakoojaaRpcL
import Derived.Test.YtdbpgcaoakoojaaBlk
set_option linter.unusedVariables false
set_option linter.unusedSimpArgs false
namespace Lec
open Go Go.RowKit
/-- Texts that are read, at p. -/
structure Txt (w : World) (p : Nat) (T : TypeId) (st : St) : Prop where
  ex : ∃ A c, Blk w p T [.slice A st.1.length c, .bool st.2] ∧ st.1.length ≤ c ∧ Rds w A (st.1.map Value.string) ∧ (∀ a, A = some a → 0 < st.1.length → a.block < p)
/-- Nothing but block p has changed. -/
def Chg (p : Nat) (w w' : World) : Prop := w.grownBy w' (some p) ∧ w'.heap.size = w.heap.size
theorem Chg.refl (p : Nat) (w : World) : Chg p w w := ⟨World.grownBy.refl _ _, rfl⟩
theorem Chg.trans {p : Nat} {a b c : World} (h : Chg p a b) (k : Chg p b c) : Chg p a c := ⟨World.grownBy.trans h.1 k.1, k.2.trans h.2⟩
theorem Chg.set (p : Nat) (w : World) (o : Nat) (u : Value) : Chg p w (w.setCell ⟨p, o, none⟩ u) :=
  ⟨⟨rfl, rfl, rfl, by rw [World.size_setCell]; exact Nat.le_refl _, fun q _ hq => Below.heap_setCell _ _ _ q (fun e => hq (by rw [e]))⟩, World.size_setCell _ _ _⟩
theorem Chg.drew (p : Nat) (w : World) : Chg p w w.drew := ⟨⟨rfl, rfl, rfl, Nat.le_refl _, fun q _ _ => rfl⟩, rfl⟩
theorem Chg.drewN (p : Nat) (w : World) (n : Nat) : Chg p w (w.drewN n) := ⟨⟨rfl, rfl, rfl, Nat.le_refl _, fun q _ _ => rfl⟩, rfl⟩
theorem Chg.rds {p : Nat} {w w' : World} (h : Chg p w w') {A : Option Addr} {vs : List Value} (hr : Rds w A vs) (hA : ∀ a, A = some a → 0 < vs.length → a.block ≠ p) : Rds w' A vs := fun i v hv => by
  obtain ⟨a, e, hc⟩ := hr i v hv
  have hl : 0 < vs.length := by have := (List.getElem?_eq_some_iff.1 hv).1; omega
  refine ⟨a, e, ?_⟩
  have := World.block_lt_of_cell? w _ hc
  rw [← hc]
  exact World.cell?_of_block (h.1.block _ this (fun e2 => hA a e hl (by rw [add_block] at e2; exact Option.some.inj e2)))
theorem Chg.blk {p : Nat} {w w' : World} (h : Chg p w w') {g : Nat} {T : TypeId} {xs : List Value} (hb : Blk w g T xs) (hg : g ≠ p) : Blk w' g T xs := (h.1.block g hb.lt (fun e => hg (Option.some.inj e))).trans hb
theorem Chg.below {p : Nat} {w w' : World} (h : Chg p w w') {B : Nat} {w0 : World} (hb : Below B w0 w) (hp : B ≤ p) (hB : B ≤ w.heap.size) : Below B w0 w' := hb.grown h.1 hB (fun k hk => by cases hk; exact hp)
end Lec
namespace Go.Proofs.Ytdbpgcaoakoojaa
open Go.RowKit Lec
abbrev Tx (w : World) (p : Nat) (st : St) : Prop := Txt w p 52 st
set_option maxRecDepth 100000 in
theorem next_any (w : World) (p : Nat) (st : St) (hl : st.1.length ≤ 1000000) (h : Tx w p st) :
    Calls Try.prog 28 #[.pointer (some ⟨p, 0, none⟩)] w fun e w' => e = .returned (.string (nextT st).1) ∧ Tx w' p (nextT st).2 ∧ Chg p w w' := by
  obtain ⟨A, c, hB, hlc, hr, hA⟩ := h.ex
  obtain ⟨l, bad⟩ := st
  dsimp only at *
  have c0 := hB.cell (o := 0) rfl
  have c1 := hB.cell (o := 1) rfl
  have f1 := hB.froz 1
  have f0 := hB.froz 0
  have HB := Lib.hid hB
  have HR := Lib.hid hr
  have HA := Lib.hid hA
  clear h hB hr hA
  go_enter Try.func28, Try.ntmps28
  cases bad with
  | true =>
    have HE : Hid (nextT (l, true) = (⟨#[]⟩, (l, true))) := Lib.hid (by cases l <;> rfl)
    go_wp2
    go_ret
    refine ⟨by rw [HE.out]; rfl, ?_, Chg.set _ _ _ _⟩
    rw [HE.out]
    exact ⟨A, c, HB.out.set 1 (.bool true), hlc, (Chg.set p w 1 (.bool true)).rds HR.out (fun a ha h => Nat.ne_of_lt (HA.out a ha (by simpa using h))), HA.out⟩
  | false =>
    cases l with
    | nil =>
      have HE : Hid (nextT (([] : List ByteArray), false) = (⟨#[]⟩, ([], true))) := Lib.hid rfl
      go_wp2
      go_ret
      refine ⟨by rw [HE.out]; rfl, ?_, Chg.set _ _ _ _⟩
      rw [HE.out]
      exact ⟨A, c, HB.out.set 1 (.bool true), hlc, Rds.nil _ _, HA.out⟩
    | cons s l =>
      have HE : Hid (nextT (s :: l, false) = (s, (l, false))) := Lib.hid rfl
      obtain ⟨a, rfl, hs⟩ := HR.out 0 (.string s) rfl
      have hs0 : w.cell? a = some (.string s) := by rw [← hs]; unfold Addr.add; rw [if_pos rfl]
      have hap := Nat.ne_of_lt (HA.out a rfl (by simp))
      have hne : ((l.length : Int) + 1 == 0) = false := by rw [beq_eq_false_iff_ne]; omega
      go_upto_region 4 with (fail)
      obtain ⟨w1, hw1⟩ : ∃ z, z = w.setCell ⟨p, 1, none⟩ (.bool false) := ⟨_, rfl⟩
      have HC1 : Hid (Chg p w w1) := Lib.hid (by rw [hw1]; exact Chg.set _ _ _ _)
      have hB1 : Blk w1 p 52 [.slice (some a) (s :: l).length c, .bool false] := by rw [hw1]; exact HB.out.set 1 (.bool false)
      have HB1 := Lib.hid hB1
      rw [← hw1]
      have hs1 : w1.cell? a = some (.string s) := by rw [hw1]; exact (cell_set_far _ hap).trans hs0
      have d0 := hB1.cell (o := 0) rfl
      have d1 := hB1.cell (o := 1) rfl
      have e0 := hB1.froz 0
      clear hw1 hB1 hs0 hs c0 c1 f0 f1
      have hlc2 : l.length + 1 ≤ c := by simpa using hlc
      have hlm : l.length + 1 ≤ 1000000 := by simpa using hl
      have hrs : Rds w1 (some (if c - 1 = 0 then a else a.add 1)) (l.map Value.string) := by
        have h1 := HC1.out.rds HR.out (fun b hb h => Nat.ne_of_lt (HA.out b hb (by simp)))
        intro i v hv
        have hi := (List.getElem?_eq_some_iff.1 hv).1
        rw [List.length_map] at hi
        rw [if_neg (by omega)]
        obtain ⟨b, e, hc⟩ := h1 (i + 1) v (by simpa using hv)
        obtain rfl := Option.some.inj e
        exact ⟨_, rfl, by rw [add_add, Nat.add_comm 1 i]; exact hc⟩
      have HRS := Lib.hid hrs
      clear hrs
      have b1 : (1 : Int) ≤ (l.length : Int) + 1 := by omega
      have b2 : (l.length : Int) + 1 ≤ (c : Int) := by omega
      have b3 : (1 : Int) ≤ (c : Int) := by omega
      have b4 : (0 : Int) ≤ (l.length : Int) + 1 := by omega
      have b5 : ((l.length : Int) + 1 - 1).toNat = l.length := by omega
      have b6 : ((c : Int) - 1).toNat = c - 1 := by omega
      have b7 : ((l.length : Int) + 1).toNat = l.length + 1 := by omega
      have b8 : (((l.length + 1 : Nat) : Int) - 1).toNat = l.length := by omega
      have b9 : (1 : Int) ≤ ((l.length + 1 : Nat) : Int) := by omega
      have b10 : ((l.length + 1 : Nat) : Int) ≤ (c : Int) := by omega
      go_still_tail 15, (by kernel_rfl)
      clear b1 b2 b3 b4 b5 b6 b7 b8 b9 b10 d1 hs1 hne
      go_wp2
      all_goals
        go_ret
        have hrs := HRS.out
        first | rw [if_pos (by omega)] at hrs | rw [if_neg (by omega)] at hrs
        refine ⟨by rw [HE.out]; rfl, ?_, HC1.out.trans ((Chg.set p w1 0 _).trans (Chg.drew _ _))⟩
        rw [HE.out]
        exact ⟨_, _, HB1.out.set 0 _, by dsimp only; omega, ((Chg.set p w1 0 _).trans (Chg.drew p _)).rds hrs (fun b hb _ => by cases hb; first | exact hap | (rw [add_block]; exact hap)), fun b hb _ => by cases hb; first | exact HA.out a rfl (by simp) | (rw [add_block]; exact HA.out a rfl (by simp))⟩
end Go.Proofs.Ytdbpgcaoakoojaa
namespace Lec
open Go Go.RowKit
abbrev ptrC (x : Addr) : Value := .pointer (some x)
/-- A block's cells when numbers are laid at addresses. -/
def setsF (g : Nat) (l : List (Addr × Int)) (cs : List Value) : List Value := l.foldl (fun cs x => if x.1.block = g then cs.set x.1.off (.int .i64 x.2) else cs) cs
theorem setsF_snoc (g : Nat) (l : List (Addr × Int)) (a : Addr) (x : Int) (cs : List Value) : setsF g (l ++ [(a, x)]) cs = if a.block = g then (setsF g l cs).set a.off (.int .i64 x) else setsF g l cs := by
  unfold setsF; rw [List.foldl_append]; rfl
theorem setsF_len (g : Nat) (l : List (Addr × Int)) (cs : List Value) : (setsF g l cs).length = cs.length := by
  induction l generalizing cs with
  | nil => rfl
  | cons x l ih =>
    show (setsF g l (if x.1.block = g then cs.set x.1.off (.int .i64 x.2) else cs)).length = _
    rw [ih]; split <;> simp
/-- Nothing but block p and the blocks of these addresses has changed. -/
structure Chs (p : Nat) (az : List Addr) (w w' : World) : Prop where
  os : w'.os = w.os
  tape : w'.tape = w.tape
  output : w'.output = w.output
  size : w.heap.size ≤ w'.heap.size
  block : ∀ q, q < w.heap.size → q ≠ p → (∀ a ∈ az, a.block ≠ q) → w'.heap[q]? = w.heap[q]?
theorem Chs.refl (p : Nat) (az : List Addr) (w : World) : Chs p az w w := ⟨rfl, rfl, rfl, Nat.le_refl _, fun _ _ _ _ => rfl⟩
theorem Chs.chg {p : Nat} {az : List Addr} {a b c : World} (h : Chs p az a b) (k : Chg p b c) : Chs p az a c :=
  ⟨k.1.os.trans h.os, k.1.tape.trans h.tape, k.1.output.trans h.output, Nat.le_trans h.size k.1.size, fun q hq hp ha => (k.1.block q (Nat.lt_of_lt_of_le hq h.size) (fun e => hp (Option.some.inj e))).trans (h.block q hq hp ha)⟩
theorem Chs.ext {p : Nat} {az : List Addr} {a b c : World} (h : Chs p az a b) (k : Below b.heap.size b c) : Chs p az a c :=
  ⟨k.os.trans h.os, k.tape.trans h.tape, k.output.trans h.output, Nat.le_trans h.size k.size, fun q hq hp ha => (k.block q (Nat.lt_of_lt_of_le hq h.size)).trans (h.block q hq hp ha)⟩
theorem Chs.set {p : Nat} {az : List Addr} {a b : World} (h : Chs p az a b) {x : Addr} (hx : x ∈ az) (u : Value) : Chs p az a (b.setCell x u) :=
  ⟨h.os, h.tape, h.output, by rw [World.size_setCell]; exact h.size, fun q hq hp ha => (Below.heap_setCell b x u q (fun e => ha x hx e.symm)).trans (h.block q hq hp ha)⟩
theorem Chs.rds {p : Nat} {az : List Addr} {w w' : World} (h : Chs p az w w') {A : Option Addr} {vs : List Value} (hr : Rds w A vs) (hA : ∀ a, A = some a → 0 < vs.length → a.block ≠ p ∧ ∀ x ∈ az, x.block ≠ a.block) : Rds w' A vs := fun i v hv => by
  obtain ⟨a, e, hc⟩ := hr i v hv
  have hl : 0 < vs.length := by have := (List.getElem?_eq_some_iff.1 hv).1; omega
  refine ⟨a, e, ?_⟩
  have := World.block_lt_of_cell? w _ hc
  rw [← hc]
  refine World.cell?_of_block (h.block _ this ?_ ?_)
  · rw [add_block]; exact (hA a e hl).1
  · intro x hx; rw [add_block]; exact (hA a e hl).2 x hx
theorem Txt.ext {w w' : World} {p : Nat} {T : TypeId} {st : St} (h : Txt w p T st) (hb : Below w.heap.size w w') : Txt w' p T st := by
  obtain ⟨A, c, h1, h2, h3, h4⟩ := h.ex
  exact ⟨A, c, h1.ext hb (Nat.le_refl _), h2, h3.ext hb (Nat.le_refl _), h4⟩
theorem Txt.far {w : World} {p : Nat} {T : TypeId} {st : St} (h : Txt w p T st) {x : Addr} (hx : p < x.block) (u : Value) : Txt (w.setCell x u) p T st := by
  obtain ⟨A, c, h1, h2, h3, h4⟩ := h.ex
  refine ⟨A, c, (Below.heap_setCell w x u p (by omega)).trans h1, h2, ?_, h4⟩
  intro i v hv
  obtain ⟨a, e, hc⟩ := h3 i v hv
  have hl : 0 < st.1.length := by have := (List.getElem?_eq_some_iff.1 hv).1; rw [List.length_map] at this; omega
  exact ⟨a, e, (cell_set_far u (by rw [add_block]; have := h4 a e hl; omega)).trans hc⟩
theorem Txt.bad {w : World} {p : Nat} {T : TypeId} {l : List ByteArray} {b : Bool} (h : Txt w p T (l, b)) (b' : Bool) : Txt (w.setCell ⟨p, 1, none⟩ (.bool b')) p T (l, b') := by
  obtain ⟨A, c, h1, h2, h3, h4⟩ := h.ex
  refine ⟨A, c, h1.set 1 (.bool b'), h2, ?_, h4⟩
  exact (Chg.set p w 1 (.bool b')).rds h3 (fun a e hl => Nat.ne_of_lt (h4 a e (by simpa using hl)))
theorem nextT_mem {st : St} {s : ByteArray} (h : s ∈ (nextT st).2.1) : s ∈ st.1 := by
  obtain ⟨l, b⟩ := st
  cases l with
  | nil => cases b <;> exact h
  | cons x l => cases b <;> simp [nextT] at h ⊢ <;> first | exact h | exact .inr h
theorem nextT_head (st : St) : (nextT st).1 ∈ st.1 ∨ (nextT st).1 = ⟨#[]⟩ := by
  obtain ⟨l, b⟩ := st
  cases l with
  | nil => cases b <;> exact .inr rfl
  | cons x l => cases b <;> simp [nextT]
theorem numsT_mem (k : Nat) {st : St} {s : ByteArray} (h : s ∈ (numsT k st).2.1) : s ∈ st.1 := by
  induction k with
  | zero => exact h
  | succ k ih => exact ih (nextT_mem h)
end Lec
namespace Go.Proofs.Ytdbpgcaoakoojaa
open Go.RowKit Lec
set_option maxRecDepth 100000 in
set_option maxHeartbeats 1000000 in
theorem numbers_any (w : World) (p : Nat) (st : St) (hl : st.1.length ≤ 1000000) (hsz : ∀ s ∈ st.1, s.size ≤ 140737488351232) (h : Tx w p st) (B : Option Addr) (c : Nat) (az : List Addr) (hn : az.length ≤ 100) (hr : Rds w B (az.map ptrC))
    (hB : ∀ b, B = some b → 0 < az.length → b.block ≠ p ∧ ∀ a ∈ az, a.block ≠ b.block) (hT : ∀ a ∈ az, p < a.block ∧ a = ⟨a.block, a.off, none⟩ ∧ ∃ T cs, Blk w a.block T cs ∧ a.off < cs.length) :
    Calls Try.prog 27 #[.pointer (some ⟨p, 0, none⟩), .slice B az.length c] w fun e w' => e = .returned (.tuple #[]) ∧ Tx w' p (numsT az.length st).2 ∧ Chs p az w w' ∧ (∀ g T cs, g ≠ p → Blk w g T cs → Blk w' g T (setsF g (az.zip (numsT az.length st).1) cs)) := by
  have HR := Lib.hid hr
  have HB := Lib.hid hB
  have HT := Lib.hid hT
  have HSZ := Lib.hid hsz
  have HTX := Lib.hid h
  clear hr hB hT hsz h
  go_enter Try.func27, Try.ntmps27
  go_wp2
  go_loopw [9] (fun i wr => ∃ k : Nat, k ≤ az.length ∧ i = .int .i64 (k : Int) ∧ Hid (Tx wr p (numsT k st).2) ∧ Hid (Chs p az w wr) ∧ Hid (∀ g T cs, g ≠ p → Blk w g T cs → Blk wr g T (setsF g ((az.take k).zip (numsT k st).1) cs))) (fun i _ => az.length - (intOf i).toNat)
  case atStart => exact ⟨0, by omega, rfl, HTX, Lib.hid (Chs.refl _ _ _), Lib.hid (fun g T cs _ h => h)⟩
  case round =>
    obtain ⟨k, hk, rfl, HX, HC, HG⟩ := hrel
    by_cases h8 : k < az.length
    · have h8i : (k : Int) < (az.length : Int) := by omega
      have hlen := numsT_le k st
      have HNX := Lib.hid (next_any wr p (numsT k st).2 (by omega) HX.out)
      obtain ⟨b, rfl, hcb⟩ := (HC.out.rds HR.out (fun b hb h => by have := HB.out b hb (by simpa using h); exact this)) k (ptrC az[k]) (by rw [List.getElem?_map, List.getElem?_eq_getElem h8]; rfl)
      obtain ⟨hpa, hae, T, cs, hbk, hof⟩ := HT.out _ (List.getElem_mem h8)
      have HMEM : Hid (az[k] ∈ az) := Lib.hid (List.getElem_mem h8)
      have HTK : Hid ((az.take (k + 1)).zip (numsT (k + 1) st).1 = (az.take k).zip (numsT k st).1 ++ [(az[k], (numT (numsT k st).2).1)]) := Lib.hid (by
        rw [numsT, List.take_succ_eq_append_getElem h8, List.zip_append (by rw [List.length_take, numsT_len]; omega)]; rfl)
      have HSN : Hid ((nextT (numsT k st).2).1.size ≤ 140737488351232) := Lib.hid (by
        rcases nextT_head (numsT k st).2 with h | h
        · exact HSZ.out _ (numsT_mem k h)
        · rw [h]; decide)
      have HST : Hid ((numsT (k + 1) st).2 = ((nextT (numsT k st).2).2.1, (nextT (numsT k st).2).2.2 || !(rdB (nextT (numsT k st).2).1).2)) := Lib.hid rfl
      have HNU : Hid ((numT (numsT k st).2).1 = (rdB (nextT (numsT k st).2).1).1) := Lib.hid rfl
      rw [HNU.out] at HTK
      have HBT := Lib.hid (HG.out _ T cs (by omega) hbk)
      have HOF : Hid (az[k].off < (setsF az[k].block ((az.take k).zip (numsT k st).1) cs).length) := Lib.hid (by rw [setsF_len]; exact hof)
      generalize az[k] = x at *
      obtain ⟨g, o, rfl⟩ : ∃ g o, x = ⟨g, o, none⟩ := ⟨_, _, hae⟩
      dsimp only at *
      obtain ⟨sx, hsx⟩ : ∃ sx, sx = (nextT (numsT k st).2).1 := ⟨_, rfl⟩
      obtain ⟨l1, b1, hst⟩ : ∃ l1 b1, (nextT (numsT k st).2).2 = (l1, b1) := ⟨_, _, rfl⟩
      rw [← hsx] at HNX HTK HSN HST HNU
      rw [hst] at HNX HST
      obtain ⟨n1, ok1, hrd⟩ : ∃ n1 ok1, rdB sx = (n1, ok1) := ⟨_, _, rfl⟩
      rw [hrd] at HTK HST
      have HRE := Lib.hid (fun w' => Read_any w' sx HSN.out)
      rw [hrd] at HRE
      dsimp only at HTK HST HRE
      have hgp : g ≠ p := by omega
      clear hae hsx hst hrd HNU hbk hof
      go_wp2_with fail
      refine HNX.out.mono ?_
      rintro e w1 ⟨rfl, htx, hch⟩
      have HX1 := Lib.hid htx
      have HC1 := Lib.hid (HC.out.chg hch)
      have HCH := Lib.hid hch
      have HB1 := Lib.hid (hch.blk HBT.out hgp)
      clear htx hch hcb HNX
      go_wp2_with fail
      refine (HRE.out w1).mono ?_
      rintro e w2 ⟨rfl, hb2⟩
      have HX2 := Lib.hid (HX1.out.ext hb2)
      have HC2 := Lib.hid (HC1.out.ext hb2)
      have HB2 := Lib.hid (HB1.out.ext hb2 (Nat.le_refl _))
      have HBW := Lib.hid hb2
      obtain ⟨v0, hv0⟩ : ∃ v0, (setsF g ((az.take k).zip (numsT k st).1) cs)[o]? = some v0 := ⟨_, List.getElem?_eq_getElem HOF.out⟩
      have d0 := HB2.out.cell hv0
      have f0 := HB2.out.froz o
      clear hb2 hv0
      go_upto_region 5 with (fail)
      obtain ⟨w3, hw3⟩ : ∃ z, z = w2.setCell ⟨g, o, none⟩ (.int .i64 n1) := ⟨_, rfl⟩
      have HX3 : Hid (Tx w3 p (l1, b1)) := Lib.hid (by rw [hw3]; exact HX2.out.far (by dsimp only; omega) _)
      have HC3 : Hid (Chs p az w w3) := Lib.hid (by rw [hw3]; exact HC2.out.set HMEM.out _)
      have HG3 : Hid (∀ g T cs, g ≠ p → Blk w g T cs → Blk w3 g T (setsF g ((az.take (k + 1)).zip (numsT (k + 1) st).1) cs)) := Lib.hid fun q T cs hq hb => by
        have h2 : Blk w2 q T (setsF q ((az.take k).zip (numsT k st).1) cs) := (HCH.out.blk (HG.out q T cs hq hb) hq).ext HBW.out (Nat.le_refl _)
        rw [HTK.out, setsF_snoc, hw3]
        split
        · rename_i e
          dsimp only at e
          subst e
          exact h2.set o _
        · rename_i e
          exact h2.far _ (fun e2 => e e2.symm)
      rw [← hw3]
      clear hw3 d0 f0
      obtain ⟨A3, c3, h3, _⟩ := HX3.out.ex
      have d1 := h3.cell (o := 1) rfl
      have f1 := h3.froz 1
      dsimp only at d1
      clear h3
      have HFIN : Hid (∀ u, u = (b1 || !ok1) → Tx (w3.setCell ⟨p, 1, none⟩ (.bool u)) p (numsT (k + 1) st).2 ∧ Chs p az w (w3.setCell ⟨p, 1, none⟩ (.bool u)) ∧ ∀ g T cs, g ≠ p → Blk w g T cs → Blk (w3.setCell ⟨p, 1, none⟩ (.bool u)) g T (setsF g ((az.take (k + 1)).zip (numsT (k + 1) st).1) cs)) := Lib.hid fun u hu => by
        refine ⟨by rw [HST.out, ← hu]; exact HX3.out.bad u, HC3.out.chg (Chg.set _ _ _ _), fun q T cs hq hb => (HG3.out q T cs hq hb).far _ hq⟩
      have HST2 := HST
      cases b1 with
      | true =>
        go_wp2
        go_roundw
        case rel => exact ⟨k + 1, by omega, by go_num, (HFIN.out true rfl).1, (HFIN.out true rfl).2.1, (HFIN.out true rfl).2.2⟩
        case measure => first | (simp [intOf]; done) | (simp [intOf]; omega)
      | false =>
        cases ok1 with
        | true =>
          go_wp2
          go_roundw
          case rel => exact ⟨k + 1, by omega, by go_num, (HFIN.out false rfl).1, (HFIN.out false rfl).2.1, (HFIN.out false rfl).2.2⟩
          case measure => first | (simp [intOf]; done) | (simp [intOf]; omega)
        | false =>
          go_wp2
          go_roundw
          case rel => exact ⟨k + 1, by omega, by go_num, (HFIN.out true rfl).1, (HFIN.out true rfl).2.1, (HFIN.out true rfl).2.2⟩
          case measure => first | (simp [intOf]; done) | (simp [intOf]; omega)
    · obtain rfl : k = az.length := by omega
      have h8i : ¬ (az.length : Int) < (az.length : Int) := by omega
      rw [List.take_length] at HG
      go_wp2
      go_end0
      exact ⟨rfl, HX.out, HC.out, HG.out⟩
end Go.Proofs.Ytdbpgcaoakoojaa
