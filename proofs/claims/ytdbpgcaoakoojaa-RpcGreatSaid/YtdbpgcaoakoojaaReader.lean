/- The walks of reading texts: wire's reader. -/
import Derived.Test.YtdbpgcaoakoojaaWireGet
import Derived.Test.YtdbpgcaoakoojaaCut
import Derived.Test.YtdbpgcaoakoojaaConv
set_option linter.unusedVariables false
set_option linter.unusedSimpArgs false
namespace Lec
open Go Go.RowKit
/-- A number of at most what is left, and what is left then. -/
def numG (bs : List UInt8) : Option (Nat × List UInt8) := match getB 0 0 bs with
  | some (n, k) => if n ≤ bs.length - k then some (n, bs.drop k) else none
  | none => none
def rdN (bad : Bool) (bs : List UInt8) : Option (Nat × List UInt8) := if bad then none else numG bs
def textsG : Nat → List UInt8 → Option (List ByteArray × List UInt8)
  | 0, r => some ([], r)
  | n + 1, r => match numG r with
    | none => none
    | some (m, r1) => match textsG n (r1.drop m) with
      | none => none
      | some (l, r2) => some (bytesOf (r1.take m) :: l, r2)
def finG (n : Nat) (acc : List ByteArray) (r : List UInt8) : Option (List ByteArray) := match textsG n r with
  | some (l, []) => some (acc ++ l)
  | _ => none
/-- The texts that bytes are, if they are. -/
def getL (bs : List UInt8) : Option (List ByteArray) := if 1048576 < bs.length then none else match numG bs with
  | none => none
  | some (n, r) => finG n [] r
/-- A reader that lies at p: what is left, whether something was wrong. -/
structure Rdr (w : World) (p : Nat) (bs : List UInt8) (bad : Bool) : Prop where
  ex : ∃ A c, w.cell? ⟨p, 0, none⟩ = some (.slice A bs.length c) ∧ bs.length ≤ c ∧ Rds w A (bytesV bs) ∧ (∀ a, A = some a → 0 < bs.length → a.block < p)
  bad : w.cell? ⟨p, 1, none⟩ = some (.bool bad)
  f0 : w.frozen? ⟨p, 0, none⟩ = false
  f1 : w.frozen? ⟨p, 1, none⟩ = false
theorem setCell_grown (w : World) (p o : Nat) (v : Value) : w.grownBy (w.setCell ⟨p, o, none⟩ v) (some p) :=
  ⟨rfl, rfl, rfl, by simp [World.setCell], fun k _ hne => Below.heap_setCell w ⟨p, o, none⟩ v k (fun e => hne (by rw [e]))⟩
theorem rds_set {w : World} {A : Option Addr} {vs : List Value} {p o : Nat} {v : Value} (h : Rds w A vs) (hA : ∀ a, A = some a → 0 < vs.length → a.block < p) : Rds (w.setCell ⟨p, o, none⟩ v) A vs := by
  intro i u hu
  obtain ⟨a, e, hc⟩ := h i u hu
  refine ⟨a, e, (cell_set_far v ?_).trans hc⟩
  rw [add_block]; exact Nat.ne_of_lt (hA a e (Nat.lt_of_le_of_lt (Nat.zero_le _) (List.getElem?_eq_some_iff.1 hu).1))
theorem Rdr.wrong {w : World} {p : Nat} {bs : List UInt8} {b : Bool} (h : Rdr w p bs b) : Rdr (w.setCell ⟨p, 1, none⟩ (.bool true)) p bs true := by
  obtain ⟨A, c, h0, h1, h2, h3⟩ := h.ex
  exact ⟨⟨A, c, (cell_set_off _ (by omega)).trans h0, h1, rds_set h2 (by simpa using h3), h3⟩, cell_set_self _ h.bad, (frozen_set _).trans h.f0, (frozen_set _).trans h.f1⟩
theorem Rdr.on {w : World} {p : Nat} {bs : List UInt8} {b : Bool} {A : Option Addr} {c : Nat} (h : Rdr w p bs b) (h0 : w.cell? ⟨p, 0, none⟩ = some (.slice A bs.length c)) (h1 : bs.length ≤ c) (h2 : Rds w A (bytesV bs)) (h3 : ∀ a, A = some a → 0 < bs.length → a.block < p)
    (k : Nat) (hk : k ≤ bs.length) : Rdr (w.setCell ⟨p, 0, none⟩ (.slice (if c = k then A else A.map (·.add k)) (bs.length - k) (c - k))) p (bs.drop k) b := by
  have hA : ∀ a, (if c = k then A else A.map (·.add k)) = some a → 0 < (bs.drop k).length → a.block < p := by
    intro a ha hl
    rw [List.length_drop] at hl
    split at ha
    · exact h3 a ha (by omega)
    · cases A with
      | none => cases ha
      | some x => cases ha; rw [add_block]; exact h3 x rfl (by omega)
  refine ⟨⟨(if c = k then A else A.map (·.add k)), c - k, ?_, ?_, rds_set ?_ (by simpa using hA), hA⟩, (cell_set_off _ (by omega)).trans h.bad, (frozen_set _).trans h.f0, (frozen_set _).trans h.f1⟩
  · rw [List.length_drop]; exact cell_set_self _ h0
  · rw [List.length_drop]; omega
  · have := h2.drop1 (k := k) (by simpa using hk) (by simpa using h1)
    rwa [map_drop] at this
theorem Rdr.grown {w w' : World} {p : Nat} {bs : List UInt8} {b : Bool} {row : Option Nat} (h : Rdr w p bs b) (hg : w.grownBy w' row) (hr : ∀ k, row = some k → p < k) : Rdr w' p bs b := by
  obtain ⟨A, c, h0, h1, h2, h3⟩ := h.ex
  have hp : p < w.heap.size := by have := World.block_lt_of_cell? w _ h0; exact this
  have hb : ∀ k, k ≤ p → w'.heap[k]? = w.heap[k]? := fun k hk => hg.block k (by omega) (fun e => by have := hr k e.symm; omega)
  refine ⟨⟨A, c, (World.cell?_of_block (hb p (Nat.le_refl _))).trans h0, h1, ?_, h3⟩, (World.cell?_of_block (hb p (Nat.le_refl _))).trans h.bad, (World.frozen?_of_block (hb p (Nat.le_refl _))).trans h.f0, (World.frozen?_of_block (hb p (Nat.le_refl _))).trans h.f1⟩
  intro i u hu
  obtain ⟨a, e, hc⟩ := h2 i u hu
  refine ⟨a, e, (World.cell?_of_block (hb _ ?_)).trans hc⟩
  rw [add_block]; exact Nat.le_of_lt (h3 a e (by have := (List.getElem?_eq_some_iff.1 hu).1; simp at this; omega))
theorem grown_same {w w1 w2 : World} {row : Option Nat} (h1 : w.grownBy w1 row) (h2 : w1.grownBy w2 row) : w.grownBy w2 row :=
  ⟨h2.os.trans h1.os, h2.tape.trans h1.tape, h2.output.trans h1.output, Nat.le_trans h1.size h2.size, fun k hk hne => (h2.block k (Nat.lt_of_lt_of_le hk h1.size) hne).trans (h1.block k hk hne)⟩
theorem rds_blk {w : World} {A : Option Addr} {n c : Nat} {bs : List UInt8} (hn : bs.length = n) (hr : Rds w A (bytesV bs)) (hA : A = none → n = 0 ∧ c = 0) : True := trivial
theorem numG_len {bs r : List UInt8} {n : Nat} (h : numG bs = some (n, r)) : n ≤ r.length ∧ r.length ≤ bs.length := by
  unfold numG at h
  cases hg : getB 0 0 bs with
  | none => rw [hg] at h; cases h
  | some x =>
    obtain ⟨m, k⟩ := x
    rw [hg] at h
    by_cases hle : m ≤ bs.length - k
    · simp only [hle, if_true] at h
      obtain ⟨rfl, rfl⟩ := h
      simp; omega
    · simp [hle] at h
theorem finG_zero (acc : List ByteArray) (r : List UInt8) : finG 0 acc r = if r = [] then some acc else none := by
  unfold finG textsG
  cases r <;> simp
theorem finG_none {k : Nat} {acc : List ByteArray} {r : List UInt8} (h : numG r = none) : finG (k + 1) acc r = none := by
  unfold finG textsG; rw [h]
theorem finG_some {k m : Nat} {acc : List ByteArray} {r r1 : List UInt8} (h : numG r = some (m, r1)) : finG (k + 1) acc r = finG k (acc ++ [bytesOf (r1.take m)]) (r1.drop m) := by
  unfold finG
  have e : textsG (k + 1) r = match textsG k (r1.drop m) with | none => none | some (l, r2) => some (bytesOf (r1.take m) :: l, r2) := by
    conv => lhs; unfold textsG
    rw [h]
  rw [e]
  cases textsG k (r1.drop m) with
  | none => rfl
  | some x => obtain ⟨l, r2⟩ := x; cases r2 <;> simp
theorem getL_big {bs : List UInt8} (h : 1048576 < bs.length) : getL bs = none := by unfold getL; rw [if_pos h]
theorem getL_none {bs : List UInt8} (h : numG bs = none) : getL bs = none := by unfold getL; rw [h]; split <;> rfl
theorem getL_some {bs r : List UInt8} {n : Nat} (hb : ¬ 1048576 < bs.length) (h : numG bs = some (n, r)) : getL bs = finG n [] r := by unfold getL; rw [if_neg hb, h]
theorem rdr_new {w : World} {A : Option Addr} {c : Nat} {bs : List UInt8} {bad : Bool} {t : TypeId} (hnc : bs.length ≤ c) (hr : Rds w A (bytesV bs)) :
    Rdr (w.alloc (.cells #[.slice A bs.length c, .bool bad] t)) w.heap.size bs bad :=
  ⟨⟨A, c, by rw [cell_of_row _ _ _ _ _ _ (heap_alloc_new _ _)]; rfl, hnc, hr.ext ((Below.refl _ _).alloc (Nat.le_refl _) _) (Nat.le_refl _), fun a e hl => hr.blk e (by simpa using hl)⟩, by rw [cell_of_row _ _ _ _ _ _ (heap_alloc_new _ _)]; rfl,
    frozen_of_row _ _ _ _ _ (heap_alloc_new _ _), frozen_of_row _ _ _ _ _ (heap_alloc_new _ _)⟩
theorem below_of_grown {B p : Nat} {w w' : World} (hg : w.grownBy w' (some p)) (hp : B ≤ p) (hB : B ≤ w.heap.size) {W : World} (h : Below B W w) : Below B W w' :=
  h.grown hg hB (fun k hk => by cases hk; exact hp)
theorem getR_none {bs : List UInt8} (h : getB 0 0 bs = none) : getR bs = (0, 0, 1) := by unfold getR; rw [h]
theorem getR_some {bs : List UInt8} {n k : Nat} (h : getB 0 0 bs = some (n, k)) : getR bs = ((n : Int), (k : Int), 0) := by unfold getR; rw [h]
end Lec
namespace Go.Proofs.Ytdbpgcaoakoojaa
open Go.RowKit Lec

def NumPost (w : World) (p : Nat) (A : Option Addr) (n c : Nat) (bs : List UInt8) (bad : Bool) (e : Ending) (w' : World) : Prop :=
  (rdN bad bs = none ∧ e = .returned (.int .i64 0) ∧ w.setCell ⟨p, 1, none⟩ (.bool true) = w') ∨
  (∃ m k : Nat, rdN bad bs = some (m, bs.drop k) ∧ bad = false ∧ k ≤ n ∧ m ≤ n - k ∧ e = .returned (.int .i64 (m : Int)) ∧ w.setCell ⟨p, 0, none⟩ (.slice (if c = k then A else A.map (·.add k)) (n - k) (c - k)) = w')

set_option maxRecDepth 100000 in
theorem number_any (w : World) (p : Nat) (A : Option Addr) (n c : Nat) (bs : List UInt8) (bad : Bool) (hn : bs.length = n) (hnc : n ≤ c) (hm : n ≤ 9223372036854775807)
    (hc0 : w.cell? ⟨p, 0, none⟩ = some (.slice A n c)) (hc1 : w.cell? ⟨p, 1, none⟩ = some (.bool bad)) (hf0 : w.frozen? ⟨p, 0, none⟩ = false) (hf1 : w.frozen? ⟨p, 1, none⟩ = false) (hr : Rds w A (bytesV bs)) :
    Calls Try.prog 25 #[.pointer (some ⟨p, 0, none⟩)] w (NumPost w p A n c bs bad) := by
  have HR := Lib.hid hr
  have HN := Lib.hid hn
  clear hr hn
  go_enter Try.func25, Try.ntmps25
  go_wp2_with fail
  refine (GetNum_any w A n c bs HN.out hm HR.out).mono ?_
  rintro e wy ⟨rfl, rfl⟩
  cases hg : getB 0 0 bs with
  | none =>
    rw [getR_none hg]
    have HE : Hid (rdN bad bs = none) := by show _ = _; unfold rdN numG; rw [hg]; simp
    clear hg
    cases bad
    · go_wp2
      go_ret
      exact .inl ⟨HE.out, rfl, rfl⟩
    · go_wp2
      go_ret
      exact .inl ⟨HE.out, rfl, rfl⟩
  | some x =>
    obtain ⟨m, k⟩ := x
    rw [getR_some hg]
    have hbd := getB_bound bs 0 0 m k (by omega) (by omega) hg
    have hkn : k ≤ n := by rw [← HN.out]; omega
    cases bad
    · by_cases hle : m ≤ n - k
      · have HE : Hid (rdN false bs = some (m, bs.drop k)) := by show _ = _; unfold rdN numG; rw [hg]; simp [HN.out, hle]
        clear hg hbd
        have hi : ¬ ((n : Int) - (k : Int)) < (m : Int) := by omega
        have hck : ((c : Int) - (k : Int)).toNat = c - k := by omega
        have hnk : ((n : Int) - (k : Int)).toNat = n - k := by omega
        go_wp2
        all_goals
          go_ret
          exact .inr ⟨m, k, HE.out, rfl, hkn, hle, rfl, by first | rfl | (rw [if_pos rfl, Nat.sub_self]) | (rw [if_neg (by omega)])⟩
      · have HE : Hid (rdN false bs = none) := by show _ = _; unfold rdN numG; rw [hg]; simp [HN.out, hle]
        clear hg hbd
        have hi : ((n : Int) - (k : Int)) < (m : Int) := by omega
        go_wp2
        go_ret
        exact .inl ⟨HE.out, rfl, rfl⟩
    · have HE : Hid (rdN true bs = none) := rfl
      clear hg hbd
      go_wp2
      go_ret
      exact .inl ⟨HE.out, rfl, rfl⟩

/-- The number that a reader reads, and how it stands then. -/
theorem number_rdr (w : World) (p : Nat) (bs : List UInt8) (bad : Bool) (hm : bs.length ≤ 9223372036854775807) (hr : Rdr w p bs bad) :
    Calls Try.prog 25 #[.pointer (some ⟨p, 0, none⟩)] w fun e w' => w.grownBy w' (some p) ∧ w'.heap.size = w.heap.size ∧
      ((rdN bad bs = none ∧ e = .returned (.int .i64 0) ∧ Rdr w' p bs true) ∨ (∃ m k : Nat, rdN bad bs = some (m, bs.drop k) ∧ bad = false ∧ k ≤ bs.length ∧ m ≤ bs.length - k ∧ e = .returned (.int .i64 (m : Int)) ∧ Rdr w' p (bs.drop k) false)) := by
  obtain ⟨A, c, h0, h1, h2, h3⟩ := hr.ex
  refine (number_any w p A bs.length c bs bad rfl h1 hm h0 hr.bad hr.f0 hr.f1 h2).mono ?_
  rintro e w' (⟨g1, g2, rfl⟩ | ⟨m, k, g1, g2, g3, g4, g5, rfl⟩)
  · exact ⟨setCell_grown _ _ _ _, by simp [World.setCell], .inl ⟨g1, g2, hr.wrong⟩⟩
  · subst g2
    exact ⟨setCell_grown _ _ _ _, by simp [World.setCell], .inr ⟨m, k, g1, rfl, g3, g4, g5, hr.on h0 h1 h2 h3 k g3⟩⟩

set_option maxRecDepth 100000 in
/-- The text that a reader reads. -/
theorem text_rdr (w : World) (p : Nat) (bs : List UInt8) (bad : Bool) (hm : bs.length ≤ 9223372036854775807) (hr : Rdr w p bs bad) :
    Calls Try.prog 26 #[.pointer (some ⟨p, 0, none⟩)] w fun e w' => w.grownBy w' (some p) ∧ w'.heap.size = w.heap.size ∧
      ((rdN bad bs = none ∧ e = .returned (.string (bytesOf [])) ∧ Rdr w' p bs true) ∨ (∃ m r, rdN bad bs = some (m, r) ∧ e = .returned (.string (bytesOf (r.take m))) ∧ Rdr w' p (r.drop m) false)) := by
  have HR := Lib.hid hr
  clear hr
  go_enter Try.func26, Try.ntmps26
  go_wp2_with fail
  refine (number_rdr w p bs bad hm HR.out).mono ?_
  rintro e w1 ⟨hg, hsz, ⟨hE, rfl, hr1⟩ | ⟨m, k, hE, rfl, hk, hmk, rfl, hr1⟩⟩
  · obtain ⟨A, c, h0, h1, h2, h3⟩ := hr1.ex
    have hf0 := hr1.f0
    have hcv := conv_str w1 23 9 5 Try.underlying23 Try.underlying5 Try.underlying9 A 0 c [] rfl (Rds.nil _ _)
    have H2 := Lib.hid h2
    have HE := Lib.hid hE
    clear hE h2
    go_wp2
    all_goals
      go_ret
      refine ⟨grown_same hg (setCell_grown _ _ _ _), by simp [World.setCell]; exact hsz, .inl ⟨HE.out, rfl, ?_⟩⟩
      rw [setCell_same _ _ _ _ h0]; exact hr1
  · have hlm : (bs.drop k).length = bs.length - k := List.length_drop
    obtain ⟨A, c, h0, h1, h2, h3⟩ := hr1.ex
    have hon := fun hk => hr1.on h0 h1 h2 h3 m hk
    rw [hlm] at h0 h1 hon
    have HON := Lib.hid (hon hmk)
    have hf0 := hr1.f0
    have hcv := conv_str w1 23 9 5 Try.underlying23 Try.underlying5 Try.underlying9 A m c ((bs.drop k).take m) (by rw [List.length_take, hlm]; omega) (by have := h2.take m; rwa [map_take] at this)
    have H2 := Lib.hid h2
    have hcm : ((c : Int) - (m : Int)).toNat = c - m := by omega
    have hnm : (((bs.length - k : Nat) : Int) - (m : Int)).toNat = bs.length - k - m := by omega
    have HE := Lib.hid hE
    clear hE h2 hon
    go_wp2
    all_goals
      go_ret
      refine ⟨grown_same hg (setCell_grown _ _ _ _), by simp [World.setCell]; exact hsz, .inr ⟨m, bs.drop k, HE.out, rfl, ?_⟩⟩
      have hon := HON.out
      first | exact hon | (rw [if_pos (by omega)] at hon; exact hon) | (rw [if_pos (by omega), show c - m = 0 by omega] at hon; exact hon) | (rw [if_neg (by omega)] at hon; exact hon)

theorem info_str : (Try.prog.info? 9).map (fun i => (i.zero, i.size, i.bytes)) = some (some (.string ⟨#[]⟩), 1, 16) := by kernel_rfl

def GetPost (bs : List UInt8) (w : World) (e : Ending) (w' : World) : Prop :=
  Below w.heap.size w w' ∧
  ((getL bs = none ∧ e = .returned (.tuple #[.slice none 0 0, .int .i64 1])) ∨
   (∃ l v, getL bs = some l ∧ e = .returned (.tuple #[v, .int .i64 0]) ∧ w'.ownsRow w.heap.size 9 1 v l.length (l.map Value.string)))

theorem number_first (w : World) (p : Nat) (bs : List UInt8) (bad : Bool) (hbad : bad = decide (1048576 < bs.length)) (hm : bs.length ≤ 9223372036854775807) (hr : Rdr w p bs bad) :
    Calls Try.prog 25 #[.pointer (some ⟨p, 0, none⟩)] w fun e w' => w.grownBy w' (some p) ∧ w'.heap.size = w.heap.size ∧
      ∃ k rs bad', e = .returned (.int .i64 ((k : Nat) : Int)) ∧ k ≤ 1048576 ∧ rs.length ≤ bs.length ∧ Rdr w' p rs bad' ∧ getL bs = (if bad' then none else finG k [] rs) := by
  refine (number_rdr w p bs bad hm hr).mono ?_
  rintro e w' ⟨hg, hs, ⟨h1, h2, h3⟩ | ⟨m, k, h1, h2, h3, h4, h5, h6⟩⟩
  · refine ⟨hg, hs, 0, bs, true, h2, by omega, Nat.le_refl _, h3, ?_⟩
    by_cases hb : 1048576 < bs.length
    · rw [getL_big hb]; rfl
    · subst hbad
      rw [decide_eq_false hb] at h1
      rw [getL_none h1]; rfl
  · subst h2
    have hb : ¬ 1048576 < bs.length := by simpa using hbad
    have hl : (bs.drop k).length = bs.length - k := List.length_drop
    exact ⟨hg, hs, m, bs.drop k, false, h5, by omega, by omega, h6, by rw [getL_some hb h1]; rfl⟩

set_option maxRecDepth 100000 in
theorem Get_any (w : World) (A : Option Addr) (n c : Nat) (bs : List UInt8) (hn : bs.length = n) (hnc : n ≤ c) (hm : n ≤ 9223372036854775807) (hr : Rds w A (bytesV bs)) :
    Calls Try.prog 15 #[.slice A n c] w (GetPost bs w) := by
  subst hn
  have hdd : decide ((1048576 : Int) < (bs.length : Int)) = decide (1048576 < bs.length) := by congr 1; exact propext (by omega)
  have HR : Hid (Rdr (w.alloc (.cells #[.slice A bs.length c, .bool (decide ((1048576 : Int) < (bs.length : Int)))] 60)) w.heap.size bs (decide (1048576 < bs.length))) := by
    show Rdr _ _ _ _; rw [hdd]; exact rdr_new hnc hr
  clear hr
  have HDD := Lib.hid hdd
  clear hdd
  go_enter Try.func15, Try.ntmps15
  go_wp2_with fail
  refine (number_first _ w.heap.size bs _ rfl hm HR.out).mono ?_
  rintro e w1 ⟨hg, hsz, k0, rs0, bad0, rfl, hk0, hl0, hr0, hG0⟩
  have HR0 := Lib.hid hr0
  have HG0 := Lib.hid hG0
  have hp1 : w.heap.size + 1 ≤ w1.heap.size := by rw [hsz]; simp
  have HX0 : Hid (Below w.heap.size w w1) := below_of_grown hg (Nat.le_refl _) (by simp) ((Below.refl _ _).alloc (Nat.le_refl _) _)
  clear hr0 hG0 HR hg hsz
  go_wp2
  go_loopw [2, 5] (fun v i wr => ∃ (k : Nat) (acc : List ByteArray) (rs : List UInt8) (bad : Bool), i = .int .i64 (k : Int) ∧ acc.length + k ≤ 1048576 ∧ rs.length ≤ bs.length ∧ w.heap.size + 1 ≤ wr.heap.size ∧
      Hid (wr.ownsRow (w.heap.size + 1) 9 1 v acc.length (acc.map Value.string)) ∧ Hid (Rdr wr w.heap.size rs bad) ∧ Hid (Below w.heap.size w wr) ∧ Hid (getL bs = if bad then none else finG k acc rs)) (fun _ i _ => (intOf i).toNat)
  case atStart => exact ⟨k0, [], rs0, bad0, rfl, by simpa using hk0, hl0, hp1, World.ownsRow_nil _ _ _ _, HR0, HX0, HG0⟩
  case round =>
    clear HR0 HG0 HX0 hp1 hk0 hl0
    obtain ⟨k, acc, rs, bad, rfl, hak, hrl, hwp, HO, HRD, HX, HG⟩ := hrel
    obtain ⟨A1, c1, h0, h1, h2, h3⟩ := HRD.out.ex
    have hcb := HRD.out.bad
    have H2 := Lib.hid h2
    clear h2
    by_cases hk : 0 < k
    · obtain ⟨k, rfl⟩ : ∃ j, k = j + 1 := ⟨k - 1, by omega⟩
      have hki : (0 : Int) < ((k + 1 : Nat) : Int) := by omega
      cases bad
      · go_wp2_with fail
        refine (text_rdr wr w.heap.size rs false (by omega) HRD.out).mono ?_
        rintro e w2 ⟨hg, hsz, hE⟩
        obtain ⟨t, r', b', rfl, hr1, hlast, hrl'⟩ : ∃ t r' b', e = .returned (.string t) ∧ Rdr w2 w.heap.size r' b' ∧ (getL bs = if b' then none else finG k (acc ++ [t]) r') ∧ r'.length ≤ bs.length := by
          rcases hE with ⟨hE, rfl, hr1⟩ | ⟨m, r, hE, rfl, hr1⟩
          · exact ⟨_, rs, true, rfl, hr1, by rw [HG.out]; exact finG_none hE, hrl⟩
          · exact ⟨_, r.drop m, false, rfl, hr1, by rw [HG.out]; exact finG_some hE, by have := numG_len hE; rw [List.length_drop]; omega⟩
        have HO2 : Hid (w2.ownsRow (w.heap.size + 1) 9 1 u2 acc.length (acc.map Value.string)) := own_grown HO.out hg (fun k hk e => by have := (HO.out.lt k hk).1; have := Option.some.inj e; omega)
        have HX2 : Hid (Below w.heap.size w w2) := below_of_grown hg (Nat.le_refl _) (by omega) HX.out
        have HR2 := Lib.hid hr1
        have HL2 := Lib.hid hlast
        have hw2 : w.heap.size + 1 ≤ w2.heap.size := by omega
        clear hE hg hr1 hlast HO HX HG HRD hsz
        go_wp2_with (at_builtin; refine wp_app1 (w0 := w2) rfl rfl _ _ 45 rfl (w.heap.size + 1) 9 (.string ⟨#[]⟩) 1 16 Try.underlying45 info_str rfl (by decide) (by decide) _ acc.length _ rfl HO2.out rfl rfl (one_cell1 rfl) (by omega) (by omega) ?_; intro v' w' hown' hg' hb')
        have HR3 : Hid (Rdr w' w.heap.size r' b') := by
          have hr2 : ∀ o, Rdr (w2.alloc o) w.heap.size r' b' := fun o => HR2.out.grown (row := none) (grown_below (Below.alloc (Below.refl _ _) (Nat.le_refl _) _) (Nat.le_refl _)) (fun k e => by cases e)
          exact (hr2 _).grown hg' (fun k e => by have := (HO2.out.lt k e).1; omega)
        go_roundw
        case rel => exact ⟨k, acc ++ [t], r', b', by go_num, by simp; omega, hrl', by have := hb'.size; omega, by show World.ownsRow _ _ _ _ _ _ _; rw [List.map_append, List.length_append]; exact hown', HR3, HX2.out.trans (hb'.mono (by omega)), HL2⟩
        case measure => simp [intOf]
      · have HN : Hid (getL bs = none) := HG.out
        go_wp2
        go_ret2
        exact ⟨HX.out, .inl ⟨HN.out, rfl⟩⟩
    · obtain rfl : k = 0 := by omega
      cases bad
      · have HF : Hid (getL bs = if rs = [] then some acc else none) := by show _ = _; rw [HG.out]; exact finG_zero acc rs
        by_cases he : rs = []
        · have hl : rs.length = 0 := by rw [he]; rfl
          rw [hl] at h0
          go_wp2
          go_ret2
          exact ⟨HX.out, .inr ⟨acc, _, by rw [HF.out, if_pos he], rfl, own_lower HO.out (by omega)⟩⟩
        · have hl : (0 : Int) < (rs.length : Int) := by have := List.length_pos_iff.2 he; omega
          go_wp2
          go_ret2
          exact ⟨HX.out, .inl ⟨by rw [HF.out, if_neg he], rfl⟩⟩
      · have HN : Hid (getL bs = none) := HG.out
        go_wp2
        go_ret2
        exact ⟨HX.out, .inl ⟨HN.out, rfl⟩⟩
end Go.Proofs.Ytdbpgcaoakoojaa
